/-
  The cache's map: what it holds, said by what is found in it. Keys: how many symbols are enough, and which ones there are.
-/
import Derived.Test.YtlmpagicjgldkaaGreatKept
import Derived.Maps.Own
import Derived.Maps.OwnSet
import Derived.Maps.OwnOps
import Derived.Maps.RangeWalk
import Derived.DeepKeys4
namespace Go.Proofs.YtlmpagicjgldkaaGreat
open Go.RowKit Go.Maps
set_option linter.unusedVariables false
set_option linter.unusedSimpArgs false
set_option maxRecDepth 100000
set_option maxHeartbeats 1000000

theorem laidO : laidOutB Tryz.prog = true := by kernel_rfl
theorem keyed : Maps.Keyed Tryz.prog 86 := Maps.Keyed.of_law (deep_law_laid laidO (m := 3) (by omega) (k := 86) (of_decide_eq_true (by kernel_rfl)) (by kernel_rfl) (by kernel_rfl))

/-- A key's cells. -/
def kcells (k : Int) (xs : List Int) : List Value := .int .i64 k :: (List.range 255).map fun i => .int .u8 (xs.getD i 0)
theorem kcells_len (k : Int) (xs : List Int) : (kcells k xs).length = 256 := by simp [kcells]
def keyV (k : Int) (xs : List Int) : Value := .agg (kcells k xs).toArray
/-- Indexes that are bytes; not too many. -/
structure Idx (k : Int) (xs : List Int) : Prop where
  k0 : -9223372036854775808 ≤ k
  k1 : k ≤ 9223372036854775807
  len : xs.length ≤ 255
  rng : ∀ x ∈ xs, 0 ≤ x ∧ x ≤ 255
theorem Idx.getD {k : Int} {xs : List Int} (h : Idx k xs) (i : Nat) : 0 ≤ xs.getD i 0 ∧ xs.getD i 0 ≤ 255 := by
  rw [List.getD_eq_getElem?_getD]
  cases e : xs[i]? with
  | none => simp
  | some x => simpa using h.rng x (List.mem_of_getElem? e)

theorem mapM_some {α β : Type} (f : α → Option β) : ∀ l : List α, (∀ x ∈ l, ∃ y, f x = some y) → ∃ ys, l.mapM f = some ys
  | [], _ => ⟨[], rfl⟩
  | a :: l, h => by
    obtain ⟨y, hy⟩ := h a (by simp)
    obtain ⟨ys, hys⟩ := mapM_some f l (fun x hx => h x (by simp [hx]))
    exact ⟨y :: ys, by rw [List.mapM_cons, hy, hys]; rfl⟩

theorem lits_u8 (d : Nat) (x : Int) (h0 : 0 ≤ x) (h1 : x ≤ 255) : ∃ l, Tryz.prog.keyLits (d + 1) 5 [.int .u8 x] = some l := by
  unfold Program.keyLits
  rw [Tryz.underlying5]
  refine ⟨[.int .u8 x], ?_⟩
  have : (Lit.int .u8 x).wf = true := by simp [Lit.wf, IntKind.min, IntKind.max, IntKind.signed, IntKind.bits]; omega
  simp [this]
theorem lits_int (d : Nat) (x : Int) (h0 : -9223372036854775808 ≤ x) (h1 : x ≤ 9223372036854775807) : ∃ l, Tryz.prog.keyLits (d + 1) 3 [.int .i64 x] = some l := by
  unfold Program.keyLits
  rw [Tryz.underlying3]
  refine ⟨[.int .i64 x], ?_⟩
  have : (Lit.int .i64 x).wf = true := by simp [Lit.wf, IntKind.min, IntKind.max, IntKind.signed, IntKind.bits]; omega
  simp [this]
theorem arrCells : Tryz.prog.cellsOf 84 = 255 := by kernel_rfl
theorem u8Cells : Tryz.prog.cellsOf 5 = 1 := by kernel_rfl
theorem intCells : Tryz.prog.cellsOf 3 = 1 := by kernel_rfl
theorem keyCells : Tryz.prog.cellsOf 86 = 256 := by kernel_rfl
theorem lits_arr (d : Nat) (f : Nat → Int) (h : ∀ i, 0 ≤ f i ∧ f i ≤ 255) : ∃ l, Tryz.prog.keyLits (d + 2) 84 ((List.range 255).map fun i => .int .u8 (f i)) = some l := by
  unfold Program.keyLits
  rw [Tryz.underlying84]
  have hl : ((List.range 255).map fun i => Value.int .u8 (f i)).length = Tryz.prog.cellsOf 84 := by rw [arrCells]; simp
  obtain ⟨ys, hys⟩ := mapM_some (fun i => Tryz.prog.keyLits (d + 1) 5 ((((List.range 255).map fun i => Value.int .u8 (f i)).drop (i * Tryz.prog.cellsOf 5)).take (Tryz.prog.cellsOf 5))) (List.range 255) (fun i hi => by
    have hi' : i < 255 := List.mem_range.1 hi
    obtain ⟨l, hl⟩ := lits_u8 d (f i) (h i).1 (h i).2
    refine ⟨l, ?_⟩
    rw [u8Cells, Nat.mul_one, ← hl]
    congr 1
    apply List.ext_getElem?
    intro j
    by_cases hj : j = 0
    · subst hj
      simp [List.getElem?_take, List.getElem?_drop, List.getElem?_map, List.getElem?_range hi']
    · obtain ⟨j, rfl⟩ := Nat.exists_eq_succ_of_ne_zero hj
      simp [List.getElem?_take])
  refine ⟨ys.flatten, ?_⟩
  simp only [hl, if_true, hys, Option.map_some]
theorem keyOf_some {k : Int} {xs : List Int} (h : Idx k xs) : ∃ l, keyOf Tryz.prog 86 (keyV k xs) = some l := by
  have hk : Tryz.prog.keyType 86 = true := by kernel_rfl
  have hts : ∃ m, Tryz.prog.types.size = m + 2 := ⟨Tryz.prog.types.size - 2, by
    have : 2 ≤ Tryz.prog.types.size := of_decide_eq_true (by kernel_rfl)
    omega⟩
  obtain ⟨m, hts⟩ := hts
  obtain ⟨l0, h0⟩ := lits_int (m + 1) k h.k0 h.k1
  obtain ⟨l1, h1⟩ := lits_arr m (fun i => xs.getD i 0) h.getD
  unfold keyOf
  rw [Tryz.underlying86]
  have hf : (keyV k xs).formed Tryz.prog 86 = true := by
    unfold keyV Value.formed
    rw [Tryz.underlying86]
    simp only [keyCells]
    simp [kcells_len]
  rw [hts]
  simp only [hk, hf, Bool.and_self, if_true]
  refine ⟨.string (keyBytes ([l0, l1].flatten)), ?_⟩
  have : Tryz.prog.keyLits (m + 2 + 1) 86 (keyV k xs).cells.toList = some [l0, l1].flatten := by
    unfold Program.keyLits
    rw [Tryz.underlying86]
    have hc : (keyV k xs).cells.toList = kcells k xs := by simp [keyV, Value.cells]
    rw [hc]
    have e0 : (List.take 1 (kcells k xs)) = [.int .i64 k] := rfl
    have e1 : (List.take 255 (kcells k xs).tail) = (List.range 255).map fun i => .int .u8 (xs.getD i 0) := by
      simp [kcells]
      exact List.take_of_length_le (by simp)
    simp only [keyCells, kcells_len, intCells, arrCells]
    simp only [List.getD_eq_getElem?_getD] at e1 h1
    simp [List.mapM_cons, e0, e1, h0, h1, intCells, arrCells]
  rw [this]
  rfl
/-- What a key reads as. -/
noncomputable def kl (k : Int) (xs : List Int) : Lit := (keyOf Tryz.prog 86 (keyV k xs)).getD (.bool false)
theorem kl_key {k : Int} {xs : List Int} (h : Idx k xs) : keyOf Tryz.prog 86 (keyV k xs) = some (kl k xs) := by
  obtain ⟨l, hl⟩ := keyOf_some h
  unfold kl
  rw [hl]
  rfl
theorem kl_is {k : Int} {xs : List Int} (h : Idx k xs) : WideAt.IsKeyLit (kl k xs) := keyed.key (kl_key h)
theorem kl_inj {k k' : Int} {xs xs' : List Int} (h : Idx k xs) (h' : Idx k' xs') (hl : xs.length = xs'.length) (e : kl k xs = kl k' xs') : k = k' ∧ xs = xs' := by
  have h1 := kl_key h
  rw [e] at h1
  have h2 := keyed.inj h1 (kl_key h')
  unfold keyV at h2
  have h3 : kcells k xs = kcells k' xs' := by
    have := Value.agg.inj h2
    simpa using congrArg Array.toList this
  unfold kcells at h3
  obtain ⟨e1, e2⟩ := List.cons.inj h3
  refine ⟨(Value.int.inj e1).2, ?_⟩
  apply List.ext_getElem?
  intro i
  by_cases hi : i < xs.length
  · have hi' : i < xs'.length := by omega
    have h4 := congrArg (fun l : List Value => l[i]?) e2
    have h5 := h.len
    simp only [List.getElem?_map] at h4
    rw [List.getElem?_range (by omega)] at h4
    simp only [Option.map_some, Option.some.injEq] at h4
    have h6 := (Value.int.inj h4).2
    rw [List.getD_eq_getElem?_getD, List.getD_eq_getElem?_getD, List.getElem?_eq_getElem hi, List.getElem?_eq_getElem hi'] at h6
    rw [List.getElem?_eq_getElem hi, List.getElem?_eq_getElem hi']
    simpa using h6
  · rw [List.getElem?_eq_none (by omega), List.getElem?_eq_none (by omega)]

/-- Another key? -/
def neK (l : Lit) (p : Lit × Value) : Bool := !p.1.sameKey l
theorem neK_iff {l : Lit} (h : WideAt.IsKeyLit l) (p : Lit × Value) : neK l p = true ↔ p.1 ≠ l := by
  unfold neK
  constructor
  · intro e e2
    rw [e2, WideAt.sameKey_self h] at e
    cases e
  · intro e
    rw [sameKey_ne e]
    rfl
theorem neK_off {l : Lit} (h : WideAt.IsKeyLit l) {es : List (Lit × Value)} (hn : ∀ p ∈ es, p.1 ≠ l) : es.filter (neK l) = es := List.filter_eq_self.2 (fun p hp => (neK_iff h p).2 (hn p hp))
theorem neK_len {l : Lit} (h : WideAt.IsKeyLit l) : ∀ {es : List (Lit × Value)} (hn : (es.map (·.1)).Nodup) {p : Lit × Value} (hp : p ∈ es) (e : p.1 = l), (es.filter (neK l)).length + 1 = es.length
  | [], _, _, hp, _ => by simp at hp
  | q :: r, hn, p, hp, e => by
    obtain ⟨h1, h2⟩ := List.nodup_cons.1 hn
    by_cases eq : q.1 = l
    · have : neK l q = false := by
        cases hq : neK l q
        · rfl
        · exact absurd eq ((neK_iff h q).1 hq)
      rw [List.filter_cons_of_neg (by simp [this]), neK_off h (fun p hp e2 => h1 (List.mem_map.2 ⟨p, hp, by rw [e2]; exact eq.symm⟩))]
      rfl
    · rw [List.filter_cons_of_pos ((neK_iff h q).2 eq)]
      rcases List.mem_cons.1 hp with rfl | hp'
      · exact absurd e eq
      · have := neK_len h h2 hp' e
        simp only [List.length_cons]
        omega

/-- How an element reads: as itself. -/
def heldR (v : Value) : Option (DataW Value × List MemPlace) := some (.held v, [])

/-- The map at block b holds just these keys, with these values. -/
def MapIs (w : World) (b : Nat) (es : List (Lit × Value)) : Prop :=
  ∃ D, w.ownsMap Tryz.prog 86 heldR b (Maps.size D) D ∧ Maps.size D = es.length ∧ (es.map (·.1)).Nodup ∧ (∀ p ∈ es, ∀ z, D.atKey p.1 z = .held p.2) ∧ ∀ l, Maps.has D l = true → ∃ p ∈ es, p.1 = l

theorem owns_tight {w : World} {b n : Nat} {D : DataW Value} (h : w.ownsMap Tryz.prog 86 heldR b n D) : w.ownsMap Tryz.prog 86 heldR b (Maps.size D) D := by
  obtain ⟨es, clock, hb, F, hs, hD⟩ := h
  refine ⟨es, clock, hb, F, ?_, hD⟩
  subst hD
  simp [Maps.size, length_sorted]

section
variable {w w' : World} {b : Nat} {es : List (Lit × Value)}
theorem MapIs.lt (h : MapIs w b es) : b < w.heap.size := by
  obtain ⟨D, ho, _⟩ := h
  exact ho.lt
theorem MapIs.kept {S : Nat → Prop} (h : MapIs w b es) (hk : Kept S w w') (hS : ¬ S b) : MapIs w' b es := by
  obtain ⟨D, ho, r⟩ := h
  have hlt := ho.lt
  obtain ⟨arr, clock, hb, F, hs, hD⟩ := ho
  exact ⟨D, ⟨arr, clock, (hk.block b hlt hS).trans hb, F, hs, hD⟩, r⟩
theorem MapIs.made (w : World) : MapIs (w.alloc (.map #[] 0)) w.heap.size [] :=
  ⟨.map [], World.ownsMap_made w _ _ _, rfl, List.nodup_nil, fun p hp => by simp at hp, fun l hl => by simp [Maps.has] at hl⟩
theorem MapIs.nodup (h : MapIs w b es) : (es.map (·.1)).Nodup := by
  obtain ⟨D, _, _, hn, _⟩ := h
  exact hn
/-- 'v, is := m[k]'. -/
theorem MapIs.look {k : Int} {xs : List Int} (h : MapIs w b es) (hk : Idx k xs) (z : Value) (hz : (zeroValue 90).run Tryz.prog w = .ok z w) :
    (∃ p ∈ es, p.1 = kl k xs ∧ (Instr.lookup 60 (.map (some b)) (keyV k xs) true).run Tryz.prog w = .ok (.tuple #[p.2, .bool true]) w) ∨
      ((∀ p ∈ es, p.1 ≠ kl k xs) ∧ (Instr.lookup 60 (.map (some b)) (keyV k xs) true).run Tryz.prog w = .ok (.tuple #[z, .bool false]) w) := by
  obtain ⟨D, ho, hs, hn, ha, hh⟩ := h
  obtain ⟨v, ps, hrun, hv⟩ := ho.look_ok keyed Tryz.underlying60 hz (zd := .held z) (zp := []) rfl (kl_key hk)
  have hv' : v = z ∧ D.atKey (kl k xs) (.held z) = .held z ∨ D.atKey (kl k xs) (.held z) = .held v := by
    right
    have := congrArg (fun o : Option (DataW Value × List MemPlace) => o.map Prod.fst) hv
    simpa [heldR] using this.symm
  have hat : D.atKey (kl k xs) (.held z) = .held v := by
    have := congrArg (fun o : Option (DataW Value × List MemPlace) => o.map Prod.fst) hv
    simpa [heldR] using this.symm
  cases hb : Maps.has D (kl k xs)
  · right
    refine ⟨fun p hp e => ?_, ?_⟩
    · have := has_true_of_atKey (ha p hp)
      rw [e, hb] at this
      cases this
    · have e1 := atKey_of_not_has hb (.held z)
      rw [hat] at e1
      have e2 : v = z := by injection e1
      rw [hb, e2] at hrun
      exact hrun
  · left
    obtain ⟨p, hp, e⟩ := hh _ hb
    refine ⟨p, hp, e, ?_⟩
    have e1 := ha p hp (.held z)
    rw [e, hat] at e1
    have e2 : v = p.2 := by injection e1
    rw [hb, e2] at hrun
    exact hrun
theorem MapIs.len (h : MapIs w b es) (ty : TypeId) : (Builtin.len_ #[60] ty #[.map (some b)]).run Tryz.prog w = .ok (.int .i64 (es.length : Nat)) w := by
  obtain ⟨D, ho, hs, _⟩ := h
  rw [← hs]
  exact ho.len Tryz.underlying60 ty
theorem kept_turned {w' : World} (h : w.mapTurned w' b) : Kept (fun i => i = b) w w' := by
  have g := h.grown
  exact ⟨g.os, g.tape, g.output, g.size, fun i hi hn => g.block i hi (by simpa using hn)⟩
/-- 'm[k] = v': a new key, or one that is there. -/
theorem MapIs.put {k : Int} {xs : List Int} (h : MapIs w b es) (hk : Idx k xs) (v : Value) (hl : es.length < 1000000) :
    ∃ w', (Instr.mapUpdate 60 (.map (some b)) (keyV k xs) v).run Tryz.prog w = .ok () w' ∧ MapIs w' b (es.filter (neK (kl k xs)) ++ [(kl k xs, v)]) ∧ w.mapTurned w' b := by
  obtain ⟨D, ho, hs, hn, ha, hh⟩ := h
  obtain ⟨w', hrun, ho', ht⟩ := ho.store keyed Tryz.underlying60 (by rw [hs]; unfold maxLen; omega) (kl_key hk) (d := .held v) (ps := []) rfl
  have htd := ho.tidy keyed
  have him := htd.isMap
  have hkl := kl_is hk
  refine ⟨w', hrun, ⟨D.put (kl k xs) (.held v), owns_tight ho', ?_, ?_, ?_, ?_⟩, ht⟩
  · rw [size_put htd, hs, List.length_append]
    have hfl : (es.filter (neK (kl k xs))).length + (if Maps.has D (kl k xs) then 1 else 0) = es.length := by
      cases hb : Maps.has D (kl k xs)
      · rw [neK_off hkl (fun p hp e => by
          have := has_true_of_atKey (ha p hp)
          rw [e, hb] at this
          cases this)]
        simp
      · obtain ⟨p, hp, e⟩ := hh _ hb
        simpa using neK_len hkl hn hp e
    simp only [List.length_cons, List.length_nil]
    cases hb : Maps.has D (kl k xs)
    · rw [hb] at hfl; simp only [Bool.false_eq_true, if_false] at hfl ⊢; omega
    · rw [hb] at hfl; simp at hfl ⊢; omega
  · rw [List.map_append, List.nodup_append]
    refine ⟨?_, by simp, ?_⟩
    · exact (List.filter_sublist.map _).nodup hn
    · intro a ha1 c hc e
      obtain ⟨p, hp, rfl⟩ := List.mem_map.1 ha1
      have := (neK_iff hkl p).1 (List.mem_filter.1 hp).2
      simp at hc
      exact this (e.trans hc)
  · intro p hp z
    rcases List.mem_append.1 hp with hp | hp
    · obtain ⟨h1, h2⟩ := List.mem_filter.1 hp
      rw [atKey_put_other ((neK_iff hkl p).1 h2)]
      exact ha p h1 z
    · have : p = (kl k xs, v) := by simpa using hp
      subst this
      exact atKey_put_same him hkl _ _
  · intro l hl
    by_cases e : l = kl k xs
    · exact ⟨(kl k xs, v), by simp, e.symm⟩
    · rw [has_put_other e] at hl
      obtain ⟨p, hp, e2⟩ := hh l hl
      exact ⟨p, List.mem_append_left _ (List.mem_filter.2 ⟨hp, (neK_iff hkl p).2 (by rw [e2]; exact e)⟩), e2⟩
/-- 'delete(m, k)'. -/
theorem MapIs.del {k : Int} {xs : List Int} (h : MapIs w b es) (hk : Idx k xs) (ty : TypeId) (p : Lit × Value) (hp : p ∈ es) (hpk : p.1 = kl k xs) :
    ∃ w', (Builtin.delete_ #[60, 86] ty #[.map (some b), keyV k xs]).run Tryz.prog w = .ok (.tuple #[]) w' ∧ MapIs w' b (es.filter (neK (kl k xs))) ∧ w.mapTurned w' b := by
  obtain ⟨D, ho, hs, hn, ha, hh⟩ := h
  obtain ⟨w', hrun, ho', ht⟩ := ho.drop keyed Tryz.underlying60 (kl_key hk) ty
  have htd := ho.tidy keyed
  have hb : Maps.has D (kl k xs) = true := by rw [← hpk]; exact has_true_of_atKey (ha p hp)
  refine ⟨w', hrun, ⟨D.del (kl k xs), owns_tight ho', ?_, (List.filter_sublist.map _).nodup hn, ?_, ?_⟩, ht⟩
  · have h1 := size_del (k := kl k xs) htd
    rw [hb, hs] at h1
    simp only [if_true] at h1
    have := neK_len (kl_is hk) hn hp hpk
    omega
  · intro p hp z
    obtain ⟨h1, h2⟩ := List.mem_filter.1 hp
    rw [atKey_del_other ((neK_iff (kl_is hk) p).1 h2)]
    exact ha p h1 z
  · intro l hl
    by_cases e : l = kl k xs
    · rw [e, has_del_same] at hl; cases hl
    · rw [has_del_other e] at hl
      obtain ⟨p, hp, e2⟩ := hh l hl
      exact ⟨p, List.mem_filter.2 ⟨hp, (neK_iff (kl_is hk) p).2 (by rw [e2]; exact e)⟩, e2⟩
end
end Go.Proofs.YtlmpagicjgldkaaGreat
