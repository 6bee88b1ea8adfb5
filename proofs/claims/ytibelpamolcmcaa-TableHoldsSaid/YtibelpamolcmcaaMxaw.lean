/-
  GpA: Maps by numbers, whatever they hold: said by what is found in them.
  GpD: Walks of layer 17 (group): the store's keys, sorted: maps.Keys, its iterator, slices.AppendSeq, Collect, Sorted; rising.
  GpE: Walks of layer 17 (group): rising: the iterator over the store, in order.
-/
import Derived.Test.YtibelpamolcmcaaKept
import Derived.Maps.Own
import Derived.Maps.OwnSet
import Derived.Maps.OwnOps
import Derived.Maps.RangeWalk
import Derived.Sort.MapsRangeIn
import Derived.Test.YtibelpamolcmcaaShelf
import Derived.Test.YtibelpamolcmcaaMxah
import Derived.RangeFuncNested
import Derived.RangeFuncBound
import Derived.RangeFuncCalls
import Derived.RangeFuncLeaves
import Derived.RangeFuncBox
import Derived.RangeFuncMany
import Derived.Shelf.Abstract
import Derived.TacticsInMore
import Derived.LoopNIn
import Derived.LoopIn
import Derived.Maps.AppendAt
import Derived.Sort.OwnSortedInts
import Derived.Maps.OwnIn
namespace Go.Proofs.Ytibelpamolcmcaa

section -- GpA
open Go.RowKit Go.Maps
set_option linter.unusedVariables false
set_option linter.unusedSimpArgs false
set_option maxRecDepth 100000
set_option maxHeartbeats 1000000

theorem keyedI : Maps.Keyed Try.prog 3 := Maps.int_keyed Try.underlying3
/-- A number that is one. -/
def In64 (x : Int) : Prop := -9223372036854775808 ≤ x ∧ x ≤ 9223372036854775807
theorem In64.wf {x : Int} (h : In64 x) : (Lit.int .i64 x).wf = true := by
  unfold In64 at h
  simp [Lit.wf, IntKind.min, IntKind.max, IntKind.signed, IntKind.bits]; omega
theorem keyI {x : Int} (h : In64 x) : keyOf Try.prog 3 (.int .i64 x) = some (.int .i64 x) := Maps.keyOf_int_mk (k := 3) Try.underlying3 h.wf
theorem isKeyI {x : Int} (h : In64 x) : WideAt.IsKeyLit (.int .i64 x) := keyedI.key (keyI h)
/-- How an element reads: as itself. -/
def selfR (v : Value) : Option (DataW Value × List MemPlace) := some (.held v, [])

/-- The map at block b holds just these numbers, with these values. -/
def MapI (w : World) (b : Nat) (es : List (Int × Value)) : Prop :=
  ∃ D, w.ownsMap Try.prog 3 selfR b (Maps.size D) D ∧ Maps.size D = es.length ∧ (es.map (·.1)).Nodup ∧ (∀ p ∈ es, In64 p.1) ∧ (∀ p ∈ es, ∀ z, D.atKey (.int .i64 p.1) z = .held p.2) ∧ ∀ l, Maps.has D l = true → ∃ p ∈ es, l = .int .i64 p.1

/-- Another number? -/
def neI (x : Int) (p : Int × Value) : Bool := p.1 != x
theorem neI_iff (x : Int) (p : Int × Value) : neI x p = true ↔ p.1 ≠ x := by simp [neI]
theorem neI_off {x : Int} {es : List (Int × Value)} (hn : ∀ p ∈ es, p.1 ≠ x) : es.filter (neI x) = es := List.filter_eq_self.2 (fun p hp => (neI_iff x p).2 (hn p hp))
theorem neI_len {x : Int} : ∀ {es : List (Int × Value)} (hn : (es.map (·.1)).Nodup) {p : Int × Value} (hp : p ∈ es) (e : p.1 = x), (es.filter (neI x)).length + 1 = es.length
  | [], _, _, hp, _ => by simp at hp
  | q :: r, hn, p, hp, e => by
    obtain ⟨h1, h2⟩ := List.nodup_cons.1 hn
    by_cases eq : q.1 = x
    · have : neI x q = false := by simp [neI, eq]
      rw [List.filter_cons_of_neg (by simp [this]), neI_off (fun p hp e2 => h1 (List.mem_map.2 ⟨p, hp, by rw [e2]; exact eq.symm⟩))]
      rfl
    · rw [List.filter_cons_of_pos ((neI_iff x q).2 eq)]
      rcases List.mem_cons.1 hp with rfl | hp'
      · exact absurd e eq
      · have := neI_len h2 hp' e
        simp only [List.length_cons]
        omega

theorem owns_tightI {w : World} {b n : Nat} {D : DataW Value} (h : w.ownsMap Try.prog 3 selfR b n D) : w.ownsMap Try.prog 3 selfR b (Maps.size D) D := by
  obtain ⟨es, clock, hb, F, hs, hD⟩ := h
  refine ⟨es, clock, hb, F, ?_, hD⟩
  subst hD
  simp [Maps.size, length_sorted]

section
variable {w w' : World} {b : Nat} {es es' : List (Int × Value)}
theorem MapI.lt (h : MapI w b es) : b < w.heap.size := by
  obtain ⟨D, ho, _⟩ := h
  exact ho.lt
theorem MapI.kept {S : Nat → Prop} (h : MapI w b es) (hk : Kept S w w') (hS : ¬ S b) : MapI w' b es := by
  obtain ⟨D, ho, r⟩ := h
  have hlt := ho.lt
  obtain ⟨arr, clock, hb, F, hs, hD⟩ := ho
  exact ⟨D, ⟨arr, clock, (hk.block b hlt hS).trans hb, F, hs, hD⟩, r⟩
theorem MapI.below (h : MapI w b es) (hb : Below w.heap.size w w') : MapI w' b es := h.kept (Kept.below hb) (fun h => h)
theorem MapI.made (w : World) : MapI (w.alloc (.map #[] 0)) w.heap.size [] :=
  ⟨.map [], World.ownsMap_made w _ _ _, rfl, List.nodup_nil, fun p hp => by simp at hp, fun p hp => by simp at hp, fun l hl => by simp [Maps.has] at hl⟩
theorem MapI.nodup (h : MapI w b es) : (es.map (·.1)).Nodup := by
  obtain ⟨D, _, _, hn, _⟩ := h
  exact hn
theorem MapI.in64 (h : MapI w b es) : ∀ p ∈ es, In64 p.1 := by
  obtain ⟨D, _, _, _, hi, _⟩ := h
  exact hi
theorem MapI.perm (h : MapI w b es) (hp : es.Perm es') : MapI w b es' := by
  obtain ⟨D, ho, hs, hn, hi, ha, hh⟩ := h
  refine ⟨D, ho, by rw [hs, hp.length_eq], (hp.map (·.1)).nodup_iff.1 hn, fun p hq => hi p (hp.mem_iff.2 hq), fun p hq => ha p (hp.mem_iff.2 hq), fun l hl => ?_⟩
  obtain ⟨p, hq, e⟩ := hh l hl
  exact ⟨p, hp.mem_iff.1 hq, e⟩
/-- A look-up, with or without the word on whether it is there. -/
theorem MapI.look {mt e : TypeId} {x : Int} (c : Bool) (h : MapI w b es) (hm : Try.prog.underlying mt = some (.map 3 e)) (hx : In64 x) (z : Value) (hz : (zeroValue e).run Try.prog w = .ok z w) :
    (∃ p ∈ es, p.1 = x ∧ (Instr.lookup mt (.map (some b)) (.int .i64 x) c).run Try.prog w = .ok (if c then .tuple #[p.2, .bool true] else p.2) w) ∨
      ((∀ p ∈ es, p.1 ≠ x) ∧ (Instr.lookup mt (.map (some b)) (.int .i64 x) c).run Try.prog w = .ok (if c then .tuple #[z, .bool false] else z) w) := by
  obtain ⟨D, ho, hs, hn, hi, ha, hh⟩ := h
  obtain ⟨arr, clock, hb, F, _, hD⟩ := ho
  rcases Maps.fit_look c keyedI hm hz hb F (keyI hx) with ⟨hrun, _, hat⟩ | ⟨e0, y, _, _, hrun, hy, hat, _⟩
  · right
    refine ⟨fun p hp e => ?_, hrun⟩
    have h1 := ha p hp (.held undef)
    rw [e, hD, hat] at h1
    have h2 := ha p hp (.held (.bool true))
    rw [e, hD, hat] at h2
    have h3 : (DataW.held undef : DataW Value) = .held (.bool true) := h1.trans h2.symm
    cases h3
  · left
    have hb' : Maps.has D (.int .i64 x) = true := has_true_of_atKey (fun z => by rw [hD]; exact hat z)
    obtain ⟨p, hp, e⟩ := hh _ hb'
    have e1 : x = p.1 := by cases e; rfl
    refine ⟨p, hp, e1.symm, ?_⟩
    have h1 := ha p hp (.held undef)
    rw [← e1, hD, hat] at h1
    have h2 : y.1 = .held e0.val := by
      have := Option.some.inj hy
      rw [← this]
    rw [h2] at h1
    have h3 : e0.val = p.2 := by injection h1
    rw [← h3]
    exact hrun
theorem MapI.len {mt e : TypeId} (h : MapI w b es) (hm : Try.prog.underlying mt = some (.map 3 e)) (ty : TypeId) : (Builtin.len_ #[mt] ty #[.map (some b)]).run Try.prog w = .ok (.int .i64 (es.length : Nat)) w := by
  obtain ⟨D, ho, hs, _⟩ := h
  rw [← hs]
  exact ho.len hm ty
/-- 'm[x] = v'. -/
theorem MapI.put {mt e : TypeId} {x : Int} (h : MapI w b es) (hm : Try.prog.underlying mt = some (.map 3 e)) (hx : In64 x) (v : Value) (hl : es.length < 1000000000) :
    ∃ w', (Instr.mapUpdate mt (.map (some b)) (.int .i64 x) v).run Try.prog w = .ok () w' ∧ MapI w' b (es.filter (neI x) ++ [(x, v)]) ∧ w.mapTurned w' b := by
  obtain ⟨D, ho, hs, hn, hi, ha, hh⟩ := h
  obtain ⟨w', hrun, ho', ht⟩ := ho.store keyedI hm (by rw [hs]; unfold maxLen; omega) (keyI hx) (d := .held v) (ps := []) rfl
  have htd := ho.tidy keyedI
  have him := htd.isMap
  have hkl := isKeyI hx
  refine ⟨w', hrun, ⟨D.put (.int .i64 x) (.held v), owns_tightI ho', ?_, ?_, ?_, ?_, ?_⟩, ht⟩
  · rw [size_put htd, hs, List.length_append]
    have hfl : (es.filter (neI x)).length + (if Maps.has D (.int .i64 x) then 1 else 0) = es.length := by
      cases hb : Maps.has D (.int .i64 x)
      · rw [neI_off (fun p hp e => by
          have := has_true_of_atKey (ha p hp)
          rw [e, hb] at this
          cases this)]
        simp
      · obtain ⟨p, hp, e⟩ := hh _ hb
        have e1 : p.1 = x := by cases e; rfl
        simpa using neI_len hn hp e1
    simp only [List.length_cons, List.length_nil]
    cases hb : Maps.has D (.int .i64 x)
    · rw [hb] at hfl; simp only [Bool.false_eq_true, if_false] at hfl ⊢; omega
    · rw [hb] at hfl; simp at hfl ⊢; omega
  · rw [List.map_append, List.nodup_append]
    refine ⟨?_, by simp, ?_⟩
    · exact (List.filter_sublist.map _).nodup hn
    · intro a ha1 c hc e
      obtain ⟨p, hp, rfl⟩ := List.mem_map.1 ha1
      have := (neI_iff x p).1 (List.mem_filter.1 hp).2
      simp at hc
      exact this (e.trans hc)
  · intro p hp
    rcases List.mem_append.1 hp with hp | hp
    · exact hi p (List.mem_filter.1 hp).1
    · have : p = (x, v) := by simpa using hp
      subst this
      exact hx
  · intro p hp z
    rcases List.mem_append.1 hp with hp | hp
    · obtain ⟨h1, h2⟩ := List.mem_filter.1 hp
      rw [atKey_put_other (fun e => (neI_iff x p).1 h2 (by cases e; rfl))]
      exact ha p h1 z
    · have : p = (x, v) := by simpa using hp
      subst this
      exact atKey_put_same him hkl _ _
  · intro l hl
    by_cases e : l = .int .i64 x
    · exact ⟨(x, v), by simp, e⟩
    · rw [has_put_other e] at hl
      obtain ⟨p, hp, e2⟩ := hh l hl
      exact ⟨p, List.mem_append_left _ (List.mem_filter.2 ⟨hp, (neI_iff x p).2 (fun e3 => e (by rw [e2, e3]))⟩), e2⟩
theorem MapI.putNew {mt e : TypeId} {x : Int} (h : MapI w b es) (hm : Try.prog.underlying mt = some (.map 3 e)) (hx : In64 x) (hnew : ∀ p ∈ es, p.1 ≠ x) (v : Value) (hl : es.length < 1000000000) :
    ∃ w', (Instr.mapUpdate mt (.map (some b)) (.int .i64 x) v).run Try.prog w = .ok () w' ∧ MapI w' b (es ++ [(x, v)]) ∧ w.mapTurned w' b := by
  have := h.put hm hx v hl
  rwa [neI_off hnew] at this
/-- 'delete(m, x)'. -/
theorem MapI.del {mt e : TypeId} {x : Int} (h : MapI w b es) (hm : Try.prog.underlying mt = some (.map 3 e)) (hx : In64 x) (ty : TypeId) :
    ∃ w', (Builtin.delete_ #[mt, 3] ty #[.map (some b), .int .i64 x]).run Try.prog w = .ok (.tuple #[]) w' ∧ MapI w' b (es.filter (neI x)) ∧ w.mapTurned w' b := by
  obtain ⟨D, ho, hs, hn, hi, ha, hh⟩ := h
  obtain ⟨w', hrun, ho', ht⟩ := ho.drop keyedI hm (keyI hx) ty
  have htd := ho.tidy keyedI
  refine ⟨w', hrun, ⟨D.del (.int .i64 x), owns_tightI ho', ?_, (List.filter_sublist.map _).nodup hn, fun p hp => hi p (List.mem_filter.1 hp).1, ?_, ?_⟩, ht⟩
  · have h1 := size_del (k := .int .i64 x) htd
    rw [hs] at h1
    cases hb : Maps.has D (.int .i64 x)
    · rw [neI_off (fun p hp e => by
        have := has_true_of_atKey (ha p hp)
        rw [e, hb] at this
        cases this)]
      rw [hb] at h1
      simpa using h1
    · obtain ⟨p, hp, e⟩ := hh _ hb
      have e1 : p.1 = x := by cases e; rfl
      rw [hb] at h1
      simp only [if_true] at h1
      have := neI_len hn hp e1
      omega
  · intro p hp z
    obtain ⟨h1, h2⟩ := List.mem_filter.1 hp
    rw [atKey_del_other (fun e => (neI_iff x p).1 h2 (by cases e; rfl))]
    exact ha p h1 z
  · intro l hl
    by_cases e : l = .int .i64 x
    · rw [e, has_del_same] at hl; cases hl
    · rw [has_del_other e] at hl
      obtain ⟨p, hp, e2⟩ := hh l hl
      exact ⟨p, List.mem_filter.2 ⟨hp, (neI_iff x p).2 (fun e3 => e (by rw [e2, e3]))⟩, e2⟩
theorem MapI.turned (h : w.mapTurned w' b) : Kept (fun i => i = b) w w' := by
  have g := h.grown
  exact ⟨g.os, g.tape, g.output, g.size, fun i hi hn => g.block i hi (by simpa using hn)⟩

end
theorem nodup_le : ∀ (l l' : List Int), l.Nodup → (∀ x ∈ l, x ∈ l') → l.length ≤ l'.length
  | [], _, _, _ => Nat.zero_le _
  | a :: r, l', h, hs => by
    obtain ⟨h1, h2⟩ := List.nodup_cons.1 h
    have ha := hs a (by simp)
    have ih := nodup_le r (l'.erase a) h2 (fun x hx => (List.mem_erase_of_ne (by rintro rfl; exact h1 hx)).2 (hs x (by simp [hx])))
    have hl := List.length_erase_of_mem ha
    have hp : 0 < l'.length := List.length_pos_of_mem ha
    simp only [List.length_cons]
    omega
section
/-- Numbers that came so far, of those that are there. -/
structure CameI (ks : List Int) (left : Lit → Bool) (ss : List Int) : Prop where
  nodup : ss.Nodup
  mem : ∀ k, k ∈ ss ↔ k ∈ ks ∧ left (.int .i64 k) = false
theorem CameI.step {ks : List Int} {left : Lit → Bool} {ss : List Int} (h : CameI ks left ss) {x : Int} (hl : left (.int .i64 x) = true) (hx : x ∈ ks) :
    CameI ks (fun z => left z && !z.sameKey (.int .i64 x)) (ss ++ [x]) := by
  have hn : x ∉ ss := fun hh => by have := ((h.mem x).1 hh).2; rw [hl] at this; cases this
  refine ⟨?_, fun k => ?_⟩
  · rw [List.nodup_append]
    exact ⟨h.nodup, by simp, by intro a ha b hb; simp at hb; subst hb; exact fun e => hn (e ▸ ha)⟩
  · rw [List.mem_append, h.mem k]
    by_cases e : k = x
    · subst e; simp [hx, Lit.sameKey]
    · simp [e, Lit.sameKey]
theorem CameI.done {ks : List Int} {left : Lit → Bool} {ss : List Int} (hk : ks.Nodup) (h : CameI ks left ss) (hl : ∀ k, left k = false) : ss.Perm ks :=
  (List.perm_ext_iff_of_nodup h.nodup hk).2 (fun k => by rw [h.mem k]; simp [hl])
theorem CameI.len {ks : List Int} {left : Lit → Bool} {ss : List Int} (h : CameI ks left ss) {x : Int} (hl : left (.int .i64 x) = true) (hx : x ∈ ks) : ss.length < ks.length := by
  have h2 := (h.step hl hx)
  have := nodup_le _ ks h2.nodup (fun k hk => ((h2.mem k).1 hk).1)
  simp at this
  omega
end
end -- GpA

section -- GpD
open Go.RowKit Go.Maps Go.Shelf Go.Sort

attribute [local go_sem] Oper.semAt_some
set_option linter.unusedVariables false
set_option maxRecDepth 100000
set_option maxHeartbeats 1000000

def leI : Int → Int → Bool := fun x y => decide (x ≤ y)
theorem sortedI {ks ss : List Int} (hk : ks.Pairwise (· < ·)) (h : ss.Perm ks) : ss.mergeSort leI = ks := by
  have tr : ∀ a b c : Int, leI a b = true → leI b c = true → leI a c = true := fun a b c h1 h2 => by simp only [leI, decide_eq_true_eq] at *; omega
  have to : ∀ a b : Int, (leI a b || leI b a) = true := fun a b => by simp only [leI, Bool.or_eq_true, decide_eq_true_eq]; omega
  refine List.Perm.eq_of_pairwise (le := fun a b => leI a b = true) (fun a b _ _ h1 h2 => ?_) (List.pairwise_mergeSort tr to ss) ?_ ((List.mergeSort_perm ss leI).trans h)
  · simp only [leI, decide_eq_true_eq] at h1 h2; omega
  · exact hk.imp (by intro a b hab; simp only [leI, decide_eq_true_eq]; omega)

/-- maps.Keys's iterator, for every loop body. -/
theorem gkeys1_in (F : Fence) (m : Nat) (hf : F.fn 67) (hro : F.round = none) (hm1 : 1 ≤ m) (l Bm bm : Nat) (es : List (Int × Value)) (J Jx : List Int → World → Prop)
    (hY : ∀ pre x W, J pre W → pre.length < es.length → YieldAt F (m - 1) Try.prog l #[.int .i64 x] W fun e W' =>
      (e = .returned (.bool true) ∧ J (pre ++ [x]) W' ∧ KeepsWalks W W') ∨ (e = .returned (.bool false) ∧ Jx (pre ++ [x]) W'))
    (W : World) (hJ : AbidesFrom W.heap.size J) (hm : W.cell? ⟨Bm, 0, none⟩ = some (.map (some bm))) (hown : MapI W bm es) (h0 : J [] W) :
    CallsIn F m Try.prog 67 #[.func (.yield l) #[] #[], .pointer (some ⟨Bm, 0, none⟩)] W fun e W' => (∃ v, e = .returned v) ∧
      ((∃ ss : List Int, ss.Perm (es.map (·.1)) ∧ J ss W') ∨ (∃ pre, True ∧ Jx pre W')) := by
  obtain ⟨D, ho, -, hnd, hin, hat0, hhas⟩ := hown
  refine callsIn_of_wp Try.func67 rfl hf ?_ hro
  simp only [Try.ntmps67, List.size_toArray, List.length_cons, List.length_nil, Nat.reduceAdd, Nat.reduceSub, Array.replicate_succ, Array.replicate_zero, List.push_toArray, List.append_toArray, List.nil_append, List.cons_append]
  gi_wp2_with (first
    | (gi_at_range; refine wpListIn_range_own _ rfl _ 75 rfl 3 32 keyedI Try.underlying75 _ bm (Maps.size D) _ rfl ho ?_; intro w0 hrg0 hg0 hs0)
    | gi_in)
  go_frame
  gi_loopw [3] (fun _ wr => ∃ (left : Lit → Bool) (cnt : Nat) (ss : List Int), wr.ranges Try.prog 3 selfR bm W.heap.size (Maps.size D) D left cnt ∧ CameI (es.map (·.1)) left ss ∧ J ss wr)
    (fun _ wr => wr.rangeLeft bm W.heap.size)
  case atStart =>
    exact ⟨_, _, [], hrg0, ⟨List.nodup_nil, fun k => by
      simp only [List.not_mem_nil, false_iff]
      rintro ⟨h1, h2⟩
      obtain ⟨p, hp, rfl⟩ := List.mem_map.1 h1
      rw [has_true_of_atKey (hat0 p hp)] at h2
      cases h2⟩, hJ [] W w0 none h0 hg0 (fun r e => by cases e)⟩
  case round =>
    obtain ⟨left, cnt, ss, hrg, hC, hJs⟩ := hrel
    gi_wp2_with (first
      | (gi_at_next; refine wpListIn_next_ranges _ rfl _ rfl 3 keyedI selfR (Value.int .i64) id (fun key kl hk => by obtain ⟨x, rfl, _⟩ := Maps.keyOf_int_inv Try.underlying3 hk; exact ⟨x, rfl⟩) (fun v y hv => ⟨v, rfl⟩) bm W.heap.size (Maps.size D) _ _ _ rfl hrg ?_ ?_)
      | gi_in)
    · intro hc0 hl0
      gi_wp2
      go_end0
      exact ⟨⟨_, rfl⟩, .inl ⟨ss, CameI.done hnd hC hl0, hJs⟩⟩
    · intro x c kl yd yp w2 cnt2 hkey hlk hv hat hrg2 hlt hg2 hs2 hen
      obtain ⟨x', ex, rfl, _⟩ := Maps.keyOf_int_inv Try.underlying3 hkey
      obtain rfl : x = x' := by simpa using ex
      have hx : x ∈ es.map (·.1) := by
        obtain ⟨p, hp, e⟩ := hhas _ (has_true_of_atKey hat)
        exact List.mem_map.2 ⟨p, hp, by cases e; rfl⟩
      have hlen : ss.length < es.length := by
        have := hC.len hlk hx
        simpa using this
      have hJ2 : J ss w2 := hJ ss wr w2 (some W.heap.size) hJs hg2 (fun r e => by cases e; exact ⟨Nat.le_refl _, hrg.iter_walk⟩)
      obtain ⟨fn, tmps, assign, body, hy, hR⟩ := hY ss x w2 hJ2 hlen
      clear hs2
      gi_wp2
      refine hR.mono ?_
      rintro e W3 (⟨rfl, hJ3, hk3⟩ | ⟨rfl, hJx3⟩)
      · gi_wp2
        have hrg3 := hrg2.of_walks hk3
        go_roundw
        case rel => exact ⟨_, cnt2, ss ++ [x], hrg3, hC.step hlk hx, hJ3⟩
        case measure => rw [hrg3.left_eq, hrg.left_eq]; exact hlt
      · gi_wp2
        refine bodyPost_ret (results_none rfl _ _ _) rfl ?_
        exact ⟨⟨_, rfl⟩, .inr ⟨ss ++ [x], trivial, hJx3⟩⟩

/-- maps.Keys: a function value over one new block, which holds the map. -/
theorem gkeys_in (F : Fence) (m : Nat) (hf : F.fn 57) (hro : F.round = none) (mb : Option Nat) (w : World) :
    CallsIn F m Try.prog 57 #[.map mb] w fun e w' => e = .returned (.func (.func 67) #[] #[.pointer (some ⟨w.heap.size, 0, none⟩)]) ∧ w' = w.alloc (.cells #[.map mb] 75) := by
  refine callsIn_of_wp Try.func57 rfl hf ?_ hro
  simp only [Try.ntmps57, List.size_toArray, List.length_cons, List.length_nil, Nat.reduceAdd, Nat.reduceSub, Array.replicate_succ, Array.replicate_zero, List.push_toArray, List.append_toArray, List.nil_append, List.cons_append]
  gi_wp2
  go_ret
  exact ⟨rfl, rfl⟩


/-- what maps.Keys handed back stops. -/
theorem gkeys_stops (F : Fence) (m : Nat) (hf : F.fn 67) (hro : F.round = none) (hm1 : 1 ≤ m) (Bm bm : Nat) (es : List (Int × Value)) (w : World) (hBm : Bm < w.heap.size)
    (hm : w.cell? ⟨Bm, 0, none⟩ = some (.map (some bm))) (hown : MapI w bm es) :
    SeqStopsK F m Try.prog 67 #[.pointer (some ⟨Bm, 0, none⟩)] (fun x : Int => #[Value.int .i64 x]) KeepsWalks (fun ss => ss.Perm (es.map (·.1))) (fun _ => True) es.length w := fun l J Jx W hW hJ _ hY h0 => by
  have hown' : MapI W bm es := hown.below hW
  exact gkeys1_in F m hf hro hm1 l Bm bm es J Jx hY W hJ ((hW.cell (p := ⟨Bm, 0, none⟩) hBm).trans hm) hown' h0

theorem infoIg : (Try.prog.info? 3).map (fun i => (i.zero, i.size, i.bytes)) = some (some (.int .i64 0), 1, 8) := by kernel_rfl

/-- slices.AppendSeq(nil, keys). -/
theorem gappendSeq_in (F : Fence) (m : Nat) (hf : F.fn 71) (hg : F.fn 67) (hro : F.round = none) (hm : 3 ≤ m) (Bm bm : Nat) (es : List (Int × Value)) (hn : es.length ≤ 100000) (w : World) (hBm : Bm < w.heap.size)
    (hcm : w.cell? ⟨Bm, 0, none⟩ = some (.map (some bm))) (hown : MapI w bm es) :
    CallsIn F m Try.prog 71 #[.slice none 0 0, .func (.func 67) #[] #[.pointer (some ⟨Bm, 0, none⟩)]] w fun e W' => ∃ (v : Value) (ss : List Int), e = .returned v ∧ ss.Perm (es.map (·.1)) ∧ W'.ownsRow w.heap.size 3 1 v ss.length (ss.map (Value.int .i64)) ∧ (v = .slice none 0 0 ↔ ss = []) ∧ Below w.heap.size w W' := by
  have h1 : 1 ≤ m := by omega
  obtain ⟨i0, hi, hz0, hz1, hz2⟩ := info_parts infoIg
  refine callsIn_of_wp_marks Try.func71 rfl hf ?_ hro
  simp only [Try.ntmps71, List.size_toArray, List.length_cons, List.length_nil, Nat.reduceAdd, Nat.reduceSub, Array.replicate_succ, Array.replicate_zero, List.push_toArray, List.append_toArray, List.nil_append, List.cons_append]
  gi_wp2
  have bO := Boxed.new w 38 (.slice none 0 0)
  have hB0 : Below w.heap.size w (w.alloc (.cells #[.slice none 0 0] 38)) := (Below.refl _ w).alloc (Nat.le_refl _) _
  have hown0 := hown.below hB0
  have hcm0 := (hB0.cell (p := ⟨Bm, 0, none⟩) hBm).trans hcm
  refine wpIn_rangeFunc_ownG hro h1 (gf := 67) (lb := #[.pointer (some ⟨Bm, 0, none⟩)]) rfl hg (enters_of Try.func67 (by kernel_rfl) rfl)
    (gkeys_stops F (m - 1) hg hro (by omega) Bm bm es _ (by simp; omega) hcm0 hown0) walksK_t walksK_b (Below.refl _ _) (fun _ => rfl)
    (fun pre W => (∃ v, Boxed W w.heap.size 38 v ∧ W.ownsRow w.heap.size 3 1 v pre.length (pre.map (Value.int .i64)) ∧ (v = .slice none 0 0 ↔ pre = [])) ∧ Below w.heap.size w W)
    (fun _ _ _ => False)
    (OwnFrom.and (Own.from (holdsRow_own w.heap.size w.heap.size 38 3 1 (fun pre : List Int => pre.length) (fun pre => pre.map (Value.int .i64)) (fun pre v => v = .slice none 0 0 ↔ pre = [])) _) (ownFrom_below (Nat.le_refl _) (by simp)))
    (fun _ _ _ _ _ hs _ _ => hs)
    ⟨⟨_, bO, World.ownsRow_nil _ _ _ _, by simp⟩, hB0⟩
    (fun x => { tmps := #[.slice none 0 0, .func (.func 67) #[] #[.pointer (some ⟨Bm, 0, none⟩)], .pointer (some ⟨w.heap.size, 0, none⟩), undef, .slice none 0 0, .int .i64 x, .func (.func 67) #[] #[.pointer (some ⟨Bm, 0, none⟩)], .int .i64 x, undef, undef, undef, undef, undef], defers := [] }) ?assign ?body ?done ?stop
  case assign =>
    intro l x W K hK
    gi_wp2
    exact hK
  case body =>
    rintro l pre x W ⟨⟨v, hv, hrow, hnil⟩, hB⟩ hlt
    have hc := hv.cell
    gi_wp2_with (gi_at_builtin; refine wpListIn_append_own _ rfl _ _ 38 rfl w.heap.size 3 i0 (.int .i64 0) 1 8 Try.underlying38 hi hz0 hz1 hz2 rfl (by decide) _ _ _ rfl (hrow.alloc _) ⟨W.heap.size, 0, none⟩ 1 1 [.int .i64 x] rfl rfl (cell_one_new _ _ _) (by simp [Value.oneCell']) (by unfold maxLen; omega) (by omega) (by have := hB.size; simp; omega) ?_; intro v' w1 hown' hgrow _; obtain ⟨g', cap', rfl⟩ := ownsRow_succ hown'; obtain ⟨hv1, hv2, hr2, hk2, hb2⟩ := hv.appended (by decide) hrow hB.size (Nat.le_refl _) hown' hgrow; have hc1 := hv1.cell; have hf1 := hv1.frozen)
    exact ⟨hk2.from _, hk2.walks, ⟨_, hv2, by simpa using hr2, by simp⟩, hB.trans hb2⟩
  case done =>
    rintro D ys W hD hS ⟨⟨v, hv, hrow, hnil⟩, hB⟩ hK
    have hc := hv.cell
    gi_wp2
    refine ⟨by simp, .inl ⟨_, _, rfl, run_takeDeferred hK, ?_⟩⟩
    exact ⟨_, results_tmp rfl _ _ _, v, ys, rfl, hS, ownsRow_putObj hrow _ hK rfl, hnil, hB.trans (belowK_b (w := w) (Nat.le_refl _) W D _ _ (by simp at hD; omega) hK rfl rfl)⟩
  case stop =>
    rintro D c pre W _ _ h _
    exact h.elim

/-- slices.Collect(keys). -/
theorem gcollect_in (F : Fence) (m : Nat) (h0 : F.fn 65) (hf : F.fn 71) (hg : F.fn 67) (hro : F.round = none) (hm : 4 ≤ m) (Bm bm : Nat) (es : List (Int × Value)) (hn : es.length ≤ 100000) (w : World) (hBm : Bm < w.heap.size)
    (hcm : w.cell? ⟨Bm, 0, none⟩ = some (.map (some bm))) (hown : MapI w bm es) :
    CallsIn F m Try.prog 65 #[.func (.func 67) #[] #[.pointer (some ⟨Bm, 0, none⟩)]] w fun e W' => ∃ (v : Value) (ss : List Int), e = .returned v ∧ ss.Perm (es.map (·.1)) ∧ W'.ownsRow w.heap.size 3 1 v ss.length (ss.map (Value.int .i64)) ∧ (v = .slice none 0 0 ↔ ss = []) ∧ Below w.heap.size w W' := by
  have h1 : 1 ≤ m := by omega
  refine callsIn_of_wp Try.func65 rfl h0 ?_ hro
  simp only [Try.ntmps65, List.size_toArray, List.length_cons, List.length_nil, Nat.reduceAdd, Nat.reduceSub, Array.replicate_succ, Array.replicate_zero, List.push_toArray, List.append_toArray, List.nil_append, List.cons_append]
  gi_wp2_with (gi_at_call 71; refine (gappendSeq_in F (m - 1) hf hg hro (by omega) Bm bm es hn _ hBm hcm hown).mono ?_; rintro e w' ⟨v, ss, rfl, hS, hrow, hnil, hb⟩)
  go_ret
  exact ⟨v, ss, rfl, hS, hrow, hnil, hb⟩

/-- slices.Sorted(keys), plain. -/
theorem gsorted_any (Bm bm : Nat) (es : List (Int × Value)) (hn : es.length ≤ 100000) (w : World) (hk : (es.map (·.1)).Pairwise (· < ·)) (hBm : Bm < w.heap.size)
    (hcm : w.cell? ⟨Bm, 0, none⟩ = some (.map (some bm))) (hown : MapI w bm es) :
    Calls Try.prog 56 #[.func (.func 67) #[] #[.pointer (some ⟨Bm, 0, none⟩)]] w fun e W' => ∃ (v : Value), e = .returned v ∧ W'.ownsRow w.heap.size 3 1 v (es.map (·.1)).length ((es.map (·.1)).map (Value.int .i64)) ∧ Below w.heap.size w W' := by
  have HC := Lib.hid (callsIn_wide.1 (gcollect_in Fence.wide 4 trivial trivial trivial rfl (Nat.le_refl _) Bm bm es hn w hBm hcm hown))
  obtain ⟨ks, hks⟩ : ∃ ks, es.map (fun p => p.1) = ks := ⟨_, rfl⟩
  have hle : ks.length ≤ 100000 := by rw [← hks]; simpa using hn
  rw [hks] at hk HC ⊢
  clear hcm hown hks
  go_enter Try.func56, Try.ntmps56
  go_wp2_with (go_at_call 65; refine HC.out.mono ?_; rintro e W ⟨v, ss, rfl, hS, hrow, hnil, hb⟩)
  have hlen : ss.length = ks.length := hS.length_eq
  rcases hrow.2 with ⟨rfl, hz⟩ | ⟨gb, cap, cur, rfl, hbase, hgb, r1, r2, r3, r4⟩
  · have hss : ss = [] := List.eq_nil_of_length_eq_zero hz
    subst hss
    have hk0 : ks = [] := List.eq_nil_of_length_eq_zero (by simpa using hlen.symm)
    have HK := Lib.hid hk0
    clear hk0 hlen
    go_wp2_with (go_at_call 66; refine (Try.slices_Sort_int_none none 0 W).mono ?_; rintro e w' ⟨rfl, rfl⟩)
    go_ret
    exact ⟨_, rfl, by rw [HK.out]; simpa using hrow, hb⟩
  · have hH : Holds (Value.int .i64) W gb 0 ss.toArray := holds_of_blockI hgb (by simpa using r4)
    have hgl : gb < W.heap.size := (Array.getElem?_eq_some_iff.1 hgb).1
    have HS := Lib.hid (Try.slices_Sort_int gb 0 cap ss W hH hgl (by omega))
    have HE := Lib.hid (sortedI hk hS)
    clear hlen hH
    go_wp2_with (go_at_call 66; refine HS.out.mono ?_; rintro e w' ⟨rfl, nn, os, rfl⟩)
    go_ret
    refine ⟨_, rfl, ?_, hb.grown (grownBy_sortedI _) hb.size (fun j hj => by cases hj; exact hbase)⟩
    rw [show (ss.mergeSort fun x y => decide (x ≤ y)) = ks from HE.out, ← hS.length_eq]
    exact ownsRow_sortedI (n := nn) (os := os) (ts := ks) hS.length_eq.symm hbase hgb r1 r2 r3
end -- GpD

section -- GpE
open Go.RowKit Go.Maps Go.Shelf Go.Sort

attribute [local go_sem] Oper.semAt_some
set_option linter.unusedVariables false
set_option maxRecDepth 100000
set_option maxHeartbeats 1000000

/-- The row of the box ob lies in block k. -/
def OutIn (W : World) (ob k : Nat) : Prop := ∃ v, W.cell? ⟨ob, 0, none⟩ = some v ∧ v.ownBlock = some k
/-- What a loop's body keeps that appends to the row of one box. -/
structure KB (ob : Nat) (W W' : World) : Prop where
  size : W.heap.size ≤ W'.heap.size
  same : ∀ (k : Nat) (o : Obj), W.heap[k]? = some o → (o.isCells = true ∨ o.isWalk = true) → k ≠ ob → ¬ OutIn W ob k → W'.heap[k]? = some o
  out : ∀ k, OutIn W' ob k → OutIn W ob k ∨ W.heap.size ≤ k
theorem KB.refl (ob : Nat) (W : World) : KB ob W W := ⟨Nat.le_refl _, fun _ _ h _ _ _ => h, fun _ h => .inl h⟩
theorem KB.trans {ob : Nat} {A B C : World} (h : KB ob A B) (k : KB ob B C) : KB ob A C := by
  refine ⟨Nat.le_trans h.size k.size, fun i o hi ho hne hn => ?_, fun i hi => ?_⟩
  · refine k.same i o (h.same i o hi ho hne hn) ho hne (fun e => ?_)
    rcases h.out i e with q | q
    · exact hn q
    · have := (Array.getElem?_eq_some_iff.1 hi).1
      omega
  · rcases k.out i hi with q | q
    · exact h.out i q
    · exact .inr (Nat.le_trans h.size q)
theorem kb_t {ob : Nat} {A B C : World} (h : KB ob A B) (k : KB ob B C) : KB ob A C := h.trans k
theorem kb_b {ob : Nat} {w : World} (hob : ob < w.heap.size) (W : World) (l : Nat) (o o' : Obj) (hl : w.heap.size ≤ l) (h : W.heap[l]? = some o) (hc : o.isCells = false) (hw : o.isWalk = false) : KB ob W (W.putObj l o') := by
  have hg := grownBy_putObj' W l o'
  have hcell : (W.putObj l o').cell? ⟨ob, 0, none⟩ = W.cell? ⟨ob, 0, none⟩ := by
    have : (W.putObj l o').heap[ob]? = W.heap[ob]? := by
      by_cases hlt : ob < W.heap.size
      · exact hg.block ob hlt (fun e => by cases e; omega)
      · have := (Array.getElem?_eq_some_iff.1 h).1
        omega
    simp only [World.cell?, this]
  refine ⟨hg.size, fun k o2 hk ho hne hn => ?_, fun k ⟨v, h1, h2⟩ => .inl ⟨v, by rw [← hcell]; exact h1, h2⟩⟩
  refine (hg.block k (Array.getElem?_eq_some_iff.1 hk).1 (fun e => ?_)).trans hk
  cases e
  rw [h] at hk; cases hk
  rcases ho with q | q
  · rw [hc] at q; cases q
  · rw [hw] at q; cases q
/-- Where nothing was in the box, all else stays. -/
theorem KB.keep {ob : Nat} {A B : World} (h : KB ob A B) (hn : A.cell? ⟨ob, 0, none⟩ = some (.slice none 0 0)) {k : Nat} {o : Obj} (hk : A.heap[k]? = some o) (ho : o.isCells = true ∨ o.isWalk = true) (hne : k ≠ ob) : B.heap[k]? = some o :=
  h.same k o hk ho hne (fun ⟨v, h1, h2⟩ => by rw [hn] at h1; cases h1; cases h2)
theorem KB.map {ob : Nat} {A B : World} (h : KB ob A B) (hn : A.cell? ⟨ob, 0, none⟩ = some (.slice none 0 0)) {bm : Nat} {es : List (Int × Value)} (hm : MapI A bm es) (hne : bm ≠ ob) : MapI B bm es := by
  obtain ⟨D, ⟨arr, clock, hb, F, hs, hD⟩, r⟩ := hm
  exact ⟨D, ⟨arr, clock, h.keep hn hb (.inr rfl) hne, F, hs, hD⟩, r⟩
theorem kb_appended {W w1 : World} {ob : Nat} {t : TypeId} {v v' : Value} {tmp : Obj} (hv : Boxed W ob t v) (hv1 : Boxed w1 ob t v) (hgrow : (W.alloc tmp).grownBy w1 v.ownBlock) (hv' : ∀ g, v'.ownBlock = some g → v.ownBlock = some g ∨ W.heap.size ≤ g) : KB ob W (w1.setCell ⟨ob, 0, none⟩ v') := by
  have hs1 : W.heap.size < w1.heap.size := Nat.lt_of_lt_of_le (by simp) hgrow.size
  have hg2 := grownBy_setCell' w1 ob v'
  refine ⟨Nat.le_trans (Nat.le_of_lt hs1) hg2.size, fun k o hk ho hne hn => ?_, fun k ⟨u, h1, h2⟩ => ?_⟩
  · have hlt := (Array.getElem?_eq_some_iff.1 hk).1
    have e1 : w1.heap[k]? = some o := by
      refine (hgrow.block k (by simp; omega) (fun e => hn ⟨v, hv.cell, e.symm⟩)).trans ?_
      exact (Below.heap_alloc W tmp k hlt).trans hk
    exact (hg2.block k (by omega) (fun e => hne (by cases e; rfl))).trans e1
  · have : (w1.setCell ⟨ob, 0, none⟩ v').cell? ⟨ob, 0, none⟩ = some v' := (hv1.set v').cell
    rw [this] at h1
    cases h1
    rcases hv' k h2 with q | q
    · exact .inl ⟨v, hv.cell, q⟩
    · exact .inr q

theorem inj_nodup {p q : Int × Value} : ∀ {es : List (Int × Value)}, (es.map (·.1)).Nodup → p ∈ es → q ∈ es → p.1 = q.1 → p = q
  | [], _, hp, _, _ => by simp at hp
  | r :: l, hn, hp, hq, e => by
    obtain ⟨h1, h2⟩ := List.nodup_cons.1 hn
    rcases List.mem_cons.1 hp with rfl | hp' <;> rcases List.mem_cons.1 hq with rfl | hq'
    · rfl
    · exact absurd (List.mem_map.2 ⟨q, hq', e.symm⟩) h1
    · exact absurd (List.mem_map.2 ⟨p, hp', e⟩) h1
    · exact inj_nodup h2 hp' hq' e
/-- A look-up in a map by numbers, within a round. -/
theorem wpListIn_lookup_I {F : Fence} {nF : Nat} (w : World) {ops : Array Oper} {rest : List Oper} {o : Oper} {a : Act} {Q : Exit → Act → World → Prop}
    (hg : o.guard = none) (m x : Operand) (t : TypeId) (hop : o.op = Op.lookup t m x false) (e : TypeId) (ht : Try.prog.underlying t = some (.map 3 e)) (z : Value) (hz : (zeroValue e).run Try.prog w = .ok z w)
    (b : Nat) (es : List (Int × Value)) (hm : a.eval m = .map (some b)) (hown : MapI w b es) (k : Int) (hx : a.eval x = .int .i64 k) (v : Value) (hk : (k, v) ∈ es)
    (hK : wpListIn F nF Try.prog ops Q rest (a.put o.dst v) w) : wpListIn F nF Try.prog ops Q (o :: rest) a w := by
  refine wpListIn_plain hg fun K' hK' => ?_
  have hrun : (Instr.lookup t (.map (some b)) (.int .i64 k) false).run Try.prog w = .ok v w := by
    rcases hown.look false ht (hown.in64 _ hk) z hz with ⟨p, hp, e1, h⟩ | ⟨h, _⟩
    · have e2 : p = (k, v) := by
        exact inj_nodup hown.nodup hp hk e1
      rw [e2] at h
      exact h
    · exact absurd rfl (h _ hk)
  unfold Oper.wpIn
  refine ⟨by simp [Oper.about, hop], ?_⟩
  rw [Oper.semAt_plain F _ _ (by rw [hop]; intro c hc'; cases hc')]
  simp [execOp, hop, hm, hx, hrun, Result.andThen]
  exact hK' _ _ hK

theorem balI (w : World) (x : Obj) : Below w.heap.size w (w.alloc x) := (Below.refl _ w).alloc (Nat.le_refl _) x

abbrev encV (V : Int → Value) (k : Int) : Array Value := #[.int .i64 k, V k]
/-- The store's entries. -/
abbrev esV (ks : List Int) (V : Int → Value) : List (Int × Value) := ks.map fun k => (k, V k)
theorem esV_keys (ks : List Int) (V : Int → Value) : (esV ks V).map (·.1) = ks := by rw [esV, List.map_map]; exact List.map_id _

/-- rising's iterator, for every loop body. -/
theorem grising1_in (m : Nat) (hm1 : 6 ≤ m) (l Bm bm ob : Nat) (ks : List Int) (V : Int → Value) (hks : ks.Pairwise (· < ·)) (hlen : ks.length ≤ 100000) (hob1 : Bm ≠ ob) (hob2 : bm ≠ ob) (J Jx : List Int → World → Prop)
    (hY : ∀ pre x W, J pre W → pre.length < ks.length → YieldAt Fence.wide (m - 1) Try.prog l (encV V x) W fun e W' =>
      (e = .returned (.bool true) ∧ J (pre ++ [x]) W' ∧ KB ob W W') ∨ (e = .returned (.bool false) ∧ Jx (pre ++ [x]) W'))
    (W : World) (hJ : AbidesFrom W.heap.size J) (hbox : Boxed W Bm 75 (.map (some bm))) (hown : MapI W bm (esV ks V)) (hout : W.cell? ⟨ob, 0, none⟩ = some (.slice none 0 0)) (h0 : J [] W) :
    CallsIn Fence.wide m Try.prog 55 #[.func (.yield l) #[] #[], .pointer (some ⟨Bm, 0, none⟩)] W fun e W' => (∃ v, e = .returned v) ∧
      ((∃ ss : List Int, ss = ks ∧ J ss W') ∨ (∃ pre, True ∧ Jx pre W')) := by
  have hc0 := hbox.cell
  have hoblt : ob < W.heap.size := by
    unfold World.cell? at hout
    cases hx : W.heap[ob]? with
    | none => rw [hx] at hout; simp at hout
    | some o => exact (Array.getElem?_eq_some_iff.1 hx).1
  have hB0 : Below W.heap.size W (W.alloc (.cells #[.map (some bm)] 75)) := (Below.refl _ W).alloc (Nat.le_refl _) _
  have HS := Lib.hid (gsorted_any W.heap.size bm (esV ks V) (by simpa using hlen) (W.alloc (.cells #[.map (some bm)] 75)) (by rw [esV_keys]; exact hks) (by simp) (World.cell?_alloc_new W #[.map (some bm)] 75 0) (hown.below (balI W _)))
  refine callsIn_of_wp Try.func55 rfl trivial ?_ rfl
  simp only [Try.ntmps55, List.size_toArray, List.length_cons, List.length_nil, Nat.reduceAdd, Nat.reduceSub, Array.replicate_succ, Array.replicate_zero, List.push_toArray, List.append_toArray, List.nil_append, List.cons_append]
  have h1 : 1 ≤ m := by omega
  have hf50 : Fence.wide.fn 57 := trivial
  have hf49 : Fence.wide.fn 56 := trivial
  gi_wp2_with (gi_at_call 57; refine (gkeys_in Fence.wide (m - 1) trivial rfl _ _).mono ?_; rintro e w' ⟨rfl, rfl⟩)
  gi_at_call 56
  refine (callsIn_wide.2 HS.out).mono ?_
  rintro e W2 ⟨v, rfl, hrow, hb⟩
  have hB2 : Below W.heap.size W W2 := hB0.trans (hb.mono (by simp))
  have hJ2 : J [] W2 := hJ [] W W2 none h0 ⟨hB2.os, hB2.tape, hB2.output, hB2.size, fun k hk _ => hB2.block k hk⟩ (fun r e => by cases e)
  have hbox2 : Boxed W2 Bm 75 (.map (some bm)) := (hB2.block Bm hbox.lt).trans hbox
  have hown2 := hown.below hB2
  have hout2 : W2.cell? ⟨ob, 0, none⟩ = some (.slice none 0 0) := (hB2.cell (p := ⟨ob, 0, none⟩) (by unfold World.cell? at hout; cases hx : W.heap[ob]? with | none => rw [hx] at hout; simp at hout | some o => exact (Array.getElem?_eq_some_iff.1 hx).1)).trans hout
  rw [esV_keys] at hrow
  have hrow2 := hrow.2
  clear hb hB2 h0 hbox hown hB0 hc0 hrow hout
  rcases hrow2 with ⟨rfl, hz⟩ | ⟨gb, cap, cur, rfl, hbase, hgb, r1, r2, r3, r4⟩
  · have hk : ks = [] := List.eq_nil_of_length_eq_zero hz
    have HK := Lib.hid hk
    clear hk hz
    gi_wp2
    refine wpIn_loop_rounds 1 ?_
    rw [roundsIn_succ]
    gi_wp2
    go_end0
    exact ⟨⟨_, rfl⟩, .inl ⟨[], HK.out.symm, hJ2⟩⟩
  · have hle := hlen
    have hkc : ∀ (k : Nat) (x : Int), (ks)[k]? = some x → cur[k]? = some (.int .i64 x) := by
      intro k x hx
      have h2 : ((ks).map (Value.int .i64))[k]? = some (.int .i64 x) := by simp [hx]
      rw [← r4, List.getElem?_take] at h2
      split at h2
      · simpa using h2
      · cases h2
    have HKC := Lib.hid hkc
    clear hkc r4 r3 r2 r1
    gi_wp2
    gi_loopw [4, 9] (fun _ i wr => ∃ k : Nat, k ≤ (ks).length ∧ i = .int .i64 k ∧ J ((ks).take k) wr ∧ KB ob W2 wr) (fun _ i _ => (ks).length - (intOf i).toNat)
    case atStart => exact ⟨0, Nat.zero_le _, rfl, by simpa using hJ2, KB.refl _ _⟩
    case round =>
      obtain ⟨k, hk, rfl, hJr, hKr⟩ := hrel
      by_cases hlt : k < (ks).length
      · obtain ⟨x, hxk⟩ : ∃ x, (ks)[k]? = some x := ⟨_, List.getElem?_eq_getElem hlt⟩
        have hgo : gb ≠ ob := fun e => by
          subst e
          have h8 := hbase
          rw [World.size_alloc] at h8
          have h9 := hoblt
          omega
        have hgr : wr.heap[gb]? = some (.cells cur 3 (0, 0)) := hKr.keep hout2 hgb (.inl rfl) hgo
        have d1 : wr.cell? ⟨gb, k, none⟩ = some (.int .i64 x) := by simp [World.cell?, hgr, HKC.out k x hxk]
        have hbr : Boxed wr Bm 75 (.map (some bm)) := hKr.keep hout2 hbox2 (.inl rfl) hob1
        have d2 := hbr.cell
        have hownr := hKr.map hout2 hown2 hob2
        have hxm : (x, V x) ∈ esV ks V := List.mem_map.2 ⟨x, List.mem_of_getElem? hxk, rfl⟩
        have HXM := Lib.hid hxm
        have HX := Lib.hid hxk
        obtain ⟨fn, tmps, assign, body, hy, hR⟩ := hY ((ks).take k) x wr hJr (by rw [List.length_take]; omega)
        dsimp only [encV] at hy
        have HR := Lib.hid hR
        clear hR hxk hgr hxm hY
        obtain ⟨u, hu⟩ : ∃ u, V x = u := ⟨_, rfl⟩
        rw [hu] at HXM hy
        gi_wp2_with (gi_at_lookup; refine wpListIn_lookup_I _ rfl _ _ 75 rfl 32 Try.underlying75 (.slice none 0 0) (Try.zeroValue32 _) bm _ rfl hownr x rfl u HXM.out ?_)
        refine HR.out.mono ?_
        rintro e W3 (⟨rfl, hJ3, hk3⟩ | ⟨rfl, hJx3⟩)
        · gi_wp2
          go_roundw
          case rel => exact ⟨k + 1, by omega, by go_num, by rw [List.take_add_one, HX.out]; exact hJ3, hKr.trans hk3⟩
          case measure => simp [intOf]; omega
        · gi_wp2
          refine bodyPost_ret (results_none rfl _ _ _) rfl ?_
          exact ⟨⟨_, rfl⟩, .inr ⟨_, trivial, hJx3⟩⟩
      · gi_wp2
        go_end0
        refine ⟨⟨_, rfl⟩, .inl ⟨_, rfl, ?_⟩⟩
        rw [List.take_of_length_le (by omega)] at hJr
        exact hJr
end -- GpE

end Go.Proofs.Ytibelpamolcmcaa
