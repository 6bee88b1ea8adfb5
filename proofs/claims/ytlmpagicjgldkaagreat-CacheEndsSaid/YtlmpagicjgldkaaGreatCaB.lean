/-
  A cache in memory; is there one; the key of indexes.
-/
import Derived.Test.YtlmpagicjgldkaaGreatCaA
import Derived.Test.YtlmpagicjgldkaaGreatMxax
import Derived.Laws.Rows
import Derived.Laws.Tables
import Derived.Deep.WholeRow
import Derived.Outline
import Derived.WalkSpells
namespace Go.Proofs.YtlmpagicjgldkaaGreat
open Go.RowKit Go.Maps
set_option linter.unusedVariables false
set_option linter.unusedSimpArgs false
set_option maxRecDepth 100000
set_option maxHeartbeats 2000000

/-- What is kept: how many are enough, which ones there are, when it was used last; its matrix: where it lies. -/
structure CE where
  k : Nat
  xs : List Int
  u : Nat
  gm : Nat
def CE.v (e : CE) : Value := .slice (some ⟨e.gm, 0, none⟩) e.k e.k
noncomputable def CE.L (e : CE) : Lit := kl e.k e.xs
noncomputable def CE.p (e : CE) : Lit × Value := (e.L, .agg #[e.v, .int .i64 (e.u : Int)])
/-- A cache. -/
structure CS where
  n : Nat
  room : Nat
  now : Nat
  hits : Nat
  misses : Nat
  dropped : Nat
  es : List CE
/-- An entry is as it should be. -/
structure CE.Good (n now : Nat) (e : CE) : Prop where
  k1 : 1 ≤ e.k
  kn : e.k ≤ n
  len : e.xs.length = e.k
  rng : ∀ x ∈ e.xs, 0 ≤ x ∧ x < n
  nd : e.xs.Nodup
  u1 : 1 ≤ e.u
  un : e.u ≤ now
theorem CE.Good.idx {n now : Nat} {e : CE} (h : e.Good n now) (hn : n ≤ 255) : Idx e.k e.xs :=
  ⟨by omega, by have := h.kn; omega, by have := h.kn; have := h.len; omega, fun x hx => by have := h.rng x hx; omega⟩
def Mat (w : World) (F : Nat → Prop) (e : CE) : Prop := ∃ U, MatW w e.gm e.k e.k U (fun r s => lag (idxB e.xs) s (ofB r)) ∧ ∀ i, matB e.gm e.k U i → ¬ F i
/-- A cache lies at block b, its map at block bm; no matrix of it lies in a block of F. -/
structure CacheAt (w : World) (F : Nat → Prop) (b bm : Nat) (s : CS) : Prop where
  c0 : w.cell? ⟨b, 0, none⟩ = some (.map (some bm))
  c1 : w.cell? ⟨b, 1, none⟩ = some (.int .i64 (s.room : Int))
  c2 : w.cell? ⟨b, 2, none⟩ = some (.int .i64 (s.now : Int))
  c3 : w.cell? ⟨b, 3, none⟩ = some (.int .i64 (s.n : Int))
  c4 : w.cell? ⟨b, 4, none⟩ = some (.int .i64 0)
  c5 : w.cell? ⟨b, 5, none⟩ = some (.int .i64 (s.hits : Int))
  c6 : w.cell? ⟨b, 6, none⟩ = some (.int .i64 (s.misses : Int))
  c7 : w.cell? ⟨b, 7, none⟩ = some (.int .i64 (s.dropped : Int))
  fz : ∀ o, w.frozen? ⟨b, o, none⟩ = false
  map : MapIs w bm (s.es.map CE.p)
  good : ∀ e ∈ s.es, e.Good s.n s.now
  mat : ∀ e ∈ s.es, Mat w F e
  fb : F b
  fm : F bm
  rise : s.es.Pairwise (fun x y => x.u < y.u)
  n1 : 1 ≤ s.n
  n255 : s.n ≤ 255
  r1 : 1 ≤ s.room
  r64 : s.room ≤ 64
  full : s.es.length ≤ s.room
def CK (b bm : Nat) (i : Nat) : Prop := i = b ∨ i = bm
section
variable {w w' : World} {F : Nat → Prop} {b bm : Nat} {s : CS}
theorem CacheAt.lt (h : CacheAt w F b bm s) : b < w.heap.size := blt h.c0
theorem CacheAt.ne (h : CacheAt w F b bm s) : b ≠ bm := by
  intro e
  obtain ⟨D, ⟨arr, clock, hb, _⟩, _⟩ := h.map
  have h0 := h.c0
  rw [e] at h0
  simp [World.cell?, hb] at h0
theorem CacheAt.kept {S : Nat → Prop} (h : CacheAt w F b bm s) (hk : Kept S w w') (hb : ¬ S b) (hm : ¬ S bm) (hS : ∀ i, S i → F i) : CacheAt w' F b bm s := by
  have hl := h.lt
  have g : ∀ o, w'.cell? ⟨b, o, none⟩ = w.cell? ⟨b, o, none⟩ := fun o => hk.cell (p := ⟨b, o, none⟩) hl hb
  refine ⟨(g 0).trans h.c0, (g 1).trans h.c1, (g 2).trans h.c2, (g 3).trans h.c3, (g 4).trans h.c4, (g 5).trans h.c5, (g 6).trans h.c6, (g 7).trans h.c7, fun o => ?_, h.map.kept hk hm, h.good, fun e he => ?_, h.fb, h.fm, h.rise, h.n1, h.n255, h.r1, h.r64, h.full⟩
  · rw [← h.fz o]
    unfold World.frozen?
    rw [hk.block b hl hb]
  · obtain ⟨U, hM, hU⟩ := h.mat e he
    exact ⟨U, hM.kept hk (fun i hi hs => hU i hi (hS i hs)), hU⟩
theorem CacheAt.below (h : CacheAt w F b bm s) (hb : Below w.heap.size w w') : CacheAt w' F b bm s := h.kept (Kept.below hb) (fun h => h) (fun h => h) (fun _ h => h.elim)
end

theorem there_c (w : World) {F : Nat → Prop} {b bm : Nat} {s : CS} (hc : CacheAt w F b bm s) :
    Calls Tryz.prog 26 #[.pointer (some ⟨b, 0, none⟩)] w fun e w' => e = .returned (.bool true) ∧ w = w' := by
  have c0 := hc.c0
  have hl := hc.lt
  have hq := fun w => run_neq_map_nil (P := Tryz.prog) w 60 86 90 (some bm) Tryz.underlying60
  clear hc
  go_enter Tryz.func26, Tryz.ntmps26
  go_wp2
  go_ret
  exact ⟨rfl, rfl⟩

/-- The indexes are a key's. -/
def ofB' (n : Nat) (k : Int) (xs : List Int) : Bool := decide (1 ≤ k) && decide (k ≤ n) && decide (k ≤ xs.length) && (xs.take k.toNat).all (fun x => decide (0 ≤ x) && decide (x < n))

/-- A key's cells lie at a block. -/
def KeyAt (w : World) (g : Nat) (k : Int) (xs : List Int) : Prop := w.heap[g]? = some (.cells (kcells k xs).toArray 86 (0, 0))
theorem zero_key : Tryz.zeroCells86 = (kcells 0 []).toArray := by kernel_rfl
theorem size_key : (Tryz.prog.info? 86).map (·.size) = some 256 := by kernel_rfl
theorem kc_size (k : Int) (xs : List Int) : (kcells k xs).toArray.size = 256 := by simp [kcells_len]
theorem kc_one (k : Int) (xs : List Int) : (kcells k xs).toArray.all (·.oneCell') = true := by
  rw [Array.all_eq_true_iff_forall_mem]
  intro v hv
  have hv' : v ∈ kcells k xs := by simpa using hv
  unfold kcells at hv'
  rcases List.mem_cons.1 hv' with rfl | h
  · rfl
  · obtain ⟨i, _, rfl⟩ := List.mem_map.1 h
    rfl
theorem kc_hi (k : Int) (xs : List Int) : (Tryz.prog.info? 86).map (·.size) = some (kcells k xs).toArray.size := by rw [kc_size]; exact size_key
/-- A key's cells are stored over elder ones. -/
theorem store_key (w : World) (g : Nat) (old : Array Value) (hg : w.heap[g]? = some (.cells old 86 (0, 0))) (ho : old.size = 256) (k : Int) (xs : List Int) :
    (storeCells ⟨g, 0, none⟩ (kcells k xs) 0).run Tryz.prog w = .ok () (w.setRow g (kcells k xs).toArray) := by
  have := run_storeVar_row (P := Tryz.prog) w g 86 86 old (kcells k xs).toArray hg (kc_hi k xs) (by rw [ho, kc_size]) (kc_one k xs)
  obtain ⟨i6, hi6⟩ : ∃ i, Tryz.prog.info? 86 = some i := by cases hq : Tryz.prog.info? 86 with | none => have := size_key; rw [hq] at this; cases this | some i => exact ⟨i, rfl⟩
  have h6 : i6.size = 256 := by have := size_key; rw [hi6] at this; simpa using this
  simpa [storeVar, sizeOf, typeInfo, hi6, Value.cells, h6, kcells_len] using this
theorem results_cell_tmp {P : Program} {fn : Func} {p q : Tmp} {ty : TypeId} (h : fn.results = #[.cell p ty, .tmp q]) (tmps : Array Value) (w : World) (g : Nat) (t : TypeId) (cs : Array Value) (fr : Nat × Nat) (d : TypeDesc)
    (hp : tmps.getD p undef = .pointer (some ⟨g, 0, none⟩)) (hg : w.heap[g]? = some (.cells cs t fr))
    (hu : P.underlying ty = some d) (hd : (match d with | .struct _ | .array _ _ => true | _ => false) = true) (hi : (P.info? ty).map (·.size) = some cs.size) :
    (results fn tmps).run P w = .ok (.tuple #[.agg cs, tmps.getD q undef]) w := by
  have hp' : tmps[p]?.getD undef = .pointer (some ⟨g, 0, none⟩) := by simpa using hp
  simp [results, h, hp', asAddr, run_loadVar_row w g t ty cs fr d hg hu hd hi]
theorem setRow_kept (w : World) (g : Nat) (cs : Array Value) : Kept (fun i => i = g) w (w.setRow g cs) := ⟨rfl, rfl, rfl, by simp, fun i _ hi => setRow_other _ _ _ _ hi⟩

theorem of_few (w : World) {F : Nat → Prop} {b bm : Nat} {s : CS} (hc : CacheAt w F b bm s) (k : Int) (v : Value) (xs : List Int) (hv : IntsAt w v xs) (hl : xs.length ≤ 1000000) (h : k < 1 ∨ s.n < k ∨ xs.length < k) :
    Calls Tryz.prog 38 #[.pointer (some ⟨b, 0, none⟩), .int .i64 k, v] w fun e w' => e = .returned (.tuple #[keyV 0 [], .bool false]) ∧ Below w.heap.size w w' := by
  have c3 := hc.c3
  have hlt := hc.lt
  obtain ⟨p, cap, rfl, hcap, _⟩ := hv
  obtain ⟨n, hn⟩ : ∃ n, s.n = n := ⟨_, rfl⟩
  obtain ⟨l, hll⟩ : ∃ l, xs.length = l := ⟨_, rfl⟩
  rw [hn] at c3 h
  rw [hll] at h hl ⊢
  clear hc hn hll hcap
  have hgn := heap_alloc_new w (.cells Tryz.zeroCells86 86)
  have hb1 := (Kept.alloc (fun _ => False) w (.cells Tryz.zeroCells86 86)).toBelow (Nat.le_refl _) (fun _ h => h.elim)
  have c3' : (w.alloc (.cells Tryz.zeroCells86 86)).cell? ⟨b, 3, none⟩ = some (.int .i64 (n : Int)) := alloc_cell c3 _
  have HB1 := Lib.hid hb1
  have HGN := Lib.hid hgn
  have hsz : Tryz.zeroCells86.size = 256 := by rw [zero_key]; exact kc_size 0 []
  have hsc : (storeCells ⟨w.heap.size, 0, none⟩ Tryz.zeroCells86.toList 0).run Tryz.prog (w.alloc (.cells Tryz.zeroCells86 86)) = .ok () ((w.alloc (.cells Tryz.zeroCells86 86)).setRow w.heap.size Tryz.zeroCells86) := by
    have := store_key _ w.heap.size _ hgn hsz 0 []
    rw [zero_key]
    rw [zero_key] at this
    exact this
  have HSZ := Lib.hid hsz
  clear hb1 hgn hsz
  have HFIN := Lib.hid (show ∀ W, W = (w.alloc (.cells Tryz.zeroCells86 86)).setRow w.heap.size Tryz.zeroCells86 → W.heap[w.heap.size]? = some (.cells Tryz.zeroCells86 86 (0, 0)) ∧ Below w.heap.size w W from fun W e => by
    subst e
    refine ⟨setRow_heap _ _ _ _ _ _ HGN.out, ?_⟩
    exact HB1.out.trans ((setRow_kept _ w.heap.size _).toBelow HB1.out.size (fun i hi => by omega)))
  have fin : ∀ (tmps : Array Value), tmps.getD 6 undef = .pointer (some ⟨w.heap.size, 0, none⟩) → tmps.getD 7 undef = .bool false → bodyPost Tryz.prog Tryz.f38 (fun e w' => e = Ending.returned (Value.tuple #[keyV 0 [], Value.bool false]) ∧ Below w.heap.size w w') Exit.ret ⟨tmps, []⟩ ((w.alloc (.cells Tryz.zeroCells86 86)).setRow w.heap.size Tryz.zeroCells86) := fun tmps h6 h7 => by
    obtain ⟨g1, g2⟩ := HFIN.out _ rfl
    refine bodyPost_ret (results_cell_tmp rfl _ _ w.heap.size _ _ (0, 0) _ h6 g1 Tryz.underlying86 rfl (by rw [HSZ.out]; exact size_key)) rfl ⟨?_, g2⟩
    show Ending.returned (Value.tuple #[.agg Tryz.zeroCells86, tmps.getD 7 undef]) = _
    rw [h7, zero_key]
    rfl
  have FIN := Lib.hid fin
  clear fin
  by_cases h1 : k < 1
  · go_enter Tryz.func38, Tryz.ntmps38
    go_wp2
    refine wp_load_row _ _ rfl w.heap.size rfl _ _ (0, 0) _ HGN.out Tryz.underlying86 rfl (by rw [HSZ.out]; exact size_key) ?_
    go_wp2
    exact FIN.out _ rfl rfl
  · by_cases h2 : (n : Int) < k
    · go_enter Tryz.func38, Tryz.ntmps38
      go_wp2
      refine wp_load_row _ _ rfl w.heap.size rfl _ _ (0, 0) _ HGN.out Tryz.underlying86 rfl (by rw [HSZ.out]; exact size_key) ?_
      go_wp2
      exact FIN.out _ rfl rfl
    · have h3 : (l : Int) < k := by omega
      go_enter Tryz.func38, Tryz.ntmps38
      go_wp2
      refine wp_load_row _ _ rfl w.heap.size rfl _ _ (0, 0) _ HGN.out Tryz.underlying86 rfl (by rw [HSZ.out]; exact size_key) ?_
      go_wp2
      exact FIN.out _ rfl rfl

theorem kc_set {k : Int} {xs : List Int} {m : Nat} (h : m < xs.length) (h2 : m < 255) : (kcells k (xs.take m)).set (1 + m) (.int .u8 (xs.getD m 0)) = kcells k (xs.take (m + 1)) := by
  unfold kcells
  rw [Nat.add_comm, List.set_cons_succ]
  congr 1
  apply List.ext_getElem (by simp)
  intro i h3 h4
  simp only [List.length_map, List.length_range] at h4
  rw [List.getElem_set]
  simp only [List.getElem_map, List.getElem_range]
  by_cases e : m = i
  · subst e
    rw [if_pos rfl]
    simp [List.getD_eq_getElem?_getD, List.getElem?_take]
  · rw [if_neg e]
    by_cases e2 : i < m
    · simp [List.getD_eq_getElem?_getD, List.getElem?_take, e2, Nat.lt_succ_of_lt e2]
    · have : ¬ i < m + 1 := by omega
      simp [List.getD_eq_getElem?_getD, List.getElem?_take, e2, this]
theorem KeyAt.set {w : World} {g : Nat} {k : Int} {xs : List Int} {m : Nat} (h : KeyAt w g k (xs.take m)) (hm : m < xs.length) (h2 : m < 255) : KeyAt (w.setCell ⟨g, 1 + m, none⟩ (.int .u8 (xs.getD m 0))) g k (xs.take (m + 1)) := by
  unfold KeyAt at *
  rw [heap_setCell_same _ _ _ _ _ _ h]
  rw [← kc_set hm h2]
  simp
theorem KeyAt.cell {w : World} {g : Nat} {k : Int} {xs : List Int} (h : KeyAt w g k xs) {j : Nat} (hj : j < 255) : w.cell? ⟨g, 1 + j, none⟩ = some (.int .u8 (xs.getD j 0)) := by
  rw [cell_of_row w g (1 + j) _ _ _ h]
  rw [Nat.add_comm]
  unfold kcells
  simp [hj]
theorem KeyAt.lt {w : World} {g : Nat} {k : Int} {xs : List Int} (h : KeyAt w g k xs) : g < w.heap.size := (Array.getElem?_eq_some_iff.1 h).1
theorem KeyAt.fz {w : World} {g : Nat} {k : Int} {xs : List Int} (h : KeyAt w g k xs) (o : Nat) : w.frozen? ⟨g, o, none⟩ = false := frozen_of_row w g o _ _ h
theorem KeyAt.kept {S : Nat → Prop} {w w' : World} {g : Nat} {k : Int} {xs : List Int} (h : KeyAt w g k xs) (hk : Kept S w w') (hS : ¬ S g) : KeyAt w' g k xs := (hk.block g h.lt hS).trans h

end Go.Proofs.YtlmpagicjgldkaaGreat
