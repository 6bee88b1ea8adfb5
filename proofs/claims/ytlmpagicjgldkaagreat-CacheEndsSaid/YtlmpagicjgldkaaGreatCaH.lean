/-
  ask: a matrix is asked for.
-/
import Derived.Test.YtlmpagicjgldkaaGreatCaG
namespace Go.Proofs.YtlmpagicjgldkaaGreat
open Go.RowKit Go.Maps
set_option linter.unusedVariables false
set_option linter.unusedSimpArgs false
set_option maxRecDepth 100000
set_option maxHeartbeats 600000

theorem CacheAt.counts {w w' : World} {F : Nat → Prop} {b bm : Nat} {s : CS} (h : CacheAt w F b bm s) (hk : Kept (fun i => i = b) w w') (x y z : Nat) (hc : ∀ o, o < 5 → w'.cell? ⟨b, o, none⟩ = w.cell? ⟨b, o, none⟩)
    (c5 : w'.cell? ⟨b, 5, none⟩ = some (.int .i64 (x : Int))) (c6 : w'.cell? ⟨b, 6, none⟩ = some (.int .i64 (y : Int))) (c7 : w'.cell? ⟨b, 7, none⟩ = some (.int .i64 (z : Int))) (hf : ∀ o, w'.frozen? ⟨b, o, none⟩ = w.frozen? ⟨b, o, none⟩) :
    CacheAt w' F b bm { s with hits := x, misses := y, dropped := z } := by
  refine ⟨(hc 0 (by omega)).trans h.c0, (hc 1 (by omega)).trans h.c1, (hc 2 (by omega)).trans h.c2, (hc 3 (by omega)).trans h.c3, (hc 4 (by omega)).trans h.c4, c5, c6, c7, fun o => (hf o).trans (h.fz o), h.map.kept hk (fun e => h.ne e.symm), h.good, fun e he => ?_, h.fb, h.fm, h.rise, h.n1, h.n255, h.r1, h.r64, h.full⟩
  obtain ⟨U, hM, hU⟩ := h.mat e he
  exact ⟨U, hM.kept hk (fun i hi e => hU i hi (e ▸ h.fb)), hU⟩
theorem set_off {w : World} {b i o : Nat} (u : Value) (h : i ≠ o) : (w.setCell ⟨b, i, none⟩ u).cell? ⟨b, o, none⟩ = w.cell? ⟨b, o, none⟩ := World.cell?_setCell_other _ _ _ _ (fun e => h (congrArg Addr.off e))
theorem CacheAt.hit {w : World} {F : Nat → Prop} {b bm : Nat} {s : CS} (h : CacheAt w F b bm s) : CacheAt (w.setCell ⟨b, 5, none⟩ (.int .i64 ((s.hits : Int) + 1))) F b bm { s with hits := s.hits + 1 } :=
  h.counts (Kept.set1 w b 5 _) (s.hits + 1) s.misses s.dropped (fun o ho => set_off _ (by omega)) (by rw [World.cell?_setCell_same _ _ _ h.c5]; simp) ((set_off _ (by omega)).trans h.c6) ((set_off _ (by omega)).trans h.c7) (fun o => World.frozen?_setCell _ _ _ _)
theorem CacheAt.miss {w : World} {F : Nat → Prop} {b bm : Nat} {s : CS} (h : CacheAt w F b bm s) : CacheAt (w.setCell ⟨b, 6, none⟩ (.int .i64 ((s.misses : Int) + 1))) F b bm { s with misses := s.misses + 1 } :=
  h.counts (Kept.set1 w b 6 _) s.hits (s.misses + 1) s.dropped (fun o ho => set_off _ (by omega)) ((set_off _ (by omega)).trans h.c5) (by rw [World.cell?_setCell_same _ _ _ h.c6]; simp) ((set_off _ (by omega)).trans h.c7) (fun o => World.frozen?_setCell _ _ _ _)
theorem CacheAt.drop {w : World} {F : Nat → Prop} {b bm : Nat} {s : CS} (h : CacheAt w F b bm s) : CacheAt (w.setCell ⟨b, 7, none⟩ (.int .i64 ((s.dropped : Int) + 1))) F b bm { s with dropped := s.dropped + 1 } :=
  h.counts (Kept.set1 w b 7 _) s.hits s.misses (s.dropped + 1) (fun o ho => set_off _ (by omega)) ((set_off _ (by omega)).trans h.c5) ((set_off _ (by omega)).trans h.c6) (by rw [World.cell?_setCell_same _ _ _ h.c7]; simp) (fun o => World.frozen?_setCell _ _ _ _)

theorem of_yes (w : World) {F : Nat → Prop} {b bm : Nat} {s : CS} (hc : CacheAt w F b bm s) (K : Nat) (v : Value) (xs : List Int) (hv : IntsAt w v xs) (hl : xs.length ≤ 1000000) (h1 : 1 ≤ K) (h2 : K ≤ s.n) (h3 : K ≤ xs.length) (hr : ∀ x ∈ xs.take K, 0 ≤ x ∧ x < s.n) :
    Calls Tryz.prog 38 #[.pointer (some ⟨b, 0, none⟩), .int .i64 (K : Int), v] w fun e w' => e = .returned (.tuple #[keyV (K : Int) (xs.take K), .bool true]) ∧ Below w.heap.size w w' :=
  (of_some w hc K v xs hv hl h1 h2 h3).mono (fun e w' h => by
    obtain ⟨h, hb⟩ := h
    rcases h with ⟨_, h⟩ | ⟨h, _⟩
    · exact ⟨h, hb⟩
    · exact absurd hr h)
/-- A key's copy. -/
noncomputable def keyW (w1 : World) (C : Array Value) (g : Nat) : World := (w1.alloc (.cells Tryz.zeroCells86 86)).setRow g C
theorem keyW_run (w1 : World) (C : Array Value) (g : Nat) (hg : w1.heap.size = g) (hC : C.size = 256) (h1 : C.all (·.oneCell') = true) : (storeCells ⟨g, 0, none⟩ C.toList 0).run Tryz.prog (w1.alloc (.cells Tryz.zeroCells86 86)) = .ok () (keyW w1 C g) := by
  have hg0 : (w1.alloc (.cells Tryz.zeroCells86 86)).heap[g]? = some (.cells Tryz.zeroCells86 86 (0, 0)) := by rw [← hg]; exact Go.heap_alloc_new _ _
  have := run_storeVar_row (P := Tryz.prog) _ g 86 86 _ C hg0 (by rw [hC]; exact size_key) (by rw [zero_key, kc_size, hC]) h1
  obtain ⟨i6, hi6⟩ : ∃ i, Tryz.prog.info? 86 = some i := by cases hq : Tryz.prog.info? 86 with | none => have := size_key; rw [hq] at this; cases this | some i => exact ⟨i, rfl⟩
  have h6 : i6.size = 256 := by have := size_key; rw [hi6] at this; simpa using this
  simpa [storeVar, sizeOf, typeInfo, hi6, Value.cells, h6, hC, keyW] using this
theorem keyW_facts (w1 : World) (C : Array Value) (g : Nat) (hg : w1.heap.size = g) : (keyW w1 C g).heap[g]? = some (.cells C 86 (0, 0)) ∧ Kept (fun _ => False) w1 (keyW w1 C g) ∧ (keyW w1 C g).heap.size = g + 1 := by
  have hg0 : (w1.alloc (.cells Tryz.zeroCells86 86)).heap[g]? = some (.cells Tryz.zeroCells86 86 (0, 0)) := by rw [← hg]; exact Go.heap_alloc_new _ _
  refine ⟨setRow_heap _ _ _ _ _ _ hg0, ?_, by unfold keyW; simp; omega⟩
  have k := Kept.alloc (fun _ => False) w1 (.cells Tryz.zeroCells86 86)
  exact ⟨k.os, k.tape, k.output, by unfold keyW; simp, fun i hi hn => (setRow_other _ _ _ _ (by omega)).trans (k.block i hi hn)⟩

theorem ask_hit (w : World) {F : Nat → Prop} {b bm : Nat} {s : CS} (hc : CacheAt w F b bm s) (K : Nat) (v : Value) (xs : List Int) (hv : IntsAt w v xs) (hl : xs.length ≤ 1000000) (h1 : 1 ≤ K) (h2 : K ≤ s.n) (h3 : K ≤ xs.length) (hr : ∀ x ∈ xs.take K, 0 ≤ x ∧ x < s.n)
    (hx : decide (askE s.n 1 xs = 0) = true) (e : CE) (he : e ∈ s.es) (hek : e.k = K) (hex : e.xs = xs.take K) (hnow : s.now < 1000000000) (hhit : s.hits < 1000000000) :
    Calls Tryz.prog 27 #[.pointer (some ⟨b, 0, none⟩), .int .i64 (K : Int), v] w fun e' w' => e' = .returned (.tuple #[e.v, .int .i64 0]) ∧ CacheAt w' F b bm { s with now := s.now + 1, es := addE s.es e (s.now + 1), hits := s.hits + 1 } ∧ Kept (CK b bm) w w' := by
  have HC := Lib.hid hc
  have HV := Lib.hid hv
  have h255 := hc.n255
  have HOF := Lib.hid (of_yes w hc K v xs hv hl h1 h2 h3 hr)
  have HRR := Lib.hid hr
  obtain ⟨p, cap, hvv, _⟩ := hv
  subst hvv
  have HIX := Lib.hid (show Idx (K : Int) (xs.take K) from ⟨by omega, by omega, by rw [List.length_take]; omega, fun y hy => by have := hr y hy; omega⟩)
  obtain ⟨C, hC⟩ : ∃ C, (kcells K (xs.take K)).toArray = C := ⟨_, rfl⟩
  have HKV := Lib.hid (show keyV K (xs.take K) = .agg C by unfold keyV; rw [hC])
  have HCZ := Lib.hid (show C.size = 256 by rw [← hC]; exact kc_size _ _)
  have HC1 := Lib.hid (show C.all (·.oneCell') = true by rw [← hC]; exact kc_one _ _)
  have HCS := Lib.hid (show (Tryz.prog.info? 86).map (·.size) = some C.size by rw [HCZ.out]; exact size_key)
  rw [HKV.out] at HOF
  have hlb := hc.lt
  have hlm := hc.map.lt
  have HHX := Lib.hid hx
  clear hc hC hr hx
  go_enter Tryz.func27, Tryz.ntmps27
  go_wp2_with fail
  refine HOF.out.mono ?_
  rintro e1 w1 ⟨rfl, hB1⟩
  have hk := keyW_facts w1 C w1.heap.size rfl
  have hsc := keyW_run w1 C w1.heap.size rfl HCZ.out HC1.out
  have HB1 := Lib.hid (show Below w.heap.size w (keyW w1 C w1.heap.size) from hB1.trans (hk.2.1.toBelow hB1.size (fun _ h => h.elim)))
  have HG1 := Lib.hid hk.1
  have HZ1 := Lib.hid hk.2.2
  have hs1 := hB1.size
  clear hk hB1
  go_wp2_with fail
  generalize keyW w1 C w1.heap.size = w2 at *
  refine (unlike_any w2 (HC.out.below HB1.out) _ xs (HV.out.below HB1.out) hl (by omega)).mono ?_
  rw [show decide (askE s.n 1 xs = 0) = true from HHX.out]
  rintro e3 w3 ⟨rfl, hB3⟩
  have HB3 := Lib.hid (below_more HB1.out hB3 HB1.out.size)
  have HG3 := Lib.hid ((hB3.block w1.heap.size (by rw [HZ1.out]; omega)).trans HG1.out)
  have HS3 := Lib.hid (show w1.heap.size < w3.heap.size by have := hB3.size; rw [HZ1.out] at this; omega)
  have hs3 := HS3.out
  clear hB3
  go_wp2_with fail
  have HNG := Lib.hid (show ¬ CK b bm w1.heap.size from fun h => by rcases h with h | h <;> omega)
  have HC3 := Lib.hid (HC.out.below (w' := w3.drew) (belowDrew' HB3.out))
  have HKS := Lib.hid (show Kept (CK b bm) w3 w3.drew from ⟨rfl, rfl, rfl, Nat.le_refl _, fun _ _ _ => rfl⟩)
  have HGC := Lib.hid (get_yes w3.drew HC3.out K (xs.take K) HIX.out e he (by rw [hek]) hex hnow)
  rw [HKV.out] at HGC
  obtain ⟨hits, hht⟩ : ∃ n, s.hits = n := ⟨_, rfl⟩
  have HHT := Lib.hid hht
  rw [hht] at hhit
  have HEV := Lib.hid (show e.v = .slice (some ⟨e.gm, 0, none⟩) e.k e.k from rfl)
  obtain ⟨ev, hev⟩ : ∃ x, e.v = x := ⟨_, rfl⟩
  rw [hev] at HGC
  have HEW := Lib.hid hev
  clear he hek hex hnow hht hev
  refine s_start 10 (fun w' => Kept (CK b bm) w3 w') (by as_aux_lemma => kernel_rfl) (by as_aux_lemma => kernel_rfl) HKS.out ?_
  refine s_take 0 (by as_aux_lemma => kernel_rfl) (by as_aux_lemma => kernel_rfl) (by as_aux_lemma => kernel_rfl) (by as_aux_lemma => kernel_rfl) HKS.out (fun oi ho => ?_)
  simp only [List.getElem?_toArray, List.getElem?_cons_succ, List.getElem?_cons_zero, Option.some.injEq] at ho
  subst ho
  refine ⟨?_, Or.inl ⟨by rfl, fun w _ => ?_⟩, ?_⟩
  rotate_left
  · (go_simp <;> with_reducible rfl)
  try simp only [Act.put, List.setIfInBounds_toArray, List.set_cons_zero, List.set_cons_succ]
  refine s_take 1 (by as_aux_lemma => kernel_rfl) (by as_aux_lemma => kernel_rfl) (by as_aux_lemma => kernel_rfl) (by as_aux_lemma => kernel_rfl) HKS.out (fun oi ho => ?_)
  simp only [List.getElem?_toArray, List.getElem?_cons_succ, List.getElem?_cons_zero, Option.some.injEq] at ho
  subst ho
  refine ⟨?_, Or.inl ⟨by rfl, fun w _ => ?_⟩, ?_⟩
  rotate_left
  · (go_simp <;> with_reducible rfl)
  try simp only [Act.put, List.setIfInBounds_toArray, List.set_cons_zero, List.set_cons_succ]
  refine s_take 2 (by as_aux_lemma => kernel_rfl) (by as_aux_lemma => kernel_rfl) (by as_aux_lemma => kernel_rfl) (by as_aux_lemma => kernel_rfl) HKS.out (fun oi ho => ?_)
  simp only [List.getElem?_toArray, List.getElem?_cons_succ, List.getElem?_cons_zero, Option.some.injEq] at ho
  subst ho
  refine ⟨?_, Or.inl ⟨by rfl, fun w _ => ?_⟩, ?_⟩
  rotate_left
  · (go_simp <;> with_reducible rfl)
  try simp only [Act.put, List.setIfInBounds_toArray, List.set_cons_zero, List.set_cons_succ]
  refine s_take 3 (by as_aux_lemma => kernel_rfl) (by as_aux_lemma => kernel_rfl) (by as_aux_lemma => kernel_rfl) (by as_aux_lemma => kernel_rfl) HKS.out (fun oi ho => ?_)
  simp only [List.getElem?_toArray, List.getElem?_cons_succ, List.getElem?_cons_zero, Option.some.injEq] at ho
  subst ho
  refine ⟨_, yields_row (by rfl) 86 _ rfl w1.heap.size rfl C 86 (0, 0) _ (fun w' hS' => (hS'.block w1.heap.size HS3.out HNG.out).trans HG3.out) Tryz.underlying86 rfl HCS.out, ?_⟩
  try simp only [Act.put, List.setIfInBounds_toArray, List.set_cons_zero, List.set_cons_succ]
  refine s_all (rs := [4]) (by as_aux_lemma => kernel_rfl) (by simp) ?_
  refine s_step 4 (by as_aux_lemma => kernel_rfl) (fun o ho K hK => ?_) AllReadyH.nil
  simp only [List.getElem?_toArray, List.getElem?_cons_succ, List.getElem?_cons_zero, Option.some.injEq] at ho
  subst ho
  go_simp
  go_at_call 41
  refine HGC.out.mono ?_
  rintro e4 w4 ⟨rfl, hc4, hk4⟩
  have HC4 := Lib.hid hc4
  have HK4 := Lib.hid (HKS.out.trans hk4 (fun _ _ h => h))
  clear hc4 hk4
  go_wp2_with fail
  refine hK.out _ _ HK4.out ?_
  clear hK K
  try simp only [Act.put, List.setIfInBounds_toArray, List.set_cons_zero, List.set_cons_succ]
  refine s_take 5 (by as_aux_lemma => kernel_rfl) (by as_aux_lemma => kernel_rfl) (by as_aux_lemma => kernel_rfl) (by as_aux_lemma => kernel_rfl) HK4.out (fun oi ho => ?_)
  simp only [List.getElem?_toArray, List.getElem?_cons_succ, List.getElem?_cons_zero, Option.some.injEq] at ho
  subst ho
  refine ⟨?_, Or.inl ⟨by rfl, fun w _ => ?_⟩, ?_⟩
  rotate_left
  · (go_simp <;> with_reducible rfl)
  try simp only [Act.put, List.setIfInBounds_toArray, List.set_cons_zero, List.set_cons_succ]
  refine s_take 6 (by as_aux_lemma => kernel_rfl) (by as_aux_lemma => kernel_rfl) (by as_aux_lemma => kernel_rfl) (by as_aux_lemma => kernel_rfl) HK4.out (fun oi ho => ?_)
  simp only [List.getElem?_toArray, List.getElem?_cons_succ, List.getElem?_cons_zero, Option.some.injEq] at ho
  subst ho
  refine ⟨?_, Or.inl ⟨by rfl, fun w _ => ?_⟩, ?_⟩
  rotate_left
  · (go_simp <;> with_reducible rfl)
  try simp only [Act.put, List.setIfInBounds_toArray, List.set_cons_zero, List.set_cons_succ]
  refine s_take 7 (by as_aux_lemma => kernel_rfl) (by as_aux_lemma => kernel_rfl) (by as_aux_lemma => kernel_rfl) (by as_aux_lemma => kernel_rfl) HK4.out (fun oi ho => ?_)
  simp only [List.getElem?_toArray, List.getElem?_cons_succ, List.getElem?_cons_zero, Option.some.injEq] at ho
  subst ho
  refine ⟨?_, Or.inl ⟨by rfl, fun w _ => ?_⟩, ?_⟩
  rotate_left
  · (go_simp <;> with_reducible rfl)
  try simp only [Act.put, List.setIfInBounds_toArray, List.set_cons_zero, List.set_cons_succ]
  refine s_take 8 (by as_aux_lemma => kernel_rfl) (by as_aux_lemma => kernel_rfl) (by as_aux_lemma => kernel_rfl) (by as_aux_lemma => kernel_rfl) HK4.out (fun oi ho => ?_)
  simp only [List.getElem?_toArray, List.getElem?_cons_succ, List.getElem?_cons_zero, Option.some.injEq] at ho
  subst ho
  refine ⟨?_, Or.inl ⟨by rfl, fun w _ => ?_⟩, ?_⟩
  rotate_left
  · (go_simp <;> with_reducible rfl)
  try simp only [Act.put, List.setIfInBounds_toArray, List.set_cons_zero, List.set_cons_succ]
  refine s_take 9 (by as_aux_lemma => kernel_rfl) (by as_aux_lemma => kernel_rfl) (by as_aux_lemma => kernel_rfl) (by as_aux_lemma => kernel_rfl) HK4.out (fun oi ho => ?_)
  simp only [List.getElem?_toArray, List.getElem?_cons_succ, List.getElem?_cons_zero, Option.some.injEq] at ho
  subst ho
  refine ⟨?_, Or.inl ⟨by rfl, fun w _ => ?_⟩, ?_⟩
  rotate_left
  · (go_simp <;> with_reducible rfl)
  try simp only [Act.put, List.setIfInBounds_toArray, List.set_cons_zero, List.set_cons_succ]
  refine s_done (by as_aux_lemma => kernel_rfl) ?_
  have z5 := HC4.out.c5
  rw [show (({ s with now := s.now + 1, es := addE s.es e (s.now + 1) } : CS)).hits = hits from HHT.out] at z5
  have zf := HC4.out.fz 5
  have hl4 := HC4.out.lt
  have hh0 : (0 : Int) ≤ (hits : Int) := by omega
  go_wp2
  go_ret2
  have h5 := HC4.out.hit
  rw [show (({ s with now := s.now + 1, es := addE s.es e (s.now + 1) } : CS)).hits = hits from HHT.out] at h5
  refine ⟨by rw [HEW.out]; rfl, by rw [HHT.out]; exact h5, ?_⟩
  exact ((Kept.below HB3.out).mono (fun _ _ h => h.elim)).trans (HK4.out.trans ((Kept.set1 w4 b 5 _).mono (S' := CK b bm) (fun i _ h => .inl h)) (fun _ _ h => h)) (fun _ _ h => h)

end Go.Proofs.YtlmpagicjgldkaaGreat
