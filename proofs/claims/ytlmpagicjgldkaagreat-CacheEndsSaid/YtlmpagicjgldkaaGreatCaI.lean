/-
  ask: a matrix that is not kept.
-/
import Derived.Test.YtlmpagicjgldkaaGreatCaH
namespace Go.Proofs.YtlmpagicjgldkaaGreat
open Go.RowKit Go.Maps
set_option linter.unusedVariables false
set_option linter.unusedSimpArgs false
set_option maxRecDepth 100000
set_option maxHeartbeats 1500000

theorem ask_low (w : World) {F : Nat → Prop} {b bm : Nat} {s : CS} (hc : CacheAt w F b bm s) (hF : ∀ i, F i → i < w.heap.size) (K : Nat) (v : Value) (xs : List Int) (hv : IntsAt w v xs) (hl : xs.length ≤ 1000000) (h1 : 1 ≤ K) (h2 : K ≤ s.n) (h3 : K ≤ xs.length) (hr : ∀ x ∈ xs.take K, 0 ≤ x ∧ x < s.n)
    (hx : decide (askE s.n 1 xs = 0) = true) (hno : ∀ x ∈ s.es, x.L ≠ kl K (xs.take K)) (hnow : s.now < 1000000000) (hmis : s.misses < 1000000000) (hdrp : s.dropped < 1000000000) (hlow : s.es.length < s.room) :
    Calls Tryz.prog 27 #[.pointer (some ⟨b, 0, none⟩), .int .i64 (K : Int), v] w fun e' w' => ∃ gm, e' = .returned (.tuple #[.slice (some ⟨gm, 0, none⟩) K K, .int .i64 0]) ∧ CacheAt w' F b bm { s with now := s.now + 1, es := addE s.es ⟨K, xs.take K, 0, gm⟩ (s.now + 1), misses := s.misses + 1 } ∧ Kept (CK b bm) w w' := by
  have HF := Lib.hid hF
  have HNW := Lib.hid hnow
  have HDP := Lib.hid hdrp
  have HNO := Lib.hid hno
  have HLO := Lib.hid hlow
  have HOK := Lib.hid (show AskOk s.n K xs from askE_zero (by
    have := of_decide_eq_true hx
    unfold askE at this ⊢
    split at this
    · rename_i q
      rw [if_pos q]
      split at this
      · rename_i q2
        rw [if_pos q2, if_neg (by omega)]
      · cases this
    · cases this))
  clear hF hnow hdrp hno hlow
  have HC := Lib.hid hc
  have HV := Lib.hid hv
  have h255 := hc.n255
  have HOF := Lib.hid (of_yes w hc K v xs hv hl h1 h2 h3 hr)
  have HRR := Lib.hid hr
  obtain ⟨p, cap, hvv, _⟩ := hv
  subst hvv
  have HIX := Lib.hid (show Idx (K : Int) (xs.take K) from ⟨by omega, by omega, by rw [List.length_take]; omega, fun y hy => by have := hr y hy; omega⟩)
  obtain ⟨C, hC⟩ : ∃ C, (kcells K (xs.take K)).toArray = C := ⟨_, rfl⟩
  have HKV := Lib.hid (show keyV K (xs.take K) = .agg C by unfold keyV; rw [hC])
  have HCZ := Lib.hid (show C.size = 256 by rw [← hC]; exact kc_size _ _)
  have HC1 := Lib.hid (show C.all (·.oneCell') = true by rw [← hC]; exact kc_one _ _)
  have HCS := Lib.hid (show (Tryz.prog.info? 86).map (·.size) = some C.size by rw [HCZ.out]; exact size_key)
  rw [HKV.out] at HOF
  have hlb := hc.lt
  have hlm := hc.map.lt
  have HHX := Lib.hid hx
  clear hc hC hr hx
  go_enter Tryz.func27, Tryz.ntmps27
  go_wp2_with fail
  refine HOF.out.mono ?_
  rintro e1 w1 ⟨rfl, hB1⟩
  have hk := keyW_facts w1 C w1.heap.size rfl
  have hsc := keyW_run w1 C w1.heap.size rfl HCZ.out HC1.out
  have HB1 := Lib.hid (show Below w.heap.size w (keyW w1 C w1.heap.size) from hB1.trans (hk.2.1.toBelow hB1.size (fun _ h => h.elim)))
  have HG1 := Lib.hid hk.1
  have HZ1 := Lib.hid hk.2.2
  have hs1 := hB1.size
  clear hk hB1
  go_wp2_with fail
  generalize keyW w1 C w1.heap.size = w2 at *
  refine (unlike_any w2 (HC.out.below HB1.out) _ xs (HV.out.below HB1.out) hl (by omega)).mono ?_
  rw [show decide (askE s.n 1 xs = 0) = true from HHX.out]
  rintro e3 w3 ⟨rfl, hB3⟩
  have HB3 := Lib.hid (below_more HB1.out hB3 HB1.out.size)
  have HG3 := Lib.hid ((hB3.block w1.heap.size (by rw [HZ1.out]; omega)).trans HG1.out)
  have HS3 := Lib.hid (show w1.heap.size < w3.heap.size by have := hB3.size; rw [HZ1.out] at this; omega)
  have hs3 := HS3.out
  clear hB3
  go_wp2_with fail
  have HNG := Lib.hid (show ¬ CK b bm w1.heap.size from fun h => by rcases h with h | h <;> omega)
  have HC3 := Lib.hid (HC.out.below (w' := w3.drew) (belowDrew' HB3.out))
  have HKS := Lib.hid (show Kept (CK b bm) w3 w3.drew from ⟨rfl, rfl, rfl, Nat.le_refl _, fun _ _ _ => rfl⟩)
  have HGC := Lib.hid (get_no w3.drew HC3.out K (xs.take K) HIX.out HNO.out)
  rw [HKV.out] at HGC
  refine s_start 10 (fun w' => Kept (CK b bm) w3 w') (by as_aux_lemma => kernel_rfl) (by as_aux_lemma => kernel_rfl) HKS.out ?_
  refine s_take 0 (by as_aux_lemma => kernel_rfl) (by as_aux_lemma => kernel_rfl) (by as_aux_lemma => kernel_rfl) (by as_aux_lemma => kernel_rfl) HKS.out (fun oi ho => ?_)
  simp only [List.getElem?_toArray, List.getElem?_cons_succ, List.getElem?_cons_zero, Option.some.injEq] at ho
  subst ho
  refine ⟨?_, Or.inl ⟨by rfl, fun w _ => ?_⟩, ?_⟩
  rotate_left
  · (go_simp <;> with_reducible rfl)
  try simp only [Act.put, List.setIfInBounds_toArray, List.set_cons_zero, List.set_cons_succ]
  refine s_take 1 (by as_aux_lemma => kernel_rfl) (by as_aux_lemma => kernel_rfl) (by as_aux_lemma => kernel_rfl) (by as_aux_lemma => kernel_rfl) HKS.out (fun oi ho => ?_)
  simp only [List.getElem?_toArray, List.getElem?_cons_succ, List.getElem?_cons_zero, Option.some.injEq] at ho
  subst ho
  refine ⟨?_, Or.inl ⟨by rfl, fun w _ => ?_⟩, ?_⟩
  rotate_left
  · (go_simp <;> with_reducible rfl)
  try simp only [Act.put, List.setIfInBounds_toArray, List.set_cons_zero, List.set_cons_succ]
  refine s_take 2 (by as_aux_lemma => kernel_rfl) (by as_aux_lemma => kernel_rfl) (by as_aux_lemma => kernel_rfl) (by as_aux_lemma => kernel_rfl) HKS.out (fun oi ho => ?_)
  simp only [List.getElem?_toArray, List.getElem?_cons_succ, List.getElem?_cons_zero, Option.some.injEq] at ho
  subst ho
  refine ⟨?_, Or.inl ⟨by rfl, fun w _ => ?_⟩, ?_⟩
  rotate_left
  · (go_simp <;> with_reducible rfl)
  try simp only [Act.put, List.setIfInBounds_toArray, List.set_cons_zero, List.set_cons_succ]
  refine s_take 3 (by as_aux_lemma => kernel_rfl) (by as_aux_lemma => kernel_rfl) (by as_aux_lemma => kernel_rfl) (by as_aux_lemma => kernel_rfl) HKS.out (fun oi ho => ?_)
  simp only [List.getElem?_toArray, List.getElem?_cons_succ, List.getElem?_cons_zero, Option.some.injEq] at ho
  subst ho
  refine ⟨_, yields_row (by rfl) 86 _ rfl w1.heap.size rfl C 86 (0, 0) _ (fun w' hS' => (hS'.block w1.heap.size HS3.out HNG.out).trans HG3.out) Tryz.underlying86 rfl HCS.out, ?_⟩
  try simp only [Act.put, List.setIfInBounds_toArray, List.set_cons_zero, List.set_cons_succ]
  refine s_all (rs := [4]) (by as_aux_lemma => kernel_rfl) (by simp) ?_
  refine s_step 4 (by as_aux_lemma => kernel_rfl) (fun o ho K hK => ?_) AllReadyH.nil
  simp only [List.getElem?_toArray, List.getElem?_cons_succ, List.getElem?_cons_zero, Option.some.injEq] at ho
  subst ho
  go_simp
  go_at_call 41
  refine HGC.out.mono ?_
  rintro e4 w4 ⟨rfl, hb4⟩
  have HB4 := Lib.hid (below_more (belowDrew' HB3.out) hb4 HB3.out.size)
  have HK4 := Lib.hid (HKS.out.trans ((Kept.below hb4).mono (S' := CK b bm) (fun _ _ h => h.elim)) (fun _ _ h => h))
  have HG4 := Lib.hid ((hb4.block w1.heap.size HS3.out).trans HG3.out)
  have HS4 := Lib.hid (Nat.lt_of_lt_of_le HS3.out hb4.size)
  clear hb4
  go_wp2_with fail
  refine hK.out _ _ HK4.out ?_
  clear hK K
  try simp only [Act.put, List.setIfInBounds_toArray, List.set_cons_zero, List.set_cons_succ]
  refine s_take 5 (by as_aux_lemma => kernel_rfl) (by as_aux_lemma => kernel_rfl) (by as_aux_lemma => kernel_rfl) (by as_aux_lemma => kernel_rfl) HK4.out (fun oi ho => ?_)
  simp only [List.getElem?_toArray, List.getElem?_cons_succ, List.getElem?_cons_zero, Option.some.injEq] at ho
  subst ho
  refine ⟨?_, Or.inl ⟨by rfl, fun w _ => ?_⟩, ?_⟩
  rotate_left
  · (go_simp <;> with_reducible rfl)
  try simp only [Act.put, List.setIfInBounds_toArray, List.set_cons_zero, List.set_cons_succ]
  refine s_take 6 (by as_aux_lemma => kernel_rfl) (by as_aux_lemma => kernel_rfl) (by as_aux_lemma => kernel_rfl) (by as_aux_lemma => kernel_rfl) HK4.out (fun oi ho => ?_)
  simp only [List.getElem?_toArray, List.getElem?_cons_succ, List.getElem?_cons_zero, Option.some.injEq] at ho
  subst ho
  refine ⟨?_, Or.inl ⟨by rfl, fun w _ => ?_⟩, ?_⟩
  rotate_left
  · (go_simp <;> with_reducible rfl)
  try simp only [Act.put, List.setIfInBounds_toArray, List.set_cons_zero, List.set_cons_succ]
  refine s_take 7 (by as_aux_lemma => kernel_rfl) (by as_aux_lemma => kernel_rfl) (by as_aux_lemma => kernel_rfl) (by as_aux_lemma => kernel_rfl) HK4.out (fun oi ho => ?_)
  simp only [List.getElem?_toArray, List.getElem?_cons_succ, List.getElem?_cons_zero, Option.some.injEq] at ho
  subst ho
  refine ⟨?_, Or.inl ⟨by rfl, fun w _ => ?_⟩, ?_⟩
  rotate_left
  · (go_simp <;> with_reducible rfl)
  try simp only [Act.put, List.setIfInBounds_toArray, List.set_cons_zero, List.set_cons_succ]
  refine s_take 8 (by as_aux_lemma => kernel_rfl) (by as_aux_lemma => kernel_rfl) (by as_aux_lemma => kernel_rfl) (by as_aux_lemma => kernel_rfl) HK4.out (fun oi ho => ?_)
  simp only [List.getElem?_toArray, List.getElem?_cons_succ, List.getElem?_cons_zero, Option.some.injEq] at ho
  subst ho
  refine ⟨?_, Or.inl ⟨by rfl, fun w _ => ?_⟩, ?_⟩
  rotate_left
  · (go_simp <;> with_reducible rfl)
  try simp only [Act.put, List.setIfInBounds_toArray, List.set_cons_zero, List.set_cons_succ]
  refine s_take 9 (by as_aux_lemma => kernel_rfl) (by as_aux_lemma => kernel_rfl) (by as_aux_lemma => kernel_rfl) (by as_aux_lemma => kernel_rfl) HK4.out (fun oi ho => ?_)
  simp only [List.getElem?_toArray, List.getElem?_cons_succ, List.getElem?_cons_zero, Option.some.injEq] at ho
  subst ho
  refine ⟨?_, Or.inl ⟨by rfl, fun w _ => ?_⟩, ?_⟩
  rotate_left
  · (go_simp <;> with_reducible rfl)
  try simp only [Act.put, List.setIfInBounds_toArray, List.set_cons_zero, List.set_cons_succ]
  refine s_done (by as_aux_lemma => kernel_rfl) ?_
  have HC4 := Lib.hid (HC.out.below HB4.out)
  have z3 := HC4.out.c3
  have hl4 := HC4.out.lt
  have h255' : s.n ≤ 255 := h255
  go_wp2_with fail
  refine (cnew_any w4 s.n K h1 h2 h255).mono ?_
  rintro e5 w5 ⟨bc, bf, vt, rfl, hc5, hb5⟩
  have HC5 := Lib.hid hc5
  have HB5 := Lib.hid (below_more HB4.out hb5 HB4.out.size)
  have HG5 := Lib.hid ((hb5.block w1.heap.size HS4.out).trans HG4.out)
  have HS5 := Lib.hid (Nat.lt_of_lt_of_le HS4.out hb5.size)
  clear hc5 hb5 z3
  go_wp2_with fail
  refine (turn_any w5 HC5.out _ xs (HV.out.below HB5.out) hl HOK.out).mono ?_
  rintro e6 w6 ⟨gm, U, rfl, hM, hU, hb6⟩
  have HM6 := Lib.hid hM
  have HB6 := Lib.hid (below_more HB5.out hb6 HB5.out.size)
  have HG6 := Lib.hid ((hb6.block w1.heap.size HS5.out).trans HG5.out)
  have HS6 := Lib.hid (Nat.lt_of_lt_of_le HS5.out hb6.size)
  have HU6 := Lib.hid (show ∀ i, matB gm K U i → ¬ F i from fun i hi hf => by have h1 := hU i hi; have h2 := HF.out i hf; have h3 := HB5.out.size; omega)
  have HC6 := Lib.hid (HC.out.below HB6.out)
  clear hM hU hb6
  have z6 := HC6.out.c6
  have zf := HC6.out.fz 6
  have hl6 := HC6.out.lt
  obtain ⟨mis, hms⟩ : ∃ n, s.misses = n := ⟨_, rfl⟩
  have HMS := Lib.hid hms
  rw [hms] at z6 hmis
  have hC7 := HC6.out.miss
  rw [hms] at hC7
  have HC7 := Lib.hid hC7
  have HT7 := Lib.hid (Kept.set1 w6 b 6 (.int .i64 ((mis : Int) + 1)))
  clear hms hC7 hl4
  go_wp2_with fail
  generalize w6.setCell ⟨b, 6, none⟩ (.int .i64 ((mis : Int) + 1)) = w7 at *
  have HG7 := Lib.hid ((HT7.out.block w1.heap.size HS6.out (by omega)).trans HG6.out)
  have HS7 := Lib.hid (Nat.lt_of_lt_of_le HS6.out HT7.out.size)
  have HK7 := Lib.hid (show Kept (CK b bm) w w7 from ((Kept.below HB6.out).mono (fun _ _ h => h.elim)).trans (HT7.out.mono (S' := CK b bm) (fun i _ h => .inl h)) (fun _ _ h => h))
  have HC7D := Lib.hid (HC7.out.below (belowDrew' (Below.refl _ w7)))
  have HKS7 := Lib.hid (show Kept (CK b bm) w7 w7.drew from ⟨rfl, rfl, rfl, Nat.le_refl _, fun _ _ _ => rfl⟩)
  have hgd : (CE.now ⟨K, xs.take K, 0, gm⟩ (s.now + 1)).Good s.n (s.now + 1) := ⟨h1, h2, by show (xs.take K).length = K; rw [List.length_take]; omega, HRR.out, HOK.out.nodup.sublist (List.take_sublist _ _), by show 1 ≤ s.now + 1; omega, Nat.le_refl _⟩
  have hmt : Mat w7.drew F ⟨K, xs.take K, 0, gm⟩ := ⟨U, HM6.out.kept (HT7.out.trans ((Kept.below (belowDrew' (Below.refl _ w7))).mono (S' := fun i => i = b) (fun _ _ h => h.elim)) (fun _ _ h => h)) (fun i hi e => HU6.out i hi (e ▸ HC.out.fb)), HU6.out⟩
  have HPC := Lib.hid (put_low w7.drew HC7D.out ⟨K, xs.take K, 0, gm⟩ hgd HNO.out hmt HNW.out HLO.out)
  have HVV := Lib.hid (show (CE.v ⟨K, xs.take K, 0, gm⟩) = .slice (some ⟨gm, 0, none⟩) K K from rfl)
  rw [HVV.out, show keyV (((⟨K, xs.take K, 0, gm⟩ : CE).k : Nat) : Int) (⟨K, xs.take K, 0, gm⟩ : CE).xs = .agg C from HKV.out] at HPC
  clear hgd hmt z6 zf
  refine s_start 6 (fun w' => Kept (CK b bm) w7 w') (by as_aux_lemma => kernel_rfl) (by as_aux_lemma => kernel_rfl) HKS7.out ?_
  refine s_take 0 (by as_aux_lemma => kernel_rfl) (by as_aux_lemma => kernel_rfl) (by as_aux_lemma => kernel_rfl) (by as_aux_lemma => kernel_rfl) HKS7.out (fun oi ho => ?_)
  simp only [List.getElem?_toArray, List.getElem?_cons_succ, List.getElem?_cons_zero, Option.some.injEq] at ho
  subst ho
  refine ⟨?_, Or.inl ⟨by rfl, fun w _ => ?_⟩, ?_⟩
  rotate_left
  · (go_simp <;> with_reducible rfl)
  try simp only [Act.put, List.setIfInBounds_toArray, List.set_cons_zero, List.set_cons_succ]
  refine s_take 1 (by as_aux_lemma => kernel_rfl) (by as_aux_lemma => kernel_rfl) (by as_aux_lemma => kernel_rfl) (by as_aux_lemma => kernel_rfl) HKS7.out (fun oi ho => ?_)
  simp only [List.getElem?_toArray, List.getElem?_cons_succ, List.getElem?_cons_zero, Option.some.injEq] at ho
  subst ho
  refine ⟨?_, Or.inl ⟨by rfl, fun w _ => ?_⟩, ?_⟩
  rotate_left
  · (go_simp <;> with_reducible rfl)
  try simp only [Act.put, List.setIfInBounds_toArray, List.set_cons_zero, List.set_cons_succ]
  refine s_take 2 (by as_aux_lemma => kernel_rfl) (by as_aux_lemma => kernel_rfl) (by as_aux_lemma => kernel_rfl) (by as_aux_lemma => kernel_rfl) HKS7.out (fun oi ho => ?_)
  simp only [List.getElem?_toArray, List.getElem?_cons_succ, List.getElem?_cons_zero, Option.some.injEq] at ho
  subst ho
  refine ⟨?_, Or.inl ⟨by rfl, fun w _ => ?_⟩, ?_⟩
  rotate_left
  · (go_simp <;> with_reducible rfl)
  try simp only [Act.put, List.setIfInBounds_toArray, List.set_cons_zero, List.set_cons_succ]
  refine s_take 3 (by as_aux_lemma => kernel_rfl) (by as_aux_lemma => kernel_rfl) (by as_aux_lemma => kernel_rfl) (by as_aux_lemma => kernel_rfl) HKS7.out (fun oi ho => ?_)
  simp only [List.getElem?_toArray, List.getElem?_cons_succ, List.getElem?_cons_zero, Option.some.injEq] at ho
  subst ho
  refine ⟨_, yields_row (by rfl) 86 _ rfl w1.heap.size rfl C 86 (0, 0) _ (fun w' hS' => (hS'.block w1.heap.size HS7.out HNG.out).trans HG7.out) Tryz.underlying86 rfl HCS.out, ?_⟩
  try simp only [Act.put, List.setIfInBounds_toArray, List.set_cons_zero, List.set_cons_succ]
  refine s_take 4 (by as_aux_lemma => kernel_rfl) (by as_aux_lemma => kernel_rfl) (by as_aux_lemma => kernel_rfl) (by as_aux_lemma => kernel_rfl) HKS7.out (fun oi ho => ?_)
  simp only [List.getElem?_toArray, List.getElem?_cons_succ, List.getElem?_cons_zero, Option.some.injEq] at ho
  subst ho
  refine ⟨?_, Or.inl ⟨by rfl, fun w _ => ?_⟩, ?_⟩
  rotate_left
  · (go_simp <;> with_reducible rfl)
  try simp only [Act.put, List.setIfInBounds_toArray, List.set_cons_zero, List.set_cons_succ]
  refine s_all (rs := [5]) (by as_aux_lemma => kernel_rfl) (by simp) ?_
  refine s_step 5 (by as_aux_lemma => kernel_rfl) (fun o ho K hK => ?_) AllReadyH.nil
  simp only [List.getElem?_toArray, List.getElem?_cons_succ, List.getElem?_cons_zero, Option.some.injEq] at ho
  subst ho
  go_simp
  go_at_call 44
  refine HPC.out.mono ?_
  rintro e8 w8 ⟨rfl, hc8, hk8⟩
  have HC8 := Lib.hid hc8
  have HK8 := Lib.hid (HKS7.out.trans hk8 (fun _ _ h => h))
  clear hc8 hk8
  go_wp2_with fail
  refine hK.out _ _ HK8.out ?_
  clear hK K
  try simp only [Act.put, List.setIfInBounds_toArray, List.set_cons_zero, List.set_cons_succ]
  refine s_done (by as_aux_lemma => kernel_rfl) ?_
  go_wp2
  go_ret2
  exact ⟨gm, rfl, by rw [HMS.out]; exact HC8.out, HK7.out.trans HK8.out (fun _ _ h => h)⟩

theorem ask_full (w : World) {F : Nat → Prop} {b bm : Nat} {s : CS} (hc : CacheAt w F b bm s) (hF : ∀ i, F i → i < w.heap.size) (K : Nat) (v : Value) (xs : List Int) (hv : IntsAt w v xs) (hl : xs.length ≤ 1000000) (h1 : 1 ≤ K) (h2 : K ≤ s.n) (h3 : K ≤ xs.length) (hr : ∀ x ∈ xs.take K, 0 ≤ x ∧ x < s.n)
    (hx : decide (askE s.n 1 xs = 0) = true) (hno : ∀ x ∈ s.es, x.L ≠ kl K (xs.take K)) (hnow : s.now < 1000000000) (hmis : s.misses < 1000000000) (hdrp : s.dropped < 1000000000) (e0 : CE) (r0 : List CE) (hes : s.es = e0 :: r0) (hful : s.es.length = s.room) :
    Calls Tryz.prog 27 #[.pointer (some ⟨b, 0, none⟩), .int .i64 (K : Int), v] w fun e' w' => ∃ gm, e' = .returned (.tuple #[.slice (some ⟨gm, 0, none⟩) K K, .int .i64 0]) ∧ CacheAt w' F b bm { s with now := s.now + 1, es := addE r0 ⟨K, xs.take K, 0, gm⟩ (s.now + 1), misses := s.misses + 1, dropped := s.dropped + 1 } ∧ Kept (CK b bm) w w' := by
  have HF := Lib.hid hF
  have HNW := Lib.hid hnow
  have HDP := Lib.hid hdrp
  have HNO := Lib.hid hno
  have HES := Lib.hid hes
  have HFU := Lib.hid hful
  have HOK := Lib.hid (show AskOk s.n K xs from askE_zero (by
    have := of_decide_eq_true hx
    unfold askE at this ⊢
    split at this
    · rename_i q
      rw [if_pos q]
      split at this
      · rename_i q2
        rw [if_pos q2, if_neg (by omega)]
      · cases this
    · cases this))
  clear hF hnow hdrp hno hes hful
  have HC := Lib.hid hc
  have HV := Lib.hid hv
  have h255 := hc.n255
  have HOF := Lib.hid (of_yes w hc K v xs hv hl h1 h2 h3 hr)
  have HRR := Lib.hid hr
  obtain ⟨p, cap, hvv, _⟩ := hv
  subst hvv
  have HIX := Lib.hid (show Idx (K : Int) (xs.take K) from ⟨by omega, by omega, by rw [List.length_take]; omega, fun y hy => by have := hr y hy; omega⟩)
  obtain ⟨C, hC⟩ : ∃ C, (kcells K (xs.take K)).toArray = C := ⟨_, rfl⟩
  have HKV := Lib.hid (show keyV K (xs.take K) = .agg C by unfold keyV; rw [hC])
  have HCZ := Lib.hid (show C.size = 256 by rw [← hC]; exact kc_size _ _)
  have HC1 := Lib.hid (show C.all (·.oneCell') = true by rw [← hC]; exact kc_one _ _)
  have HCS := Lib.hid (show (Tryz.prog.info? 86).map (·.size) = some C.size by rw [HCZ.out]; exact size_key)
  rw [HKV.out] at HOF
  have hlb := hc.lt
  have hlm := hc.map.lt
  have HHX := Lib.hid hx
  clear hc hC hr hx
  go_enter Tryz.func27, Tryz.ntmps27
  go_wp2_with fail
  refine HOF.out.mono ?_
  rintro e1 w1 ⟨rfl, hB1⟩
  have hk := keyW_facts w1 C w1.heap.size rfl
  have hsc := keyW_run w1 C w1.heap.size rfl HCZ.out HC1.out
  have HB1 := Lib.hid (show Below w.heap.size w (keyW w1 C w1.heap.size) from hB1.trans (hk.2.1.toBelow hB1.size (fun _ h => h.elim)))
  have HG1 := Lib.hid hk.1
  have HZ1 := Lib.hid hk.2.2
  have hs1 := hB1.size
  clear hk hB1
  go_wp2_with fail
  generalize keyW w1 C w1.heap.size = w2 at *
  refine (unlike_any w2 (HC.out.below HB1.out) _ xs (HV.out.below HB1.out) hl (by omega)).mono ?_
  rw [show decide (askE s.n 1 xs = 0) = true from HHX.out]
  rintro e3 w3 ⟨rfl, hB3⟩
  have HB3 := Lib.hid (below_more HB1.out hB3 HB1.out.size)
  have HG3 := Lib.hid ((hB3.block w1.heap.size (by rw [HZ1.out]; omega)).trans HG1.out)
  have HS3 := Lib.hid (show w1.heap.size < w3.heap.size by have := hB3.size; rw [HZ1.out] at this; omega)
  have hs3 := HS3.out
  clear hB3
  go_wp2_with fail
  have HNG := Lib.hid (show ¬ CK b bm w1.heap.size from fun h => by rcases h with h | h <;> omega)
  have HC3 := Lib.hid (HC.out.below (w' := w3.drew) (belowDrew' HB3.out))
  have HKS := Lib.hid (show Kept (CK b bm) w3 w3.drew from ⟨rfl, rfl, rfl, Nat.le_refl _, fun _ _ _ => rfl⟩)
  have HGC := Lib.hid (get_no w3.drew HC3.out K (xs.take K) HIX.out HNO.out)
  rw [HKV.out] at HGC
  refine s_start 10 (fun w' => Kept (CK b bm) w3 w') (by as_aux_lemma => kernel_rfl) (by as_aux_lemma => kernel_rfl) HKS.out ?_
  refine s_take 0 (by as_aux_lemma => kernel_rfl) (by as_aux_lemma => kernel_rfl) (by as_aux_lemma => kernel_rfl) (by as_aux_lemma => kernel_rfl) HKS.out (fun oi ho => ?_)
  simp only [List.getElem?_toArray, List.getElem?_cons_succ, List.getElem?_cons_zero, Option.some.injEq] at ho
  subst ho
  refine ⟨?_, Or.inl ⟨by rfl, fun w _ => ?_⟩, ?_⟩
  rotate_left
  · (go_simp <;> with_reducible rfl)
  try simp only [Act.put, List.setIfInBounds_toArray, List.set_cons_zero, List.set_cons_succ]
  refine s_take 1 (by as_aux_lemma => kernel_rfl) (by as_aux_lemma => kernel_rfl) (by as_aux_lemma => kernel_rfl) (by as_aux_lemma => kernel_rfl) HKS.out (fun oi ho => ?_)
  simp only [List.getElem?_toArray, List.getElem?_cons_succ, List.getElem?_cons_zero, Option.some.injEq] at ho
  subst ho
  refine ⟨?_, Or.inl ⟨by rfl, fun w _ => ?_⟩, ?_⟩
  rotate_left
  · (go_simp <;> with_reducible rfl)
  try simp only [Act.put, List.setIfInBounds_toArray, List.set_cons_zero, List.set_cons_succ]
  refine s_take 2 (by as_aux_lemma => kernel_rfl) (by as_aux_lemma => kernel_rfl) (by as_aux_lemma => kernel_rfl) (by as_aux_lemma => kernel_rfl) HKS.out (fun oi ho => ?_)
  simp only [List.getElem?_toArray, List.getElem?_cons_succ, List.getElem?_cons_zero, Option.some.injEq] at ho
  subst ho
  refine ⟨?_, Or.inl ⟨by rfl, fun w _ => ?_⟩, ?_⟩
  rotate_left
  · (go_simp <;> with_reducible rfl)
  try simp only [Act.put, List.setIfInBounds_toArray, List.set_cons_zero, List.set_cons_succ]
  refine s_take 3 (by as_aux_lemma => kernel_rfl) (by as_aux_lemma => kernel_rfl) (by as_aux_lemma => kernel_rfl) (by as_aux_lemma => kernel_rfl) HKS.out (fun oi ho => ?_)
  simp only [List.getElem?_toArray, List.getElem?_cons_succ, List.getElem?_cons_zero, Option.some.injEq] at ho
  subst ho
  refine ⟨_, yields_row (by rfl) 86 _ rfl w1.heap.size rfl C 86 (0, 0) _ (fun w' hS' => (hS'.block w1.heap.size HS3.out HNG.out).trans HG3.out) Tryz.underlying86 rfl HCS.out, ?_⟩
  try simp only [Act.put, List.setIfInBounds_toArray, List.set_cons_zero, List.set_cons_succ]
  refine s_all (rs := [4]) (by as_aux_lemma => kernel_rfl) (by simp) ?_
  refine s_step 4 (by as_aux_lemma => kernel_rfl) (fun o ho K hK => ?_) AllReadyH.nil
  simp only [List.getElem?_toArray, List.getElem?_cons_succ, List.getElem?_cons_zero, Option.some.injEq] at ho
  subst ho
  go_simp
  go_at_call 41
  refine HGC.out.mono ?_
  rintro e4 w4 ⟨rfl, hb4⟩
  have HB4 := Lib.hid (below_more (belowDrew' HB3.out) hb4 HB3.out.size)
  have HK4 := Lib.hid (HKS.out.trans ((Kept.below hb4).mono (S' := CK b bm) (fun _ _ h => h.elim)) (fun _ _ h => h))
  have HG4 := Lib.hid ((hb4.block w1.heap.size HS3.out).trans HG3.out)
  have HS4 := Lib.hid (Nat.lt_of_lt_of_le HS3.out hb4.size)
  clear hb4
  go_wp2_with fail
  refine hK.out _ _ HK4.out ?_
  clear hK K
  try simp only [Act.put, List.setIfInBounds_toArray, List.set_cons_zero, List.set_cons_succ]
  refine s_take 5 (by as_aux_lemma => kernel_rfl) (by as_aux_lemma => kernel_rfl) (by as_aux_lemma => kernel_rfl) (by as_aux_lemma => kernel_rfl) HK4.out (fun oi ho => ?_)
  simp only [List.getElem?_toArray, List.getElem?_cons_succ, List.getElem?_cons_zero, Option.some.injEq] at ho
  subst ho
  refine ⟨?_, Or.inl ⟨by rfl, fun w _ => ?_⟩, ?_⟩
  rotate_left
  · (go_simp <;> with_reducible rfl)
  try simp only [Act.put, List.setIfInBounds_toArray, List.set_cons_zero, List.set_cons_succ]
  refine s_take 6 (by as_aux_lemma => kernel_rfl) (by as_aux_lemma => kernel_rfl) (by as_aux_lemma => kernel_rfl) (by as_aux_lemma => kernel_rfl) HK4.out (fun oi ho => ?_)
  simp only [List.getElem?_toArray, List.getElem?_cons_succ, List.getElem?_cons_zero, Option.some.injEq] at ho
  subst ho
  refine ⟨?_, Or.inl ⟨by rfl, fun w _ => ?_⟩, ?_⟩
  rotate_left
  · (go_simp <;> with_reducible rfl)
  try simp only [Act.put, List.setIfInBounds_toArray, List.set_cons_zero, List.set_cons_succ]
  refine s_take 7 (by as_aux_lemma => kernel_rfl) (by as_aux_lemma => kernel_rfl) (by as_aux_lemma => kernel_rfl) (by as_aux_lemma => kernel_rfl) HK4.out (fun oi ho => ?_)
  simp only [List.getElem?_toArray, List.getElem?_cons_succ, List.getElem?_cons_zero, Option.some.injEq] at ho
  subst ho
  refine ⟨?_, Or.inl ⟨by rfl, fun w _ => ?_⟩, ?_⟩
  rotate_left
  · (go_simp <;> with_reducible rfl)
  try simp only [Act.put, List.setIfInBounds_toArray, List.set_cons_zero, List.set_cons_succ]
  refine s_take 8 (by as_aux_lemma => kernel_rfl) (by as_aux_lemma => kernel_rfl) (by as_aux_lemma => kernel_rfl) (by as_aux_lemma => kernel_rfl) HK4.out (fun oi ho => ?_)
  simp only [List.getElem?_toArray, List.getElem?_cons_succ, List.getElem?_cons_zero, Option.some.injEq] at ho
  subst ho
  refine ⟨?_, Or.inl ⟨by rfl, fun w _ => ?_⟩, ?_⟩
  rotate_left
  · (go_simp <;> with_reducible rfl)
  try simp only [Act.put, List.setIfInBounds_toArray, List.set_cons_zero, List.set_cons_succ]
  refine s_take 9 (by as_aux_lemma => kernel_rfl) (by as_aux_lemma => kernel_rfl) (by as_aux_lemma => kernel_rfl) (by as_aux_lemma => kernel_rfl) HK4.out (fun oi ho => ?_)
  simp only [List.getElem?_toArray, List.getElem?_cons_succ, List.getElem?_cons_zero, Option.some.injEq] at ho
  subst ho
  refine ⟨?_, Or.inl ⟨by rfl, fun w _ => ?_⟩, ?_⟩
  rotate_left
  · (go_simp <;> with_reducible rfl)
  try simp only [Act.put, List.setIfInBounds_toArray, List.set_cons_zero, List.set_cons_succ]
  refine s_done (by as_aux_lemma => kernel_rfl) ?_
  have HC4 := Lib.hid (HC.out.below HB4.out)
  have z3 := HC4.out.c3
  have hl4 := HC4.out.lt
  have h255' : s.n ≤ 255 := h255
  go_wp2_with fail
  refine (cnew_any w4 s.n K h1 h2 h255).mono ?_
  rintro e5 w5 ⟨bc, bf, vt, rfl, hc5, hb5⟩
  have HC5 := Lib.hid hc5
  have HB5 := Lib.hid (below_more HB4.out hb5 HB4.out.size)
  have HG5 := Lib.hid ((hb5.block w1.heap.size HS4.out).trans HG4.out)
  have HS5 := Lib.hid (Nat.lt_of_lt_of_le HS4.out hb5.size)
  clear hc5 hb5 z3
  go_wp2_with fail
  refine (turn_any w5 HC5.out _ xs (HV.out.below HB5.out) hl HOK.out).mono ?_
  rintro e6 w6 ⟨gm, U, rfl, hM, hU, hb6⟩
  have HM6 := Lib.hid hM
  have HB6 := Lib.hid (below_more HB5.out hb6 HB5.out.size)
  have HG6 := Lib.hid ((hb6.block w1.heap.size HS5.out).trans HG5.out)
  have HS6 := Lib.hid (Nat.lt_of_lt_of_le HS5.out hb6.size)
  have HU6 := Lib.hid (show ∀ i, matB gm K U i → ¬ F i from fun i hi hf => by have h1 := hU i hi; have h2 := HF.out i hf; have h3 := HB5.out.size; omega)
  have HC6 := Lib.hid (HC.out.below HB6.out)
  clear hM hU hb6
  have z6 := HC6.out.c6
  have zf := HC6.out.fz 6
  have hl6 := HC6.out.lt
  obtain ⟨mis, hms⟩ : ∃ n, s.misses = n := ⟨_, rfl⟩
  have HMS := Lib.hid hms
  rw [hms] at z6 hmis
  have hC7 := HC6.out.miss
  rw [hms] at hC7
  have HC7 := Lib.hid hC7
  have HT7 := Lib.hid (Kept.set1 w6 b 6 (.int .i64 ((mis : Int) + 1)))
  clear hms hC7 hl4
  go_wp2_with fail
  generalize w6.setCell ⟨b, 6, none⟩ (.int .i64 ((mis : Int) + 1)) = w7 at *
  have HG7 := Lib.hid ((HT7.out.block w1.heap.size HS6.out (by omega)).trans HG6.out)
  have HS7 := Lib.hid (Nat.lt_of_lt_of_le HS6.out HT7.out.size)
  have HK7 := Lib.hid (show Kept (CK b bm) w w7 from ((Kept.below HB6.out).mono (fun _ _ h => h.elim)).trans (HT7.out.mono (S' := CK b bm) (fun i _ h => .inl h)) (fun _ _ h => h))
  have HC7D := Lib.hid (HC7.out.below (belowDrew' (Below.refl _ w7)))
  have HKS7 := Lib.hid (show Kept (CK b bm) w7 w7.drew from ⟨rfl, rfl, rfl, Nat.le_refl _, fun _ _ _ => rfl⟩)
  have hgd : (CE.now ⟨K, xs.take K, 0, gm⟩ (s.now + 1)).Good s.n (s.now + 1) := ⟨h1, h2, by show (xs.take K).length = K; rw [List.length_take]; omega, HRR.out, HOK.out.nodup.sublist (List.take_sublist _ _), by show 1 ≤ s.now + 1; omega, Nat.le_refl _⟩
  have hmt : Mat w7.drew F ⟨K, xs.take K, 0, gm⟩ := ⟨U, HM6.out.kept (HT7.out.trans ((Kept.below (belowDrew' (Below.refl _ w7))).mono (S' := fun i => i = b) (fun _ _ h => h.elim)) (fun _ _ h => h)) (fun i hi e => HU6.out i hi (e ▸ HC.out.fb)), HU6.out⟩
  have HPC := Lib.hid (put_full w7.drew HC7D.out ⟨K, xs.take K, 0, gm⟩ hgd HNO.out hmt HNW.out e0 r0 HES.out HFU.out)
  have HVV := Lib.hid (show (CE.v ⟨K, xs.take K, 0, gm⟩) = .slice (some ⟨gm, 0, none⟩) K K from rfl)
  rw [HVV.out, show keyV (((⟨K, xs.take K, 0, gm⟩ : CE).k : Nat) : Int) (⟨K, xs.take K, 0, gm⟩ : CE).xs = .agg C from HKV.out] at HPC
  clear hgd hmt z6 zf
  refine s_start 6 (fun w' => Kept (CK b bm) w7 w') (by as_aux_lemma => kernel_rfl) (by as_aux_lemma => kernel_rfl) HKS7.out ?_
  refine s_take 0 (by as_aux_lemma => kernel_rfl) (by as_aux_lemma => kernel_rfl) (by as_aux_lemma => kernel_rfl) (by as_aux_lemma => kernel_rfl) HKS7.out (fun oi ho => ?_)
  simp only [List.getElem?_toArray, List.getElem?_cons_succ, List.getElem?_cons_zero, Option.some.injEq] at ho
  subst ho
  refine ⟨?_, Or.inl ⟨by rfl, fun w _ => ?_⟩, ?_⟩
  rotate_left
  · (go_simp <;> with_reducible rfl)
  try simp only [Act.put, List.setIfInBounds_toArray, List.set_cons_zero, List.set_cons_succ]
  refine s_take 1 (by as_aux_lemma => kernel_rfl) (by as_aux_lemma => kernel_rfl) (by as_aux_lemma => kernel_rfl) (by as_aux_lemma => kernel_rfl) HKS7.out (fun oi ho => ?_)
  simp only [List.getElem?_toArray, List.getElem?_cons_succ, List.getElem?_cons_zero, Option.some.injEq] at ho
  subst ho
  refine ⟨?_, Or.inl ⟨by rfl, fun w _ => ?_⟩, ?_⟩
  rotate_left
  · (go_simp <;> with_reducible rfl)
  try simp only [Act.put, List.setIfInBounds_toArray, List.set_cons_zero, List.set_cons_succ]
  refine s_take 2 (by as_aux_lemma => kernel_rfl) (by as_aux_lemma => kernel_rfl) (by as_aux_lemma => kernel_rfl) (by as_aux_lemma => kernel_rfl) HKS7.out (fun oi ho => ?_)
  simp only [List.getElem?_toArray, List.getElem?_cons_succ, List.getElem?_cons_zero, Option.some.injEq] at ho
  subst ho
  refine ⟨?_, Or.inl ⟨by rfl, fun w _ => ?_⟩, ?_⟩
  rotate_left
  · (go_simp <;> with_reducible rfl)
  try simp only [Act.put, List.setIfInBounds_toArray, List.set_cons_zero, List.set_cons_succ]
  refine s_take 3 (by as_aux_lemma => kernel_rfl) (by as_aux_lemma => kernel_rfl) (by as_aux_lemma => kernel_rfl) (by as_aux_lemma => kernel_rfl) HKS7.out (fun oi ho => ?_)
  simp only [List.getElem?_toArray, List.getElem?_cons_succ, List.getElem?_cons_zero, Option.some.injEq] at ho
  subst ho
  refine ⟨_, yields_row (by rfl) 86 _ rfl w1.heap.size rfl C 86 (0, 0) _ (fun w' hS' => (hS'.block w1.heap.size HS7.out HNG.out).trans HG7.out) Tryz.underlying86 rfl HCS.out, ?_⟩
  try simp only [Act.put, List.setIfInBounds_toArray, List.set_cons_zero, List.set_cons_succ]
  refine s_take 4 (by as_aux_lemma => kernel_rfl) (by as_aux_lemma => kernel_rfl) (by as_aux_lemma => kernel_rfl) (by as_aux_lemma => kernel_rfl) HKS7.out (fun oi ho => ?_)
  simp only [List.getElem?_toArray, List.getElem?_cons_succ, List.getElem?_cons_zero, Option.some.injEq] at ho
  subst ho
  refine ⟨?_, Or.inl ⟨by rfl, fun w _ => ?_⟩, ?_⟩
  rotate_left
  · (go_simp <;> with_reducible rfl)
  try simp only [Act.put, List.setIfInBounds_toArray, List.set_cons_zero, List.set_cons_succ]
  refine s_all (rs := [5]) (by as_aux_lemma => kernel_rfl) (by simp) ?_
  refine s_step 5 (by as_aux_lemma => kernel_rfl) (fun o ho K hK => ?_) AllReadyH.nil
  simp only [List.getElem?_toArray, List.getElem?_cons_succ, List.getElem?_cons_zero, Option.some.injEq] at ho
  subst ho
  go_simp
  go_at_call 44
  refine HPC.out.mono ?_
  rintro e8 w8 ⟨rfl, hc8, hk8⟩
  have HC8 := Lib.hid hc8
  have HK8 := Lib.hid (HKS7.out.trans hk8 (fun _ _ h => h))
  clear hc8 hk8
  go_wp2_with fail
  refine hK.out _ _ HK8.out ?_
  clear hK K
  try simp only [Act.put, List.setIfInBounds_toArray, List.set_cons_zero, List.set_cons_succ]
  refine s_done (by as_aux_lemma => kernel_rfl) ?_
  have z7 := HC8.out.c7
  have zf8 := HC8.out.fz 7
  have hl8 := HC8.out.lt
  obtain ⟨drp, hdp⟩ : ∃ n, s.dropped = n := ⟨_, rfl⟩
  have HDR := Lib.hid hdp
  rw [show (({ s with misses := s.misses + 1, now := s.now + 1, es := addE r0 ⟨K, xs.take K, 0, gm⟩ (s.now + 1) } : CS)).dropped = drp from hdp] at z7
  have hdd : drp < 1000000000 := by rw [← hdp]; exact HDP.out
  clear hdp
  go_wp2
  go_ret2
  have h9 := HC8.out.drop
  rw [show (({ s with misses := s.misses + 1, now := s.now + 1, es := addE r0 ⟨K, xs.take K, 0, gm⟩ (s.now + 1) } : CS)).dropped = drp from HDR.out] at h9
  exact ⟨gm, rfl, by rw [HDR.out, HMS.out]; exact h9, HK7.out.trans (HK8.out.trans ((Kept.set1 w8 b 7 _).mono (S' := CK b bm) (fun i _ h => .inl h)) (fun _ _ h => h)) (fun _ _ h => h)⟩

end Go.Proofs.YtlmpagicjgldkaaGreat
