/-
  GpI: Walks of layer 17: how many a group holds; Ready; Whole.
  StepL: A law of a list of operations, used at one operation of a drawn region.
-/
import Derived.Test.YtojbbmfndlcgkaaGreatMxbm
import Derived.Test.YtojbbmfndlcgkaaGreatMxbn
import Derived.Test.YtojbbmfndlcgkaaGreatMxaw
namespace Go.Proofs.YtojbbmfndlcgkaaGreat

section -- GpI
open Go.RowKit Go.Maps
set_option linter.unusedVariables false
set_option linter.unusedSimpArgs false
set_option maxRecDepth 100000
set_option maxHeartbeats 4000000

theorem gmany_any (w : World) (bm : Nat) (es : List (Int × Value)) (h : MapI w bm es) :
    Calls Tryz.prog 24 #[.map (some bm)] w fun e w' => e = .returned (.int .i64 (es.length : Nat)) ∧ w = w' := by
  have hl := fun ty => h.len (mt := 54) Tryz.underlying54 ty
  clear h
  go_enter Tryz.func24, Tryz.ntmps24
  go_wp2
  go_ret
  exact ⟨rfl, rfl⟩

section
variable {w : World} {base b bm : Nat} {H : HeadV} {vr : Value} {hs : List (Int × List B)} {V : Int → Value}
theorem esV_len (ks : List Int) (V : Int → Value) : (esV ks V).length = ks.length := by simp [esV]
theorem gcame_any (h : GrpAt w base b bm H vr hs V) :
    Calls Tryz.prog 11 #[.pointer (some ⟨b, 0, none⟩)] w fun e w' => e = .returned (.int .i64 (hs.length : Nat)) ∧ w = w' := by
  have HM := Lib.hid (gmade_any h)
  have HN := Lib.hid (gmany_any w bm _ h.map)
  rw [esV_len, List.length_map] at HN
  have c0 := h.c0
  clear h
  go_enter Tryz.func11, Tryz.ntmps11
  go_wp2_with fail
  refine HM.out.mono ?_
  rintro e w1 ⟨rfl, rfl⟩
  go_wp2_with fail
  refine HN.out.mono ?_
  rintro e w1 ⟨rfl, rfl⟩
  go_wp2
  go_ret
  exact ⟨rfl, rfl⟩

theorem gready_any (h : GrpAt w base b bm H vr hs V) :
    Calls Tryz.prog 12 #[.pointer (some ⟨b, 0, none⟩)] w fun e w' => e = .returned (.int .i64 ((readyT H.rows (hs.length : Nat) : Nat) : Int)) ∧ Below w.heap.size w w' := by
  have HG := Lib.hid h
  have HM := Lib.hid (gmade_any h)
  have HD := Lib.hid (show Below w.heap.size w w.drew from (Kept.refl (fun _ => False) w).drew.toBelow (Nat.le_refl _) (fun _ h => h.elim))
  have d0 := h.c0
  have d4 := h.c4
  have d6 := h.c6
  have HNM := Lib.hid (fun W (hB : Below w.heap.size w W) => show Calls Tryz.prog 24 #[.map (some bm)] W fun e w' => e = .returned (.int .i64 (hs.length : Nat)) ∧ W = w' from by
    have := gmany_any W bm _ (h.map.below hB)
    rwa [esV_len, List.length_map] at this)
  have HRD := Lib.hid (fun W (hB : Below w.heap.size w W) => show Calls Tryz.prog 25 #[.int .i64 H.n, vr, .int .i64 (hs.length : Nat)] W fun e w' => e = .returned (.tuple #[.int .i64 ((readyT H.rows (hs.length : Nat) : Nat) : Int), .int .i64 0]) ∧ Below W.heap.size W w' from by
    have := ready_any W H.n (hs.length : Nat) vr H.rows (h.tab.below hB)
    rwa [readyV, tabE, if_pos h.ok, if_pos h.ok] at this)
  obtain ⟨pr, cr, hvr⟩ := h.tab.shape
  obtain ⟨R, hR⟩ : ∃ R, readyT H.rows (hs.length : Nat) = R := ⟨_, rfl⟩
  obtain ⟨m, hm⟩ : ∃ m, hs.length = m := ⟨_, rfl⟩
  obtain ⟨M, hM⟩ : ∃ M, H.rows.length = M := ⟨_, rfl⟩
  obtain ⟨n, hn⟩ : ∃ n, H.n = n := ⟨_, rfl⟩
  rw [hvr, hM] at d6
  rw [hR, hvr, hM, hm, hn] at HRD
  rw [hm] at HNM
  rw [hn] at d4
  rw [hR]
  clear h hvr hR hm hM hn
  go_enter Tryz.func12, Tryz.ntmps12
  go_wp2_with fail
  refine HM.out.mono ?_
  rintro e w1 ⟨rfl, rfl⟩
  go_wp2_with fail
  refine s_start 21 (fun W => Below w.heap.size w W) (by as_aux_lemma => kernel_rfl) (by as_aux_lemma => kernel_rfl) HD.out ?_
  refine s_take 0 (by as_aux_lemma => kernel_rfl) (by as_aux_lemma => kernel_rfl) (by as_aux_lemma => kernel_rfl) (by as_aux_lemma => kernel_rfl) HD.out (fun oi ho => ?_)
  simp only [List.getElem?_toArray, List.getElem?_cons_succ, List.getElem?_cons_zero, Option.some.injEq] at ho
  subst ho
  refine ⟨?_, Or.inl ⟨by rfl, fun w _ => ?_⟩, ?_⟩
  rotate_left
  · (go_simp <;> with_reducible rfl)
  try simp only [Act.put, List.setIfInBounds_toArray, List.set_cons_zero, List.set_cons_succ]
  refine s_take 1 (by as_aux_lemma => kernel_rfl) (by as_aux_lemma => kernel_rfl) (by as_aux_lemma => kernel_rfl) (by as_aux_lemma => kernel_rfl) HD.out (fun oi ho => ?_)
  simp only [List.getElem?_toArray, List.getElem?_cons_succ, List.getElem?_cons_zero, Option.some.injEq] at ho
  subst ho
  refine ⟨?_, Or.inl ⟨by rfl, fun w _ => ?_⟩, ?_⟩
  rotate_left
  · (go_simp <;> with_reducible rfl)
  try simp only [Act.put, List.setIfInBounds_toArray, List.set_cons_zero, List.set_cons_succ]
  refine s_take 2 (by as_aux_lemma => kernel_rfl) (by as_aux_lemma => kernel_rfl) (by as_aux_lemma => kernel_rfl) (by as_aux_lemma => kernel_rfl) HD.out (fun oi ho => ?_)
  simp only [List.getElem?_toArray, List.getElem?_cons_succ, List.getElem?_cons_zero, Option.some.injEq] at ho
  subst ho
  refine ⟨?_, Or.inl ⟨by rfl, fun w _ => ?_⟩, ?_⟩
  rotate_left
  · (go_simp <;> with_reducible rfl)
  try simp only [Act.put, List.setIfInBounds_toArray, List.set_cons_zero, List.set_cons_succ]
  refine s_take 3 (by as_aux_lemma => kernel_rfl) (by as_aux_lemma => kernel_rfl) (by as_aux_lemma => kernel_rfl) (by as_aux_lemma => kernel_rfl) HD.out (fun oi ho => ?_)
  simp only [List.getElem?_toArray, List.getElem?_cons_succ, List.getElem?_cons_zero, Option.some.injEq] at ho
  subst ho
  refine ⟨?_, Or.inl ⟨by rfl, fun w _ => ?_⟩, ?_⟩
  rotate_left
  · (go_simp <;> with_reducible rfl)
  try simp only [Act.put, List.setIfInBounds_toArray, List.set_cons_zero, List.set_cons_succ]
  refine s_take 4 (by as_aux_lemma => kernel_rfl) (by as_aux_lemma => kernel_rfl) (by as_aux_lemma => kernel_rfl) (by as_aux_lemma => kernel_rfl) HD.out (fun oi ho => ?_)
  simp only [List.getElem?_toArray, List.getElem?_cons_succ, List.getElem?_cons_zero, Option.some.injEq] at ho
  subst ho
  refine ⟨.int .i64 n, Or.inl ⟨by rfl, fun w' hS' => ?_⟩, ?_⟩
  · have z := (hS'.cell (p := ⟨b, 4, none⟩) (blt d4)).trans d4
    clear d0 d4 d6
    (go_simp <;> with_reducible rfl)
  try simp only [Act.put, List.setIfInBounds_toArray, List.set_cons_zero, List.set_cons_succ]
  refine s_take 5 (by as_aux_lemma => kernel_rfl) (by as_aux_lemma => kernel_rfl) (by as_aux_lemma => kernel_rfl) (by as_aux_lemma => kernel_rfl) HD.out (fun oi ho => ?_)
  simp only [List.getElem?_toArray, List.getElem?_cons_succ, List.getElem?_cons_zero, Option.some.injEq] at ho
  subst ho
  refine ⟨?_, Or.inl ⟨by rfl, fun w _ => ?_⟩, ?_⟩
  rotate_left
  · (go_simp <;> with_reducible rfl)
  try simp only [Act.put, List.setIfInBounds_toArray, List.set_cons_zero, List.set_cons_succ]
  refine s_take 6 (by as_aux_lemma => kernel_rfl) (by as_aux_lemma => kernel_rfl) (by as_aux_lemma => kernel_rfl) (by as_aux_lemma => kernel_rfl) HD.out (fun oi ho => ?_)
  simp only [List.getElem?_toArray, List.getElem?_cons_succ, List.getElem?_cons_zero, Option.some.injEq] at ho
  subst ho
  refine ⟨?_, Or.inl ⟨by rfl, fun w _ => ?_⟩, ?_⟩
  rotate_left
  · (go_simp <;> with_reducible rfl)
  try simp only [Act.put, List.setIfInBounds_toArray, List.set_cons_zero, List.set_cons_succ]
  refine s_take 7 (by as_aux_lemma => kernel_rfl) (by as_aux_lemma => kernel_rfl) (by as_aux_lemma => kernel_rfl) (by as_aux_lemma => kernel_rfl) HD.out (fun oi ho => ?_)
  simp only [List.getElem?_toArray, List.getElem?_cons_succ, List.getElem?_cons_zero, Option.some.injEq] at ho
  subst ho
  refine ⟨?_, Or.inl ⟨by rfl, fun w _ => ?_⟩, ?_⟩
  rotate_left
  · (go_simp <;> with_reducible rfl)
  try simp only [Act.put, List.setIfInBounds_toArray, List.set_cons_zero, List.set_cons_succ]
  refine s_take 8 (by as_aux_lemma => kernel_rfl) (by as_aux_lemma => kernel_rfl) (by as_aux_lemma => kernel_rfl) (by as_aux_lemma => kernel_rfl) HD.out (fun oi ho => ?_)
  simp only [List.getElem?_toArray, List.getElem?_cons_succ, List.getElem?_cons_zero, Option.some.injEq] at ho
  subst ho
  refine ⟨?_, Or.inl ⟨by rfl, fun w _ => ?_⟩, ?_⟩
  rotate_left
  · (go_simp <;> with_reducible rfl)
  try simp only [Act.put, List.setIfInBounds_toArray, List.set_cons_zero, List.set_cons_succ]
  refine s_take 9 (by as_aux_lemma => kernel_rfl) (by as_aux_lemma => kernel_rfl) (by as_aux_lemma => kernel_rfl) (by as_aux_lemma => kernel_rfl) HD.out (fun oi ho => ?_)
  simp only [List.getElem?_toArray, List.getElem?_cons_succ, List.getElem?_cons_zero, Option.some.injEq] at ho
  subst ho
  refine ⟨.slice pr M cr, Or.inl ⟨by rfl, fun w' hS' => ?_⟩, ?_⟩
  · have z := (hS'.cell (p := ⟨b, 6, none⟩) (blt d6)).trans d6
    clear d0 d4 d6
    (go_simp <;> with_reducible rfl)
  try simp only [Act.put, List.setIfInBounds_toArray, List.set_cons_zero, List.set_cons_succ]
  refine s_take 10 (by as_aux_lemma => kernel_rfl) (by as_aux_lemma => kernel_rfl) (by as_aux_lemma => kernel_rfl) (by as_aux_lemma => kernel_rfl) HD.out (fun oi ho => ?_)
  simp only [List.getElem?_toArray, List.getElem?_cons_succ, List.getElem?_cons_zero, Option.some.injEq] at ho
  subst ho
  refine ⟨?_, Or.inl ⟨by rfl, fun w _ => ?_⟩, ?_⟩
  rotate_left
  · (go_simp <;> with_reducible rfl)
  try simp only [Act.put, List.setIfInBounds_toArray, List.set_cons_zero, List.set_cons_succ]
  refine s_take 11 (by as_aux_lemma => kernel_rfl) (by as_aux_lemma => kernel_rfl) (by as_aux_lemma => kernel_rfl) (by as_aux_lemma => kernel_rfl) HD.out (fun oi ho => ?_)
  simp only [List.getElem?_toArray, List.getElem?_cons_succ, List.getElem?_cons_zero, Option.some.injEq] at ho
  subst ho
  refine ⟨?_, Or.inl ⟨by rfl, fun w _ => ?_⟩, ?_⟩
  rotate_left
  · (go_simp <;> with_reducible rfl)
  try simp only [Act.put, List.setIfInBounds_toArray, List.set_cons_zero, List.set_cons_succ]
  refine s_take 12 (by as_aux_lemma => kernel_rfl) (by as_aux_lemma => kernel_rfl) (by as_aux_lemma => kernel_rfl) (by as_aux_lemma => kernel_rfl) HD.out (fun oi ho => ?_)
  simp only [List.getElem?_toArray, List.getElem?_cons_succ, List.getElem?_cons_zero, Option.some.injEq] at ho
  subst ho
  refine ⟨?_, Or.inl ⟨by rfl, fun w _ => ?_⟩, ?_⟩
  rotate_left
  · (go_simp <;> with_reducible rfl)
  try simp only [Act.put, List.setIfInBounds_toArray, List.set_cons_zero, List.set_cons_succ]
  refine s_take 13 (by as_aux_lemma => kernel_rfl) (by as_aux_lemma => kernel_rfl) (by as_aux_lemma => kernel_rfl) (by as_aux_lemma => kernel_rfl) HD.out (fun oi ho => ?_)
  simp only [List.getElem?_toArray, List.getElem?_cons_succ, List.getElem?_cons_zero, Option.some.injEq] at ho
  subst ho
  refine ⟨.map (some bm), Or.inl ⟨by rfl, fun w' hS' => ?_⟩, ?_⟩
  · have z := (hS'.cell (p := ⟨b, 0, none⟩) (blt d0)).trans d0
    clear d0 d4 d6
    (go_simp <;> with_reducible rfl)
  try simp only [Act.put, List.setIfInBounds_toArray, List.set_cons_zero, List.set_cons_succ]
  refine s_all (rs := [14]) (by as_aux_lemma => kernel_rfl) (by simp) ?_
  refine s_step 14 (by as_aux_lemma => kernel_rfl) (fun o ho K hK => ?_) AllReadyH.nil
  simp only [List.getElem?_toArray, List.getElem?_cons_succ, List.getElem?_cons_zero, Option.some.injEq] at ho
  subst ho
  go_simp
  refine (HNM.out _ HD.out).mono ?_
  rintro e w4 ⟨rfl, rfl⟩
  go_wp2_with fail
  refine hK.out _ _ HD.out ?_
  clear hK K
  try simp only [Act.put, List.setIfInBounds_toArray, List.set_cons_zero, List.set_cons_succ]
  refine s_all (rs := [15]) (by as_aux_lemma => kernel_rfl) (by simp) ?_
  refine s_step 15 (by as_aux_lemma => kernel_rfl) (fun o ho K hK => ?_) AllReadyH.nil
  simp only [List.getElem?_toArray, List.getElem?_cons_succ, List.getElem?_cons_zero, Option.some.injEq] at ho
  subst ho
  go_simp
  refine (HRD.out _ HD.out).mono ?_
  rintro e w5 ⟨rfl, hB5⟩
  have HB5 := Lib.hid (below_more HD.out hB5 HD.out.size)
  clear hB5
  go_wp2_with fail
  refine hK.out _ _ HB5.out ?_
  clear hK K
  try simp only [Act.put, List.setIfInBounds_toArray, List.set_cons_zero, List.set_cons_succ]
  refine s_take 16 (by as_aux_lemma => kernel_rfl) (by as_aux_lemma => kernel_rfl) (by as_aux_lemma => kernel_rfl) (by as_aux_lemma => kernel_rfl) HB5.out (fun oi ho => ?_)
  simp only [List.getElem?_toArray, List.getElem?_cons_succ, List.getElem?_cons_zero, Option.some.injEq] at ho
  subst ho
  refine ⟨?_, Or.inl ⟨by rfl, fun w _ => ?_⟩, ?_⟩
  rotate_left
  · (go_simp <;> with_reducible rfl)
  try simp only [Act.put, List.setIfInBounds_toArray, List.set_cons_zero, List.set_cons_succ]
  refine s_take 17 (by as_aux_lemma => kernel_rfl) (by as_aux_lemma => kernel_rfl) (by as_aux_lemma => kernel_rfl) (by as_aux_lemma => kernel_rfl) HB5.out (fun oi ho => ?_)
  simp only [List.getElem?_toArray, List.getElem?_cons_succ, List.getElem?_cons_zero, Option.some.injEq] at ho
  subst ho
  refine ⟨?_, Or.inl ⟨by rfl, fun w _ => ?_⟩, ?_⟩
  rotate_left
  · (go_simp <;> with_reducible rfl)
  try simp only [Act.put, List.setIfInBounds_toArray, List.set_cons_zero, List.set_cons_succ]
  refine s_take 18 (by as_aux_lemma => kernel_rfl) (by as_aux_lemma => kernel_rfl) (by as_aux_lemma => kernel_rfl) (by as_aux_lemma => kernel_rfl) HB5.out (fun oi ho => ?_)
  simp only [List.getElem?_toArray, List.getElem?_cons_succ, List.getElem?_cons_zero, Option.some.injEq] at ho
  subst ho
  refine ⟨?_, Or.inl ⟨by rfl, fun w _ => ?_⟩, ?_⟩
  rotate_left
  · (go_simp <;> with_reducible rfl)
  try simp only [Act.put, List.setIfInBounds_toArray, List.set_cons_zero, List.set_cons_succ]
  refine s_take 19 (by as_aux_lemma => kernel_rfl) (by as_aux_lemma => kernel_rfl) (by as_aux_lemma => kernel_rfl) (by as_aux_lemma => kernel_rfl) HB5.out (fun oi ho => ?_)
  simp only [List.getElem?_toArray, List.getElem?_cons_succ, List.getElem?_cons_zero, Option.some.injEq] at ho
  subst ho
  refine ⟨?_, Or.inl ⟨by rfl, fun w _ => ?_⟩, ?_⟩
  rotate_left
  · (go_simp <;> with_reducible rfl)
  try simp only [Act.put, List.setIfInBounds_toArray, List.set_cons_zero, List.set_cons_succ]
  refine s_take 20 (by as_aux_lemma => kernel_rfl) (by as_aux_lemma => kernel_rfl) (by as_aux_lemma => kernel_rfl) (by as_aux_lemma => kernel_rfl) HB5.out (fun oi ho => ?_)
  simp only [List.getElem?_toArray, List.getElem?_cons_succ, List.getElem?_cons_zero, Option.some.injEq] at ho
  subst ho
  refine ⟨?_, Or.inl ⟨by rfl, fun w _ => ?_⟩, ?_⟩
  rotate_left
  · (go_simp <;> with_reducible rfl)
  try simp only [Act.put, List.setIfInBounds_toArray, List.set_cons_zero, List.set_cons_succ]
  refine s_done (by as_aux_lemma => kernel_rfl) ?_
  skip
  go_wp2
  go_ret
  exact ⟨rfl, HB5.out⟩

theorem gwhole_any (h : GrpAt w base b bm H vr hs V) (hhs : hs.length ≤ 1000) :
    Calls Tryz.prog 13 #[.pointer (some ⟨b, 0, none⟩)] w fun e w' => e = .returned (.bool (decide ((H.rows.getD (H.rows.length - 1) (0, 0)).1 ≤ (hs.length : Nat)))) ∧ Below w.heap.size w w' := by
  have HG := Lib.hid h
  have HM := Lib.hid (gmade_any h)
  have HD := Lib.hid (show Below w.heap.size w w.drew from (Kept.refl (fun _ => False) w).drew.toBelow (Nat.le_refl _) (fun _ h => h.elim))
  have d0 := h.c0
  have d6 := h.c6
  have HNM := Lib.hid (fun W (hB : Below w.heap.size w W) => show Calls Tryz.prog 24 #[.map (some bm)] W fun e w' => e = .returned (.int .i64 (hs.length : Nat)) ∧ W = w' from by
    have := gmany_any W bm _ (h.map.below hB)
    rwa [esV_len, List.length_map] at this)
  obtain ⟨pr, cr, hvr, hcap, hh⟩ := h.tab
  have hM1 := h.ok.2.2.1
  have hM8 := h.ok.2.2.2.1
  obtain ⟨gr, og, hpr, hx⟩ := hh (by omega)
  obtain ⟨x0, _⟩ := hx (H.rows.length - 1) (by omega)
  obtain ⟨kl, hkl⟩ : ∃ y, (H.rows.getD (H.rows.length - 1) (0, 0)).1 = y := ⟨_, rfl⟩
  obtain ⟨m, hm⟩ : ∃ m, hs.length = m := ⟨_, rfl⟩
  rw [hkl] at x0 ⊢
  obtain ⟨M, hM⟩ : ∃ M, H.rows.length = M := ⟨_, rfl⟩
  rw [hvr, hpr, hM] at d6
  rw [hM] at x0 hM1 hM8
  rw [hm] at HNM hhs ⊢
  clear h hvr hpr hkl hm hM hh hx hcap HG
  go_enter Tryz.func13, Tryz.ntmps13
  go_wp2_with fail
  refine HM.out.mono ?_
  rintro e w1 ⟨rfl, rfl⟩
  go_wp2_with fail
  refine s_start 14 (fun W => Below w.heap.size w W) (by as_aux_lemma => kernel_rfl) (by as_aux_lemma => kernel_rfl) HD.out ?_
  refine s_take 0 (by as_aux_lemma => kernel_rfl) (by as_aux_lemma => kernel_rfl) (by as_aux_lemma => kernel_rfl) (by as_aux_lemma => kernel_rfl) HD.out (fun oi ho => ?_)
  simp only [List.getElem?_toArray, List.getElem?_cons_succ, List.getElem?_cons_zero, Option.some.injEq] at ho
  subst ho
  refine ⟨?_, Or.inl ⟨by rfl, fun w _ => ?_⟩, ?_⟩
  rotate_left
  · (go_simp <;> with_reducible rfl)
  try simp only [Act.put, List.setIfInBounds_toArray, List.set_cons_zero, List.set_cons_succ]
  refine s_take 1 (by as_aux_lemma => kernel_rfl) (by as_aux_lemma => kernel_rfl) (by as_aux_lemma => kernel_rfl) (by as_aux_lemma => kernel_rfl) HD.out (fun oi ho => ?_)
  simp only [List.getElem?_toArray, List.getElem?_cons_succ, List.getElem?_cons_zero, Option.some.injEq] at ho
  subst ho
  refine ⟨?_, Or.inl ⟨by rfl, fun w _ => ?_⟩, ?_⟩
  rotate_left
  · (go_simp <;> with_reducible rfl)
  try simp only [Act.put, List.setIfInBounds_toArray, List.set_cons_zero, List.set_cons_succ]
  refine s_take 2 (by as_aux_lemma => kernel_rfl) (by as_aux_lemma => kernel_rfl) (by as_aux_lemma => kernel_rfl) (by as_aux_lemma => kernel_rfl) HD.out (fun oi ho => ?_)
  simp only [List.getElem?_toArray, List.getElem?_cons_succ, List.getElem?_cons_zero, Option.some.injEq] at ho
  subst ho
  refine ⟨?_, Or.inl ⟨by rfl, fun w _ => ?_⟩, ?_⟩
  rotate_left
  · (go_simp <;> with_reducible rfl)
  try simp only [Act.put, List.setIfInBounds_toArray, List.set_cons_zero, List.set_cons_succ]
  refine s_take 3 (by as_aux_lemma => kernel_rfl) (by as_aux_lemma => kernel_rfl) (by as_aux_lemma => kernel_rfl) (by as_aux_lemma => kernel_rfl) HD.out (fun oi ho => ?_)
  simp only [List.getElem?_toArray, List.getElem?_cons_succ, List.getElem?_cons_zero, Option.some.injEq] at ho
  subst ho
  refine ⟨.map (some bm), Or.inl ⟨by rfl, fun w' hS' => ?_⟩, ?_⟩
  · have z := (hS'.cell (p := ⟨b, 0, none⟩) (blt d0)).trans d0
    clear d0 d6 x0
    (go_simp <;> with_reducible rfl)
  try simp only [Act.put, List.setIfInBounds_toArray, List.set_cons_zero, List.set_cons_succ]
  refine s_take 5 (by as_aux_lemma => kernel_rfl) (by as_aux_lemma => kernel_rfl) (by as_aux_lemma => kernel_rfl) (by as_aux_lemma => kernel_rfl) HD.out (fun oi ho => ?_)
  simp only [List.getElem?_toArray, List.getElem?_cons_succ, List.getElem?_cons_zero, Option.some.injEq] at ho
  subst ho
  refine ⟨?_, Or.inl ⟨by rfl, fun w _ => ?_⟩, ?_⟩
  rotate_left
  · (go_simp <;> with_reducible rfl)
  try simp only [Act.put, List.setIfInBounds_toArray, List.set_cons_zero, List.set_cons_succ]
  refine s_take 6 (by as_aux_lemma => kernel_rfl) (by as_aux_lemma => kernel_rfl) (by as_aux_lemma => kernel_rfl) (by as_aux_lemma => kernel_rfl) HD.out (fun oi ho => ?_)
  simp only [List.getElem?_toArray, List.getElem?_cons_succ, List.getElem?_cons_zero, Option.some.injEq] at ho
  subst ho
  refine ⟨?_, Or.inl ⟨by rfl, fun w _ => ?_⟩, ?_⟩
  rotate_left
  · (go_simp <;> with_reducible rfl)
  try simp only [Act.put, List.setIfInBounds_toArray, List.set_cons_zero, List.set_cons_succ]
  refine s_take 7 (by as_aux_lemma => kernel_rfl) (by as_aux_lemma => kernel_rfl) (by as_aux_lemma => kernel_rfl) (by as_aux_lemma => kernel_rfl) HD.out (fun oi ho => ?_)
  simp only [List.getElem?_toArray, List.getElem?_cons_succ, List.getElem?_cons_zero, Option.some.injEq] at ho
  subst ho
  refine ⟨?_, Or.inl ⟨by rfl, fun w _ => ?_⟩, ?_⟩
  rotate_left
  · (go_simp <;> with_reducible rfl)
  try simp only [Act.put, List.setIfInBounds_toArray, List.set_cons_zero, List.set_cons_succ]
  refine s_take 8 (by as_aux_lemma => kernel_rfl) (by as_aux_lemma => kernel_rfl) (by as_aux_lemma => kernel_rfl) (by as_aux_lemma => kernel_rfl) HD.out (fun oi ho => ?_)
  simp only [List.getElem?_toArray, List.getElem?_cons_succ, List.getElem?_cons_zero, Option.some.injEq] at ho
  subst ho
  refine ⟨.int .i64 ((M - 1 : Nat) : Int), Or.inl ⟨by rfl, fun w' hS' => ?_⟩, ?_⟩
  · clear d0 d6 x0
    (go_simp <;> first | with_reducible rfl | go_num | (simp [IntKind.wrap, IntKind.signed, IntKind.bits]; omega))
  try simp only [Act.put, List.setIfInBounds_toArray, List.set_cons_zero, List.set_cons_succ]
  refine s_take 9 (by as_aux_lemma => kernel_rfl) (by as_aux_lemma => kernel_rfl) (by as_aux_lemma => kernel_rfl) (by as_aux_lemma => kernel_rfl) HD.out (fun oi ho => ?_)
  simp only [List.getElem?_toArray, List.getElem?_cons_succ, List.getElem?_cons_zero, Option.some.injEq] at ho
  subst ho
  refine ⟨.pointer (some ⟨gr, og + (M - 1) * 2, none⟩), Or.inl ⟨by rfl, fun w' hS' => ?_⟩, ?_⟩
  · clear d0 d6 x0
    (go_simp <;> first | with_reducible rfl | (intro hq; omega))
  try simp only [Act.put, List.setIfInBounds_toArray, List.set_cons_zero, List.set_cons_succ]
  refine s_take 10 (by as_aux_lemma => kernel_rfl) (by as_aux_lemma => kernel_rfl) (by as_aux_lemma => kernel_rfl) (by as_aux_lemma => kernel_rfl) HD.out (fun oi ho => ?_)
  simp only [List.getElem?_toArray, List.getElem?_cons_succ, List.getElem?_cons_zero, Option.some.injEq] at ho
  subst ho
  refine ⟨?_, Or.inl ⟨by rfl, fun w _ => ?_⟩, ?_⟩
  rotate_left
  · (go_simp <;> with_reducible rfl)
  try simp only [Act.put, List.setIfInBounds_toArray, List.set_cons_zero, List.set_cons_succ]
  refine s_take 11 (by as_aux_lemma => kernel_rfl) (by as_aux_lemma => kernel_rfl) (by as_aux_lemma => kernel_rfl) (by as_aux_lemma => kernel_rfl) HD.out (fun oi ho => ?_)
  simp only [List.getElem?_toArray, List.getElem?_cons_succ, List.getElem?_cons_zero, Option.some.injEq] at ho
  subst ho
  refine ⟨.int .i64 kl, Or.inl ⟨by rfl, fun w' hS' => ?_⟩, ?_⟩
  · have z := (hS'.cell (p := ⟨gr, og + (M - 1) * 2, none⟩) (blt x0)).trans x0
    clear d0 d6 x0
    (go_simp <;> with_reducible rfl)
  try simp only [Act.put, List.setIfInBounds_toArray, List.set_cons_zero, List.set_cons_succ]
  refine s_all (rs := [4]) (by as_aux_lemma => kernel_rfl) (by simp) ?_
  refine s_step 4 (by as_aux_lemma => kernel_rfl) (fun o ho K hK => ?_) AllReadyH.nil
  simp only [List.getElem?_toArray, List.getElem?_cons_succ, List.getElem?_cons_zero, Option.some.injEq] at ho
  subst ho
  go_simp
  refine (HNM.out _ HD.out).mono ?_
  rintro e w4 ⟨rfl, rfl⟩
  go_wp2_with fail
  refine hK.out _ _ HD.out ?_
  clear hK K
  try simp only [Act.put, List.setIfInBounds_toArray, List.set_cons_zero, List.set_cons_succ]
  refine s_take 12 (by as_aux_lemma => kernel_rfl) (by as_aux_lemma => kernel_rfl) (by as_aux_lemma => kernel_rfl) (by as_aux_lemma => kernel_rfl) HD.out (fun oi ho => ?_)
  simp only [List.getElem?_toArray, List.getElem?_cons_succ, List.getElem?_cons_zero, Option.some.injEq] at ho
  subst ho
  refine ⟨.bool (decide (kl ≤ (m : Int))), Or.inl ⟨by rfl, fun w' hS' => ?_⟩, ?_⟩
  · clear d0 d6 x0
    (go_simp <;> first | with_reducible rfl | simp)
  try simp only [Act.put, List.setIfInBounds_toArray, List.set_cons_zero, List.set_cons_succ]
  refine s_take 13 (by as_aux_lemma => kernel_rfl) (by as_aux_lemma => kernel_rfl) (by as_aux_lemma => kernel_rfl) (by as_aux_lemma => kernel_rfl) HD.out (fun oi ho => ?_)
  simp only [List.getElem?_toArray, List.getElem?_cons_succ, List.getElem?_cons_zero, Option.some.injEq] at ho
  subst ho
  refine ⟨?_, Or.inl ⟨by rfl, fun w _ => ?_⟩, ?_⟩
  rotate_left
  · (go_simp <;> with_reducible rfl)
  try simp only [Act.put, List.setIfInBounds_toArray, List.set_cons_zero, List.set_cons_succ]
  refine s_done (by as_aux_lemma => kernel_rfl) ?_
  skip
  go_wp2
  go_ret
  exact ⟨rfl, HD.out⟩
end
end -- GpI

section -- StepL
open Go.RowKit Go.Maps
set_option linter.unusedVariables false

section
variable {P : Program} {ops : Array Oper} {Q : Exit → Act → World → Prop} {K : Act → World → Prop} {o : Oper} {a : Act} {w : World}
/-- Going on, or panicking as before. -/
def NormP (K : Act → World → Prop) (Q : Exit → Act → World → Prop) : Exit → Act → World → Prop
  | .normal, a, w => K a w
  | .panic c, a, w => Q (.panic c) a w
  | _, _, _ => False
theorem NormP.shut : ¬ LetsOut (NormP K Q) := fun ⟨_, _, h⟩ => (h : False)
theorem upon_normP {r : Result Next} (h : o.upon P a K (NormP K Q) r) : o.upon P a K Q r := by
  cases r with
  | ok x w' =>
    cases x <;> simp only [Oper.upon] at h ⊢ <;> first | exact h | skip
    case enter f args => exact Calls.mono h (fun e w'' he => by cases e <;> first | exact he | exact absurd he NormP.shut)
  | halt x w' => cases x <;> simp only [Oper.upon] at h ⊢ <;> exact h
theorem step_of_list {E : Prop} (hgd : o.guard = none) (h : wpList P #[] (NormP K Q) [o] a w) : if Region.wanted o (yielded ops a.tmps) = true then Oper.wp P o a w K Q else E := by
  rw [if_pos (by simp [Region.wanted, hgd])]
  unfold wpList at h
  rw [if_pos (by simp [Region.wanted, hgd])] at h
  rcases h with h | ⟨_, h⟩
  · exact upon_normP h
  · exact absurd h NormP.shut
end
end -- StepL

end Go.Proofs.YtojbbmfndlcgkaaGreat
