/-
  LayPrefix: the walk.
-/
import Derived.Test.YtanjchpkekehgaaLayYa
namespace Go.Proofs.Ytanjchpkekehgaa
open Go.RowKit Go.Maps
set_option linter.unusedVariables false
set_option linter.unusedSimpArgs false
set_option maxRecDepth 100000
set_option maxHeartbeats 4000000

theorem layersL_len (t : List (Int × Int)) (hs : List (Int × List B)) (m : Nat) : (layersL t hs m).length = m := by simp [layersL]
theorem lit_twoI (w : World) (a b : Int) (t : TypeId) : ∀ (j : Nat) (u : Value), [Value.int .i64 a, .int .i64 b][j]? = some u → (w.alloc (.cells #[.int .i64 a, .int .i64 b] t)).cell? ⟨w.heap.size, j, none⟩ = some u := fun j u h => by
  refine (World.cell?_alloc_new w _ _ j).trans ?_
  rw [← h]
  simp
theorem prefix_any (w : World) (n : Int) (vl vk vw : Value) (ls : List (List B)) (ks ws : List Int) (hl : RowsAt w vl ls) (hk : IntsAt w vk ks) (hw : IntsAt w vw ws) (hll : ls.length ≤ 140737488355328) (hlr : ∀ i, i < ls.length → (ls.getD i []).length ≤ 140737488355328) (hkl : ks.length ≤ 140737488355328) :
    Calls Try.prog 4 #[.int .i64 n, vl, vk, vw] w fun e w' => e = .returned (.bool true) ∧ Below w.heap.size w w' := by
  have HL := Lib.hid hl
  have HK := Lib.hid hk
  have HW := Lib.hid hw
  have HLR := Lib.hid hlr
  clear hl hk hw hlr
  obtain ⟨pl, cl, hv⟩ := HL.out.shape
  subst hv
  obtain ⟨pk, ck, hv, hkc, hkh⟩ := HK.out
  subst hv
  obtain ⟨pw, cw, hv, hwc, hwh⟩ := HW.out
  subst hv
  have HKH := Lib.hid hkh
  have HWH := Lib.hid hwh
  obtain ⟨M, hM⟩ : ∃ M, ks.length = M := ⟨_, rfl⟩
  have HM := Lib.hid hM
  rw [hM] at HKH hkl hkc ⊢
  obtain ⟨X, hX⟩ : ∃ X, ws.length = X := ⟨_, rfl⟩
  rw [hX] at HWH hwc ⊢
  clear hkh hwh hM hX
  go_enter Try.func4, Try.ntmps4
  go_wp2_with fail
  refine (lawake_any w).mono ?_
  rintro e w1 ⟨rfl, hB1⟩
  have HB1 := Lib.hid hB1
  have HL1 := Lib.hid (HL.out.below hB1)
  have HK1 := Lib.hid (HK.out.below hB1)
  rw [HM.out] at HK1
  clear hB1
  go_wp2_with fail
  refine (size_any _ _ ls (by exact HL1.out) hll HLR.out).mono ?_
  rintro e w2' ⟨y, rfl, hy, hyb, rfl⟩
  have HY := Lib.hid hy
  clear hy
  have hsum : wrap64 ((y : Int) + (M : Int)) = (y : Int) + (M : Int) := by unfold wrap64; omega
  by_cases hy : (300 : Int) < (y : Int) + (M : Int)
  · go_wp2
    go_ret
    exact ⟨rfl, HB1.out⟩
  by_cases hx : (300 : Int) < (X : Int)
  · go_wp2
    go_ret
    exact ⟨rfl, HB1.out⟩
  obtain ⟨hls, hlw⟩ := HY.out (by omega)
  have HLW := Lib.hid hlw
  have hM3 : M ≤ 300 := by omega
  have hX3 : X ≤ 300 := by omega
  clear hlw
  go_wp2_with fail
  refine (bodies_any _ n _ _ ls ks HL1.out HK1.out (by rw [HM.out]; omega) (fun i hi => by have := HLW.out i hi; omega)).mono ?_
  rintro e w2 ⟨v, rfl, hok, hno, hB2⟩
  have HB2 := Lib.hid (below_more HB1.out hB2 HB1.out.size)
  have HL2 := Lib.hid (HL1.out.below hB2)
  have HLE := Lib.hid (hll)
  by_cases he : bodE n ls ks = 0
  rotate_left
  · have hv := hno he
    have he2 : bodE n ls ks = 2 := by unfold bodE at he ⊢; split at he <;> simp_all
    rw [he2]
    subst hv
    clear hok hno he he2 hB2
    go_wp2
    go_ret
    exact ⟨rfl, HB2.out⟩
  have hok' := hok he
  have htb : ls.length = ks.length ∧ TableOk n (tabL ls ks) := by
    unfold bodE at he
    split at he
    · assumption
    · omega
  rw [he]
  clear hok hno he hB2
  obtain ⟨hlk, htab⟩ := htb
  rw [HM.out] at hok' hlk
  obtain ⟨N, rfl⟩ : ∃ N : Nat, n = (N : Int) := ⟨n.toNat, by have := htab.1; omega⟩
  have hN1 : 1 ≤ N := by have := htab.1; omega
  have hN2 : N ≤ 255 := by have := htab.2.1; omega
  have HTAB := Lib.hid htab
  have HTLEN := Lib.hid (show (tabL ls ks).length = M by rw [tabL_len, HM.out])
  have hM8 : M ≤ 8 := by have := htab.2.2.2.1; rw [HTLEN.out] at this; exact this
  have hM1 : 1 ≤ M := by have := htab.2.2.1; rw [HTLEN.out] at this; exact this
  rw [show (N : Int).toNat = N from Int.toNat_natCast N] at hok'
  have HLO := Lib.hid hok'
  have hrw := hok'.rows
  obtain ⟨LL, hLL⟩ : ∃ x, bodiesL N ls ks M = x := ⟨_, rfl⟩
  rw [hLL] at HLO hrw
  have HLLN := Lib.hid (show LL.length = N by rw [← hLL, bodiesL_len])
  have HLLG := Lib.hid (show ∀ i, i < N → LL.getD i [] = bodyL N ls ks i M from fun i hi => by rw [← hLL, bodiesL_get hi])
  have HLLW := Lib.hid (show ∀ i, i < N → (LL.getD i []).length = atT (tabL ls ks) M from fun i hi => by rw [HLLG.out i hi, bodyL_length hi (by rw [HM.out]; exact Nat.le_refl _)])
  have HLLE := Lib.hid hLL
  have hlow := atT_low htab.2.2.2.2 (i := M) (by rw [HTLEN.out]; exact Nat.le_refl _)
  have HLOW := Lib.hid (show atT (tabL ls ks) M ≤ 1000000 by omega)
  clear hok' htab hLL hlow
  obtain ⟨pb, cb, rfl, hbh⟩ := hrw
  rw [HLLN.out] at hbh HLO ⊢
  obtain ⟨gb, ob, rfl, hbc⟩ := hbh (by omega)
  have hob : ob = 0 := by
    obtain ⟨us, h1, _⟩ := HLO.out
    rcases h1.2 with ⟨e2, _⟩ | ⟨g2, cap, cur, e2, _⟩
    · exact absurd (Value.slice.inj e2).1 (by simp)
    · have := (Value.slice.inj e2).1
      simp at this
      exact this.2
  subst hob
  have HBC := Lib.hid hbc
  have HCAP := Lib.hid (show ∀ i, i < N → ∀ p m k, w2.cell? ⟨gb, 0 + i, none⟩ = some (.slice p m k) → m ≤ k from fun i hi p m k hc => HLO.out.cap (by rw [HLLN.out]; exact hi) (by rw [Nat.zero_add] at hc; exact hc))
  have HTS := Lib.hid (fun (j : Nat) (h : j < M) => tabL_snoc (ls := ls) (ks := ks) (by rw [HM.out]; exact h))
  have HTF := Lib.hid (show (tabL ls ks).take M = tabL ls ks from List.take_of_length_le (by rw [HTLEN.out]; exact Nat.le_refl _))
  clear hbh hbc
  obtain ⟨gk, ok, rfl, hkc2⟩ := HKH.out (by omega)
  obtain ⟨pl2, cl2, hv, hlc⟩ := HL.out
  obtain ⟨e1, _, e2⟩ := Value.slice.inj hv
  subst e1 e2
  rw [hlk] at hlc HL HL1 HL2 ⊢
  obtain ⟨gl, ol, rfl, hlcc⟩ := hlc (by omega)
  have HKC := Lib.hid hkc2
  have HLC := Lib.hid hlcc
  clear hv hlc hkc2 hlcc
  have HBW := Lib.hid (Below.refl w2.heap.size w2)
  go_wp2_with fail
  go_loopw [11, 12] (fun v i wr => ∃ j : Nat, j ≤ M ∧ i = .int .i64 (j : Int) ∧ wr.ownsRow w2.heap.size 39 2 v j (tc ((tabL ls ks).take j)) ∧ Below w2.heap.size w2 wr) (fun _ i _ => M - (intOf i).toNat)
  case atStart => exact ⟨0, Nat.zero_le _, rfl, by rw [List.take_zero]; exact World.ownsRow_nil _ _ _ _, Below.refl _ _⟩
  case round =>
    obtain ⟨wo, rfl⟩ : ∃ wo, wo = wr := ⟨_, rfl⟩
    obtain ⟨j, hj, rfl, ho, hB⟩ := hrel
    obtain ⟨pt, ct, rfl⟩ := own_shapeL ho
    have HO := Lib.hid ho
    have HB := Lib.hid hB
    have hsr := hB.size
    have HBA := Lib.hid (below_more HB2.out hB HB2.out.size)
    by_cases hlt : j < M
    · have d0 := HKC.out j hlt
      have d0 := (HBA.out.cell (p := ⟨gk, ok + j, none⟩) (blt d0)).trans d0
      obtain ⟨u, d1, hub⟩ := HLC.out j hlt
      have f1 := (HB2.out.cell (p := ⟨gl, ol + j, none⟩) (blt d1)).trans d1
      have d1 := (HBA.out.cell (p := ⟨gl, ol + j, none⟩) (blt d1)).trans d1
      obtain ⟨pu, cu, rfl⟩ := hub.shape
      have hsn := HTS.out j hlt
      obtain ⟨kk, hkk⟩ : ∃ x, ks.getD j 0 = x := ⟨_, rfl⟩
      obtain ⟨lll, hll⟩ : ∃ x, (ls.getD j []).length = x := ⟨_, rfl⟩
      rw [hkk] at d0 hsn
      rw [hll] at d1 f1 hsn
      have HSN := Lib.hid (show tc ((tabL ls ks).take j) ++ [.int .i64 kk, .int .i64 (lll : Int)] = tc ((tabL ls ks).take (j + 1)) by rw [hsn, tc_app]; rfl)
      have HOD := Lib.hid (show wo.drew.ownsRow w2.heap.size 39 2 (.slice pt j ct) j (tc ((tabL ls ks).take j)) from ownsRow_keptS ho (Kept.below (balD wo 1)) (fun _ _ h => h))
      have hsd : w2.heap.size ≤ wo.drew.heap.size := hsr
      have HBD := Lib.hid (show Below w2.heap.size w2 wo.drew from below_more hB (balD wo 1) hsr)
      have f0 := (HB2.out.cell (p := ⟨gk, ok + j, none⟩) (blt (HKC.out j hlt))).trans (HKC.out j hlt)
      rw [hkk] at f0
      have HBX := Lib.hid (show Below w2.heap.size w2 (wo.drew.alloc (.cells #[.int .i64 kk, .int .i64 (lll : Int)] 39)) from HBD.out.alloc hsd _)
      have hsx : w2.heap.size ≤ (wo.drew.alloc (.cells #[.int .i64 kk, .int .i64 (lll : Int)] 39)).heap.size := by simp; omega
      have HOX := Lib.hid (show (wo.drew.alloc (.cells #[.int .i64 kk, .int .i64 (lll : Int)] 39)).ownsRow w2.heap.size 39 2 (.slice pt j ct) j (tc ((tabL ls ks).take j)) from ownsRow_keptS HOD.out (Kept.below (balT wo.drew _)) (fun _ _ h => h))
      clear hub hkk hll hsn ho hB
      go_wp2_with fail
      refine s_start 14 (fun W => Below w2.heap.size w2 W) (by as_aux_lemma => kernel_rfl) (by as_aux_lemma => kernel_rfl) HBD.out ?_
      refine s_take 0 (by as_aux_lemma => kernel_rfl) (by as_aux_lemma => kernel_rfl) (by as_aux_lemma => kernel_rfl) (by as_aux_lemma => kernel_rfl) HBD.out (fun oi ho => ?_)
      simp only [List.getElem?_toArray, List.getElem?_cons_succ, List.getElem?_cons_zero, Option.some.injEq] at ho
      subst ho
      refine ⟨?_, Or.inl ⟨by rfl, fun w _ => ?_⟩, ?_⟩
      rotate_left
      · (go_simp <;> with_reducible rfl)
      try simp only [Act.put, List.setIfInBounds_toArray, List.set_cons_zero, List.set_cons_succ]
      refine s_take 1 (by as_aux_lemma => kernel_rfl) (by as_aux_lemma => kernel_rfl) (by as_aux_lemma => kernel_rfl) (by as_aux_lemma => kernel_rfl) HBD.out (fun oi ho => ?_)
      simp only [List.getElem?_toArray, List.getElem?_cons_succ, List.getElem?_cons_zero, Option.some.injEq] at ho
      subst ho
      refine ⟨?_, Or.inl ⟨by rfl, fun w _ => ?_⟩, ?_⟩
      rotate_left
      · (go_simp <;> with_reducible rfl)
      try simp only [Act.put, List.setIfInBounds_toArray, List.set_cons_zero, List.set_cons_succ]
      refine s_take 2 (by as_aux_lemma => kernel_rfl) (by as_aux_lemma => kernel_rfl) (by as_aux_lemma => kernel_rfl) (by as_aux_lemma => kernel_rfl) HBD.out (fun oi ho => ?_)
      simp only [List.getElem?_toArray, List.getElem?_cons_succ, List.getElem?_cons_zero, Option.some.injEq] at ho
      subst ho
      refine ⟨?_, Or.inl ⟨by rfl, fun w _ => ?_⟩, ?_⟩
      rotate_left
      · (go_simp <;> with_reducible rfl)
      try simp only [Act.put, List.setIfInBounds_toArray, List.set_cons_zero, List.set_cons_succ]
      refine s_take 3 (by as_aux_lemma => kernel_rfl) (by as_aux_lemma => kernel_rfl) (by as_aux_lemma => kernel_rfl) (by as_aux_lemma => kernel_rfl) HBD.out (fun oi ho => ?_)
      simp only [List.getElem?_toArray, List.getElem?_cons_succ, List.getElem?_cons_zero, Option.some.injEq] at ho
      subst ho
      refine ⟨?_, Or.inl ⟨by rfl, fun w _ => ?_⟩, ?_⟩
      rotate_left
      · (go_simp <;> with_reducible rfl)
      try simp only [Act.put, List.setIfInBounds_toArray, List.set_cons_zero, List.set_cons_succ]
      refine s_take 4 (by as_aux_lemma => kernel_rfl) (by as_aux_lemma => kernel_rfl) (by as_aux_lemma => kernel_rfl) (by as_aux_lemma => kernel_rfl) HBD.out (fun oi ho => ?_)
      simp only [List.getElem?_toArray, List.getElem?_cons_succ, List.getElem?_cons_zero, Option.some.injEq] at ho
      subst ho
      refine ⟨.int .i64 kk, Or.inl ⟨by rfl, fun w' hS' => ?_⟩, ?_⟩
      · have z := (hS'.cell (p := ⟨gk, ok + j, none⟩) (blt f0)).trans f0
        clear d0 d1 f0 f1
        (go_simp <;> with_reducible rfl)
      try simp only [Act.put, List.setIfInBounds_toArray, List.set_cons_zero, List.set_cons_succ]
      refine s_take 5 (by as_aux_lemma => kernel_rfl) (by as_aux_lemma => kernel_rfl) (by as_aux_lemma => kernel_rfl) (by as_aux_lemma => kernel_rfl) HBD.out (fun oi ho => ?_)
      simp only [List.getElem?_toArray, List.getElem?_cons_succ, List.getElem?_cons_zero, Option.some.injEq] at ho
      subst ho
      refine ⟨?_, Or.inl ⟨by rfl, fun w _ => ?_⟩, ?_⟩
      rotate_left
      · (go_simp <;> with_reducible rfl)
      try simp only [Act.put, List.setIfInBounds_toArray, List.set_cons_zero, List.set_cons_succ]
      refine s_take 6 (by as_aux_lemma => kernel_rfl) (by as_aux_lemma => kernel_rfl) (by as_aux_lemma => kernel_rfl) (by as_aux_lemma => kernel_rfl) HBD.out (fun oi ho => ?_)
      simp only [List.getElem?_toArray, List.getElem?_cons_succ, List.getElem?_cons_zero, Option.some.injEq] at ho
      subst ho
      refine ⟨?_, Or.inl ⟨by rfl, fun w _ => ?_⟩, ?_⟩
      rotate_left
      · (go_simp <;> with_reducible rfl)
      try simp only [Act.put, List.setIfInBounds_toArray, List.set_cons_zero, List.set_cons_succ]
      refine s_take 7 (by as_aux_lemma => kernel_rfl) (by as_aux_lemma => kernel_rfl) (by as_aux_lemma => kernel_rfl) (by as_aux_lemma => kernel_rfl) HBD.out (fun oi ho => ?_)
      simp only [List.getElem?_toArray, List.getElem?_cons_succ, List.getElem?_cons_zero, Option.some.injEq] at ho
      subst ho
      refine ⟨?_, Or.inl ⟨by rfl, fun w _ => ?_⟩, ?_⟩
      rotate_left
      · (go_simp <;> with_reducible rfl)
      try simp only [Act.put, List.setIfInBounds_toArray, List.set_cons_zero, List.set_cons_succ]
      refine s_take 8 (by as_aux_lemma => kernel_rfl) (by as_aux_lemma => kernel_rfl) (by as_aux_lemma => kernel_rfl) (by as_aux_lemma => kernel_rfl) HBD.out (fun oi ho => ?_)
      simp only [List.getElem?_toArray, List.getElem?_cons_succ, List.getElem?_cons_zero, Option.some.injEq] at ho
      subst ho
      refine ⟨.slice pu lll cu, Or.inl ⟨by rfl, fun w' hS' => ?_⟩, ?_⟩
      · have z := (hS'.cell (p := ⟨gl, ol + j, none⟩) (blt f1)).trans f1
        clear d0 d1 f0 f1
        (go_simp <;> with_reducible rfl)
      try simp only [Act.put, List.setIfInBounds_toArray, List.set_cons_zero, List.set_cons_succ]
      refine s_take 9 (by as_aux_lemma => kernel_rfl) (by as_aux_lemma => kernel_rfl) (by as_aux_lemma => kernel_rfl) (by as_aux_lemma => kernel_rfl) HBD.out (fun oi ho => ?_)
      simp only [List.getElem?_toArray, List.getElem?_cons_succ, List.getElem?_cons_zero, Option.some.injEq] at ho
      subst ho
      refine ⟨?_, Or.inl ⟨by rfl, fun w _ => ?_⟩, ?_⟩
      rotate_left
      · (go_simp <;> with_reducible rfl)
      try simp only [Act.put, List.setIfInBounds_toArray, List.set_cons_zero, List.set_cons_succ]
      refine s_take 10 (by as_aux_lemma => kernel_rfl) (by as_aux_lemma => kernel_rfl) (by as_aux_lemma => kernel_rfl) (by as_aux_lemma => kernel_rfl) HBD.out (fun oi ho => ?_)
      simp only [List.getElem?_toArray, List.getElem?_cons_succ, List.getElem?_cons_zero, Option.some.injEq] at ho
      subst ho
      refine ⟨?_, Or.inl ⟨by rfl, fun w _ => ?_⟩, ?_⟩
      rotate_left
      · (go_simp <;> with_reducible rfl)
      try simp only [Act.put, List.setIfInBounds_toArray, List.set_cons_zero, List.set_cons_succ]
      refine s_all (rs := [11]) (by as_aux_lemma => kernel_rfl) (by simp) ?_
      refine s_step 11 (by as_aux_lemma => kernel_rfl) (fun o ho K hK => ?_) AllReadyH.nil
      simp only [List.getElem?_toArray, List.getElem?_cons_succ, List.getElem?_cons_zero, Option.some.injEq] at ho
      subst ho
      go_simp
      refine hK.out _ _ HBX.out ?_
      clear hK K
      try simp only [Act.put, List.setIfInBounds_toArray, List.set_cons_zero, List.set_cons_succ]
      refine s_all (rs := [12]) (by as_aux_lemma => kernel_rfl) (by simp) ?_
      refine s_step 12 (by as_aux_lemma => kernel_rfl) (fun o ho K hK => ?_) AllReadyH.nil
      simp only [List.getElem?_toArray, List.getElem?_cons_succ, List.getElem?_cons_zero, Option.some.injEq] at ho
      subst ho
      refine step_appN 22 39 2 16 _ Try.underlying22 infoT rfl (by decide) (by rfl) _ _ rfl w2.heap.size j (.slice pt j ct) _ rfl HOX.out wo.drew.heap.size [.int .i64 kk, .int .i64 (lll : Int)] rfl (by simp [Value.oneCell']) rfl (lit_twoI wo.drew _ _ _) (by omega) hsx ?_
      intro g' c' w6 hR6 hk6 hg6
      have HR6 := Lib.hid hR6
      have HB6 := Lib.hid (HBX.out.trans (hk6.toBelow hsx (fun i hi => (HOX.out.lt i hi).1)))
      clear hR6 hk6 hg6
      refine hK.out _ _ HB6.out ?_
      clear hK K
      try simp only [Act.put, List.setIfInBounds_toArray, List.set_cons_zero, List.set_cons_succ]
      refine s_take 13 (by as_aux_lemma => kernel_rfl) (by as_aux_lemma => kernel_rfl) (by as_aux_lemma => kernel_rfl) (by as_aux_lemma => kernel_rfl) HB6.out (fun oi ho => ?_)
      simp only [List.getElem?_toArray, List.getElem?_cons_succ, List.getElem?_cons_zero, Option.some.injEq] at ho
      subst ho
      refine ⟨?_, Or.inl ⟨by rfl, fun w _ => ?_⟩, ?_⟩
      rotate_left
      · (go_simp <;> with_reducible rfl)
      try simp only [Act.put, List.setIfInBounds_toArray, List.set_cons_zero, List.set_cons_succ]
      refine s_done (by as_aux_lemma => kernel_rfl) ?_
      skip
      go_wp2
      go_roundw
      case rel => exact ⟨j + 1, by omega, by go_num, by rw [← HSN.out]; exact HR6.out, HB6.out⟩
      case measure => simp [intOf]; omega
    · obtain rfl : j = M := by omega
      have hoT := ho
      rw [HTF.out] at hoT
      have HTA := Lib.hid (TableAt.of_owns (t := tabL ls ks) (by rw [HTLEN.out]; exact hoT))
      clear ho hoT hB
      go_wp2_with fail
      refine (long_ok wo N _ _ HTA.out HTAB.out).mono ?_
      rintro e w3 ⟨rfl, hB3⟩
      have HT3 := Lib.hid (HTA.out.below hB3)
      have HB3 := Lib.hid (below_more HB.out hB3 HB.out.size)
      have HBA3 := Lib.hid (below_more HBA.out hB3 HBA.out.size)
      rw [HTLEN.out]
      clear hB3
      have hmk := run_make_one (w := w3) 33 3 (.int .i64 0) 8 Try.underlying33 infoI rfl (by omega) N (by omega)
      go_wp2
      clear hmk
      have HS := Lib.hid (PInvL.start w3 LL N)
      generalize (w3.alloc (.cells (Array.replicate N (.int .i64 0)) 3)) = w4 at *
      obtain ⟨long, hlong⟩ : ∃ x, atT (tabL ls ks) j = x := ⟨_, rfl⟩
      have HLONG := Lib.hid hlong
      rw [hlong] at HLLW HLOW ⊢
      clear hlong
      go_loopw [16, 17, 18] (fun vh i _ wr => ∃ (t : Nat) (xs : List Nat), t ≤ X ∧ i = .int .i64 (t : Int) ∧ PInvL w3 LL N t xs vh wr) (fun _ i _ _ => X - (intOf i).toNat)
      case atStart => exact ⟨0, [], Nat.zero_le _, rfl, HS.out⟩
      case round =>
        obtain ⟨t, xs, ht, rfl, hci⟩ := hrel
        obtain ⟨us, ow, h2⟩ := hci.held
        rw [hsOf_len] at ow
        obtain ⟨ph, ch, rfl⟩ := own_shapeL ow
        have HCI := Lib.hid hci
        have HOW := Lib.hid ow
        have HUS := Lib.hid h2
        have hxl := hci.len
        clear hci ow h2
        by_cases hlt : t < X
        · obtain ⟨gw, ow, rfl, hwd⟩ := HWH.out (by omega)
          have z1 := hwd t hlt
          have z2 := ((below_more HBA3.out HCI.out.below HBA3.out.size).cell (p := ⟨gw, ow + t, none⟩) (blt z1)).trans z1
          obtain ⟨x, hx⟩ : ∃ x, ws.getD t 0 = x := ⟨_, rfl⟩
          rw [hx] at z2
          clear hwd z1 hx
          go_wp2_with fail
          refine (pick_any _ x N (by omega) (by omega)).mono ?_
          rintro e w6 ⟨⟨a, rfl, ha⟩, rfl⟩
          have c1 := HCI.out.tk.cell ha
          have f1 := HCI.out.tk.fz a
          by_cases hx : a ∈ xs
          · rw [if_pos hx] at c1
            go_wp2
            go_roundw
            case rel => exact ⟨t + 1, xs, by omega, by go_num, HCI.out.stay ha hx⟩
            case measure => simp [intOf]; omega
          · rw [if_neg hx] at c1
            obtain ⟨u, x1, x2⟩ := HBC.out a ha
            have hcc := HCAP.out a ha
            have HX2 := Lib.hid (x2.below HB3.out)
            obtain ⟨pu, cu, rfl⟩ := x2.shape
            have HLU := Lib.hid (HLLW.out a ha)
            rw [HLLW.out a ha] at x1
            have hcu := hcc _ _ _ x1
            have x3 := ((below_more HB3.out HCI.out.below HB3.out.size).cell (p := ⟨gb, 0 + a, none⟩) (blt x1)).trans x1
            have hbw := HCI.out.tk.lt
            rw [Nat.zero_add] at x3
            clear x1 x2 hcc
            go_wp2_with (at_builtin; refine app_el 40 43 2 32 (.agg #[.int .i64 0, .slice none 0 0]) Try.underlying40 infoHd rfl (by decide) rfl _ _ rfl (w3.heap.size + 1) xs.length _ us rfl HOW.out [.int .i64 (a : Int), .slice pu long cu] rfl (by simp [Value.oneCell']) rfl (by omega) hbw ?_; intro g1 c1' w8 oA kA sA gA; have TK := Lib.hid (HCI.out.tk.kept kA (fun e => by have := (HCI.out.held.lt _ e).1; omega)); have c2 := TK.out.cell ha; have f2 := TK.out.fz a)
            have hup : us.length = xs.length * 2 := by have := HOW.out.1; omega
            go_roundw
            case rel => exact ⟨t + 1, xs ++ [a], by omega, by go_num, HCI.out.more ha hx (HeldL.snoc (hsOf_len LL xs) hup HUS.out HLU.out hcu (by rw [← HLU.out]; exact HX2.out) oA) kA⟩
            case measure => simp [intOf]; omega
        · obtain rfl : t = X := by omega
          have hxs : xs.length ≤ 300 := by omega
          have HHE := Lib.hid (show heldE N (atT (tabL ls ks) (tabL ls ks).length) (hsOf LL xs) = 0 from by
            rw [← HLLE.out, ← HM.out]; exact held_is HCI.out.nodup HCI.out.rng)
          have HHA := Lib.hid (HCI.out.held.toAt HCI.out.below)
          have HHC := Lib.hid HCI.out.held.cap
          rw [hsOf_len] at HHC
          have HT5 := Lib.hid (HT3.out.below HCI.out.below)
          have HB5 := Lib.hid (below_more HB3.out HCI.out.below HB3.out.size)
          have HBA5 := Lib.hid (below_more HBA3.out HCI.out.below HBA3.out.size)
          have HLY := Lib.hid (show ∀ i, i < readyT (tabL ls ks) (xs.length : Int) → (layersL (tabL ls ks) (hsOf LL xs) (readyT (tabL ls ks) (xs.length : Int))).getD i [] = ls.getD i [] from fun i hi => by
            have hle := readyT_le (tabL ls ks) (xs.length : Int)
            rw [HTLEN.out] at hle
            unfold layersL
            rw [getD_range _ _ hi, ← HLLE.out, ← HM.out]
            have hik : i < ks.length := by rw [HM.out]; omega
            refine layer_is HTAB.out hik HCI.out.nodup HCI.out.rng ?_
            have := readyT_lt hi
            rw [tabL_get hik] at this
            exact this)
          have HIFF := Lib.hid (show ∀ i, i < j → (ks.getD i 0 ≤ (xs.length : Int) ↔ i < readyT (tabL ls ks) (xs.length : Int)) from fun i hi => by
            have := readyT_iff HTAB.out.2.2.2.2 (xs.length : Int) (i := i) (by rw [HTLEN.out]; exact hi)
            rw [tabL_get (by rw [HM.out]; exact hi)] at this
            exact this)
          have HLN := Lib.hid (hsOf_len LL xs)
          have HRV := Lib.hid (show readyV N (tabL ls ks) (xs.length : Int) = ((readyT (tabL ls ks) (xs.length : Int) : Nat) : Int) from by unfold readyV; rw [if_pos HTAB.out])
          have HTE := Lib.hid (show tabE N (tabL ls ks) = 0 from by unfold tabE; rw [if_pos HTAB.out])
          obtain ⟨many, hmany⟩ : ∃ x, readyT (tabL ls ks) (xs.length : Int) = x := ⟨_, rfl⟩
          have hmj : many ≤ j := by have := readyT_le (tabL ls ks) (xs.length : Int); rw [HTLEN.out, hmany] at this; exact this
          rw [hmany] at HLY HIFF HRV
          have HMN := Lib.hid hmany
          clear hmany
          go_wp2_with fail
          refine (gather_ok wr N _ _ (tabL ls ks) (hsOf LL xs) HT5.out HHA.out (by rw [HLN.out]; omega) ?hcap HTAB.out HHE.out).mono ?_
          case hcap =>
            rw [HLN.out]
            exact HHC.out
          have HRL := Lib.hid (layersL_len (tabL ls ks) (hsOf LL xs) many)
          rw [HLN.out, HMN.out]
          rintro e w6 ⟨va, rfl, hra, hB6⟩
          have HR6 := Lib.hid hra.rows
          have HT6 := Lib.hid (HT5.out.below hB6)
          have HB6 := Lib.hid (below_more HB5.out hB6 HB5.out.size)
          have HBA6 := Lib.hid (below_more HBA5.out hB6 HBA5.out.size)
          clear hra hB6
          obtain ⟨A, hA⟩ : ∃ x, layersL (tabL ls ks) (hsOf LL xs) many = x := ⟨_, rfl⟩
          rw [hA] at HR6 HLY HRL
          clear hA
          obtain ⟨pa, ca, rfl, hah⟩ := HR6.out
          rw [HRL.out] at hah HR6 ⊢
          have HAH := Lib.hid hah
          clear hah
          go_wp2_with fail
          refine (ready_any w6 N (xs.length : Int) _ (tabL ls ks) HT6.out).mono ?_
          rw [HRV.out, HTE.out]
          rintro e w7 ⟨rfl, hB7⟩
          have HB7 := Lib.hid (below_more HB6.out hB7 HB6.out.size)
          have HBA7 := Lib.hid (below_more HBA6.out hB7 HBA6.out.size)
          have HR7 := Lib.hid (HR6.out.below hB7)
          clear hB7
          go_wp2_with fail
          go_loopw [23] (fun i wr => ∃ m : Nat, m ≤ j ∧ i = .int .i64 (m : Int) ∧ Below w7.heap.size w7 wr) (fun i _ => j - (intOf i).toNat)
          case atStart => exact ⟨0, Nat.zero_le _, rfl, Below.refl _ _⟩
          case round =>
            obtain ⟨w8, rfl⟩ : ∃ x, x = wr := ⟨_, rfl⟩
            obtain ⟨m, hm, rfl, hB8⟩ := hrel
            have HB8 := Lib.hid hB8
            have HD8 := Lib.hid (show Below w7.heap.size w7 w8.drew from below_more hB8 (balD w8 1) hB8.size)
            clear hB8
            by_cases hlt : m < j
            · have d0 := HKC.out m hlt
              have d0 := (HBA7.out.cell (p := ⟨gk, ok + m, none⟩) (blt d0)).trans d0
              have hif := HIFF.out m hlt
              obtain ⟨kk, hkk⟩ : ∃ x, ks.getD m 0 = x := ⟨_, rfl⟩
              rw [hkk] at d0 hif
              by_cases hmm : m < many
              · have hkx : kk ≤ (xs.length : Int) := hif.2 hmm
                have hmi : (m : Int) < (many : Int) := by omega
                obtain ⟨u, d1, hub⟩ := HLC.out m hlt
                have d1 := (HBA7.out.cell (p := ⟨gl, ol + m, none⟩) (blt d1)).trans d1
                have HU := Lib.hid (hub.below HBA7.out)
                obtain ⟨pu, cu, rfl⟩ := hub.shape
                obtain ⟨_, _, ea, hac⟩ := HR7.out
                obtain ⟨ga, oa, rfl, hacc⟩ := HAH.out (by omega)
                have ea1 := (Value.slice.inj ea).1
                subst ea1
                rw [HRL.out] at hac
                obtain ⟨_, _, ea3, hac2⟩ := hac (by omega)
                obtain ⟨rfl, rfl⟩ : ga = _ ∧ oa = _ := by simpa using ea3
                obtain ⟨z, c1, hzb⟩ := hac2 m hmm
                rw [HLY.out m hmm] at hzb
                have HZ := Lib.hid hzb
                obtain ⟨pz, cz, rfl⟩ := hzb.shape
                have hlb := HLW.out m (by rw [hlk]; exact hlt)
                have HSB := Lib.hid (fun W (h : Below w7.heap.size w7 W) => sameBytes_any W _ _ (ls.getD m []) (HZ.out.below h) (HU.out.below h) (by omega))
                obtain ⟨lll, hll⟩ : ∃ x, (ls.getD m []).length = x := ⟨_, rfl⟩
                rw [hll] at d1 c1 HSB
                clear hkk hub hac hacc ea ea3 hac2 hzb hll hif
                go_wp2_with fail
                refine s_start 28 (fun W => Below w7.heap.size w7 W) (by as_aux_lemma => kernel_rfl) (by as_aux_lemma => kernel_rfl) HD8.out ?_
                refine s_take 0 (by as_aux_lemma => kernel_rfl) (by as_aux_lemma => kernel_rfl) (by as_aux_lemma => kernel_rfl) (by as_aux_lemma => kernel_rfl) HD8.out (fun oi ho => ?_)
                simp only [List.getElem?_toArray, List.getElem?_cons_succ, List.getElem?_cons_zero, Option.some.injEq] at ho
                subst ho
                refine ⟨?_, Or.inl ⟨by rfl, fun w _ => ?_⟩, ?_⟩
                rotate_left
                · (go_simp <;> with_reducible rfl)
                try simp only [Act.put, List.setIfInBounds_toArray, List.set_cons_zero, List.set_cons_succ]
                refine s_take 1 (by as_aux_lemma => kernel_rfl) (by as_aux_lemma => kernel_rfl) (by as_aux_lemma => kernel_rfl) (by as_aux_lemma => kernel_rfl) HD8.out (fun oi ho => ?_)
                simp only [List.getElem?_toArray, List.getElem?_cons_succ, List.getElem?_cons_zero, Option.some.injEq] at ho
                subst ho
                refine ⟨?_, Or.inl ⟨by rfl, fun w _ => ?_⟩, ?_⟩
                rotate_left
                · (go_simp <;> with_reducible rfl)
                try simp only [Act.put, List.setIfInBounds_toArray, List.set_cons_zero, List.set_cons_succ]
                refine s_take 2 (by as_aux_lemma => kernel_rfl) (by as_aux_lemma => kernel_rfl) (by as_aux_lemma => kernel_rfl) (by as_aux_lemma => kernel_rfl) HD8.out (fun oi ho => ?_)
                simp only [List.getElem?_toArray, List.getElem?_cons_succ, List.getElem?_cons_zero, Option.some.injEq] at ho
                subst ho
                refine ⟨?_, Or.inl ⟨by rfl, fun w _ => ?_⟩, ?_⟩
                rotate_left
                · (go_simp <;> with_reducible rfl)
                try simp only [Act.put, List.setIfInBounds_toArray, List.set_cons_zero, List.set_cons_succ]
                refine s_take 3 (by as_aux_lemma => kernel_rfl) (by as_aux_lemma => kernel_rfl) (by as_aux_lemma => kernel_rfl) (by as_aux_lemma => kernel_rfl) HD8.out (fun oi ho => ?_)
                simp only [List.getElem?_toArray, List.getElem?_cons_succ, List.getElem?_cons_zero, Option.some.injEq] at ho
                subst ho
                refine ⟨.int .i64 kk, Or.inl ⟨by rfl, fun w' hS' => ?_⟩, ?_⟩
                · have z := (hS'.cell (p := ⟨gk, ok + m, none⟩) (blt d0)).trans d0
                  clear d0 d1 c1
                  (go_simp <;> with_reducible rfl)
                try simp only [Act.put, List.setIfInBounds_toArray, List.set_cons_zero, List.set_cons_succ]
                refine s_take 4 (by as_aux_lemma => kernel_rfl) (by as_aux_lemma => kernel_rfl) (by as_aux_lemma => kernel_rfl) (by as_aux_lemma => kernel_rfl) HD8.out (fun oi ho => ?_)
                simp only [List.getElem?_toArray, List.getElem?_cons_succ, List.getElem?_cons_zero, Option.some.injEq] at ho
                subst ho
                refine ⟨?_, Or.inl ⟨by rfl, fun w _ => ?_⟩, ?_⟩
                rotate_left
                · (go_simp <;> with_reducible rfl)
                try simp only [Act.put, List.setIfInBounds_toArray, List.set_cons_zero, List.set_cons_succ]
                refine s_take 5 (by as_aux_lemma => kernel_rfl) (by as_aux_lemma => kernel_rfl) (by as_aux_lemma => kernel_rfl) (by as_aux_lemma => kernel_rfl) HD8.out (fun oi ho => ?_)
                simp only [List.getElem?_toArray, List.getElem?_cons_succ, List.getElem?_cons_zero, Option.some.injEq] at ho
                subst ho
                refine ⟨?_, Or.inl ⟨by rfl, fun w _ => ?_⟩, ?_⟩
                rotate_left
                · (go_simp <;> with_reducible rfl)
                try simp only [Act.put, List.setIfInBounds_toArray, List.set_cons_zero, List.set_cons_succ]
                refine s_take 6 (by as_aux_lemma => kernel_rfl) (by as_aux_lemma => kernel_rfl) (by as_aux_lemma => kernel_rfl) (by as_aux_lemma => kernel_rfl) HD8.out (fun oi ho => ?_)
                simp only [List.getElem?_toArray, List.getElem?_cons_succ, List.getElem?_cons_zero, Option.some.injEq] at ho
                subst ho
                refine ⟨.bool true, Or.inl ⟨by rfl, fun w' hS' => ?_⟩, ?_⟩
                · clear d0 d1 c1
                  (go_simp <;> first | with_reducible rfl | simp [hkx])
                try simp only [Act.put, List.setIfInBounds_toArray, List.set_cons_zero, List.set_cons_succ]
                refine s_take 7 (by as_aux_lemma => kernel_rfl) (by as_aux_lemma => kernel_rfl) (by as_aux_lemma => kernel_rfl) (by as_aux_lemma => kernel_rfl) HD8.out (fun oi ho => ?_)
                simp only [List.getElem?_toArray, List.getElem?_cons_succ, List.getElem?_cons_zero, Option.some.injEq] at ho
                subst ho
                refine ⟨?_, Or.inl ⟨by rfl, fun w _ => ?_⟩, ?_⟩
                rotate_left
                · (go_simp <;> with_reducible rfl)
                try simp only [Act.put, List.setIfInBounds_toArray, List.set_cons_zero, List.set_cons_succ]
                refine s_take 8 (by as_aux_lemma => kernel_rfl) (by as_aux_lemma => kernel_rfl) (by as_aux_lemma => kernel_rfl) (by as_aux_lemma => kernel_rfl) HD8.out (fun oi ho => ?_)
                simp only [List.getElem?_toArray, List.getElem?_cons_succ, List.getElem?_cons_zero, Option.some.injEq] at ho
                subst ho
                refine ⟨?_, Or.inl ⟨by rfl, fun w _ => ?_⟩, ?_⟩
                rotate_left
                · (go_simp <;> with_reducible rfl)
                try simp only [Act.put, List.setIfInBounds_toArray, List.set_cons_zero, List.set_cons_succ]
                refine s_take 9 (by as_aux_lemma => kernel_rfl) (by as_aux_lemma => kernel_rfl) (by as_aux_lemma => kernel_rfl) (by as_aux_lemma => kernel_rfl) HD8.out (fun oi ho => ?_)
                simp only [List.getElem?_toArray, List.getElem?_cons_succ, List.getElem?_cons_zero, Option.some.injEq] at ho
                subst ho
                refine ⟨.bool true, Or.inl ⟨by rfl, fun w' hS' => ?_⟩, ?_⟩
                · clear d0 d1 c1
                  (go_simp <;> first | with_reducible rfl | simp [hmm])
                try simp only [Act.put, List.setIfInBounds_toArray, List.set_cons_zero, List.set_cons_succ]
                refine s_take 10 (by as_aux_lemma => kernel_rfl) (by as_aux_lemma => kernel_rfl) (by as_aux_lemma => kernel_rfl) (by as_aux_lemma => kernel_rfl) HD8.out (fun oi ho => ?_)
                simp only [List.getElem?_toArray, List.getElem?_cons_succ, List.getElem?_cons_zero, Option.some.injEq] at ho
                subst ho
                refine ⟨?_, Or.inl ⟨by rfl, fun w _ => ?_⟩, ?_⟩
                rotate_left
                · (go_simp <;> with_reducible rfl)
                try simp only [Act.put, List.setIfInBounds_toArray, List.set_cons_zero, List.set_cons_succ]
                refine s_take 11 (by as_aux_lemma => kernel_rfl) (by as_aux_lemma => kernel_rfl) (by as_aux_lemma => kernel_rfl) (by as_aux_lemma => kernel_rfl) HD8.out (fun oi ho => ?_)
                simp only [List.getElem?_toArray, List.getElem?_cons_succ, List.getElem?_cons_zero, Option.some.injEq] at ho
                subst ho
                refine ⟨?_, Or.inl ⟨by rfl, fun w _ => ?_⟩, ?_⟩
                rotate_left
                · (go_simp <;> with_reducible rfl)
                try simp only [Act.put, List.setIfInBounds_toArray, List.set_cons_zero, List.set_cons_succ]
                refine s_take 12 (by as_aux_lemma => kernel_rfl) (by as_aux_lemma => kernel_rfl) (by as_aux_lemma => kernel_rfl) (by as_aux_lemma => kernel_rfl) HD8.out (fun oi ho => ?_)
                simp only [List.getElem?_toArray, List.getElem?_cons_succ, List.getElem?_cons_zero, Option.some.injEq] at ho
                subst ho
                refine ⟨?_, Or.inl ⟨by rfl, fun w _ => ?_⟩, ?_⟩
                rotate_left
                · (go_simp <;> with_reducible rfl)
                try simp only [Act.put, List.setIfInBounds_toArray, List.set_cons_zero, List.set_cons_succ]
                refine s_take 13 (by as_aux_lemma => kernel_rfl) (by as_aux_lemma => kernel_rfl) (by as_aux_lemma => kernel_rfl) (by as_aux_lemma => kernel_rfl) HD8.out (fun oi ho => ?_)
                simp only [List.getElem?_toArray, List.getElem?_cons_succ, List.getElem?_cons_zero, Option.some.injEq] at ho
                subst ho
                refine ⟨?_, Or.inl ⟨by rfl, fun w _ => ?_⟩, ?_⟩
                rotate_left
                · (go_simp <;> with_reducible rfl)
                try simp only [Act.put, List.setIfInBounds_toArray, List.set_cons_zero, List.set_cons_succ]
                refine s_take 14 (by as_aux_lemma => kernel_rfl) (by as_aux_lemma => kernel_rfl) (by as_aux_lemma => kernel_rfl) (by as_aux_lemma => kernel_rfl) HD8.out (fun oi ho => ?_)
                simp only [List.getElem?_toArray, List.getElem?_cons_succ, List.getElem?_cons_zero, Option.some.injEq] at ho
                subst ho
                refine ⟨.bool true, Or.inl ⟨by rfl, fun w' hS' => ?_⟩, ?_⟩
                · clear d0 d1 c1
                  (go_simp <;> first | with_reducible rfl | simp [hmm])
                try simp only [Act.put, List.setIfInBounds_toArray, List.set_cons_zero, List.set_cons_succ]
                refine s_take 15 (by as_aux_lemma => kernel_rfl) (by as_aux_lemma => kernel_rfl) (by as_aux_lemma => kernel_rfl) (by as_aux_lemma => kernel_rfl) HD8.out (fun oi ho => ?_)
                simp only [List.getElem?_toArray, List.getElem?_cons_succ, List.getElem?_cons_zero, Option.some.injEq] at ho
                subst ho
                refine ⟨?_, Or.inl ⟨by rfl, fun w _ => ?_⟩, ?_⟩
                rotate_left
                · (go_simp <;> with_reducible rfl)
                try simp only [Act.put, List.setIfInBounds_toArray, List.set_cons_zero, List.set_cons_succ]
                refine s_take 16 (by as_aux_lemma => kernel_rfl) (by as_aux_lemma => kernel_rfl) (by as_aux_lemma => kernel_rfl) (by as_aux_lemma => kernel_rfl) HD8.out (fun oi ho => ?_)
                simp only [List.getElem?_toArray, List.getElem?_cons_succ, List.getElem?_cons_zero, Option.some.injEq] at ho
                subst ho
                refine ⟨?_, Or.inl ⟨by rfl, fun w _ => ?_⟩, ?_⟩
                rotate_left
                · (go_simp <;> with_reducible rfl)
                try simp only [Act.put, List.setIfInBounds_toArray, List.set_cons_zero, List.set_cons_succ]
                refine s_take 17 (by as_aux_lemma => kernel_rfl) (by as_aux_lemma => kernel_rfl) (by as_aux_lemma => kernel_rfl) (by as_aux_lemma => kernel_rfl) HD8.out (fun oi ho => ?_)
                simp only [List.getElem?_toArray, List.getElem?_cons_succ, List.getElem?_cons_zero, Option.some.injEq] at ho
                subst ho
                refine ⟨?_, Or.inl ⟨by rfl, fun w _ => ?_⟩, ?_⟩
                rotate_left
                · (go_simp <;> with_reducible rfl)
                try simp only [Act.put, List.setIfInBounds_toArray, List.set_cons_zero, List.set_cons_succ]
                refine s_take 18 (by as_aux_lemma => kernel_rfl) (by as_aux_lemma => kernel_rfl) (by as_aux_lemma => kernel_rfl) (by as_aux_lemma => kernel_rfl) HD8.out (fun oi ho => ?_)
                simp only [List.getElem?_toArray, List.getElem?_cons_succ, List.getElem?_cons_zero, Option.some.injEq] at ho
                subst ho
                refine ⟨?_, Or.inl ⟨by rfl, fun w _ => ?_⟩, ?_⟩
                rotate_left
                · (go_simp <;> with_reducible rfl)
                try simp only [Act.put, List.setIfInBounds_toArray, List.set_cons_zero, List.set_cons_succ]
                refine s_take 19 (by as_aux_lemma => kernel_rfl) (by as_aux_lemma => kernel_rfl) (by as_aux_lemma => kernel_rfl) (by as_aux_lemma => kernel_rfl) HD8.out (fun oi ho => ?_)
                simp only [List.getElem?_toArray, List.getElem?_cons_succ, List.getElem?_cons_zero, Option.some.injEq] at ho
                subst ho
                refine ⟨.slice pz lll cz, Or.inl ⟨by rfl, fun w' hS' => ?_⟩, ?_⟩
                · have z := (hS'.cell (p := ⟨ga, oa + m, none⟩) (blt c1)).trans c1
                  clear d0 d1 c1
                  (go_simp <;> with_reducible rfl)
                try simp only [Act.put, List.setIfInBounds_toArray, List.set_cons_zero, List.set_cons_succ]
                refine s_take 20 (by as_aux_lemma => kernel_rfl) (by as_aux_lemma => kernel_rfl) (by as_aux_lemma => kernel_rfl) (by as_aux_lemma => kernel_rfl) HD8.out (fun oi ho => ?_)
                simp only [List.getElem?_toArray, List.getElem?_cons_succ, List.getElem?_cons_zero, Option.some.injEq] at ho
                subst ho
                refine ⟨?_, Or.inl ⟨by rfl, fun w _ => ?_⟩, ?_⟩
                rotate_left
                · (go_simp <;> with_reducible rfl)
                try simp only [Act.put, List.setIfInBounds_toArray, List.set_cons_zero, List.set_cons_succ]
                refine s_take 21 (by as_aux_lemma => kernel_rfl) (by as_aux_lemma => kernel_rfl) (by as_aux_lemma => kernel_rfl) (by as_aux_lemma => kernel_rfl) HD8.out (fun oi ho => ?_)
                simp only [List.getElem?_toArray, List.getElem?_cons_succ, List.getElem?_cons_zero, Option.some.injEq] at ho
                subst ho
                refine ⟨?_, Or.inl ⟨by rfl, fun w _ => ?_⟩, ?_⟩
                rotate_left
                · (go_simp <;> with_reducible rfl)
                try simp only [Act.put, List.setIfInBounds_toArray, List.set_cons_zero, List.set_cons_succ]
                refine s_take 22 (by as_aux_lemma => kernel_rfl) (by as_aux_lemma => kernel_rfl) (by as_aux_lemma => kernel_rfl) (by as_aux_lemma => kernel_rfl) HD8.out (fun oi ho => ?_)
                simp only [List.getElem?_toArray, List.getElem?_cons_succ, List.getElem?_cons_zero, Option.some.injEq] at ho
                subst ho
                refine ⟨?_, Or.inl ⟨by rfl, fun w _ => ?_⟩, ?_⟩
                rotate_left
                · (go_simp <;> with_reducible rfl)
                try simp only [Act.put, List.setIfInBounds_toArray, List.set_cons_zero, List.set_cons_succ]
                refine s_take 23 (by as_aux_lemma => kernel_rfl) (by as_aux_lemma => kernel_rfl) (by as_aux_lemma => kernel_rfl) (by as_aux_lemma => kernel_rfl) HD8.out (fun oi ho => ?_)
                simp only [List.getElem?_toArray, List.getElem?_cons_succ, List.getElem?_cons_zero, Option.some.injEq] at ho
                subst ho
                refine ⟨.slice pu lll cu, Or.inl ⟨by rfl, fun w' hS' => ?_⟩, ?_⟩
                · have z := (hS'.cell (p := ⟨gl, ol + m, none⟩) (blt d1)).trans d1
                  clear d0 d1 c1
                  (go_simp <;> with_reducible rfl)
                try simp only [Act.put, List.setIfInBounds_toArray, List.set_cons_zero, List.set_cons_succ]
                refine s_all (rs := [24]) (by as_aux_lemma => kernel_rfl) (by simp) ?_
                refine s_step 24 (by as_aux_lemma => kernel_rfl) (fun o ho K hK => ?_) AllReadyH.nil
                simp only [List.getElem?_toArray, List.getElem?_cons_succ, List.getElem?_cons_zero, Option.some.injEq] at ho
                subst ho
                go_simp
                refine (HSB.out _ HD8.out).mono ?_
                rintro e w9 ⟨rfl, q9, rfl⟩
                have HB9 := Lib.hid (show Below w7.heap.size w7 (w8.drewN (1 + q9)) from below_more HB8.out (balD w8 (1 + q9)) HB8.out.size)
                go_wp2_with fail
                refine hK.out _ _ HB9.out ?_
                clear hK K
                try simp only [Act.put, List.setIfInBounds_toArray, List.set_cons_zero, List.set_cons_succ]
                refine s_take 25 (by as_aux_lemma => kernel_rfl) (by as_aux_lemma => kernel_rfl) (by as_aux_lemma => kernel_rfl) (by as_aux_lemma => kernel_rfl) HB9.out (fun oi ho => ?_)
                simp only [List.getElem?_toArray, List.getElem?_cons_succ, List.getElem?_cons_zero, Option.some.injEq] at ho
                subst ho
                refine ⟨?_, Or.inl ⟨by rfl, fun w _ => ?_⟩, ?_⟩
                rotate_left
                · (go_simp <;> with_reducible rfl)
                try simp only [Act.put, List.setIfInBounds_toArray, List.set_cons_zero, List.set_cons_succ]
                refine s_take 26 (by as_aux_lemma => kernel_rfl) (by as_aux_lemma => kernel_rfl) (by as_aux_lemma => kernel_rfl) (by as_aux_lemma => kernel_rfl) HB9.out (fun oi ho => ?_)
                simp only [List.getElem?_toArray, List.getElem?_cons_succ, List.getElem?_cons_zero, Option.some.injEq] at ho
                subst ho
                refine ⟨?_, Or.inl ⟨by rfl, fun w _ => ?_⟩, ?_⟩
                rotate_left
                · (go_simp <;> with_reducible rfl)
                try simp only [Act.put, List.setIfInBounds_toArray, List.set_cons_zero, List.set_cons_succ]
                refine s_take 27 (by as_aux_lemma => kernel_rfl) (by as_aux_lemma => kernel_rfl) (by as_aux_lemma => kernel_rfl) (by as_aux_lemma => kernel_rfl) HB9.out (fun oi ho => ?_)
                simp only [List.getElem?_toArray, List.getElem?_cons_succ, List.getElem?_cons_zero, Option.some.injEq] at ho
                subst ho
                refine ⟨?_, Or.inl ⟨by rfl, fun w _ => ?_⟩, ?_⟩
                rotate_left
                · (go_simp <;> with_reducible rfl)
                try simp only [Act.put, List.setIfInBounds_toArray, List.set_cons_zero, List.set_cons_succ]
                refine s_done (by as_aux_lemma => kernel_rfl) ?_
                skip
                generalize w8.drewN (1 + q9) = w9 at *
                go_wp2
                go_roundw
                case rel => exact ⟨m + 1, by omega, by go_num, HB9.out⟩
                case measure => simp [intOf]; omega
              · have hkx : ¬ kk ≤ (xs.length : Int) := fun h => hmm (hif.1 h)
                have hmi : ¬ (m : Int) < (many : Int) := by omega
                clear hif hkk
                go_wp2_with fail
                refine s_start 28 (fun W => Below w7.heap.size w7 W) (by as_aux_lemma => kernel_rfl) (by as_aux_lemma => kernel_rfl) HD8.out ?_
                refine s_take 0 (by as_aux_lemma => kernel_rfl) (by as_aux_lemma => kernel_rfl) (by as_aux_lemma => kernel_rfl) (by as_aux_lemma => kernel_rfl) HD8.out (fun oi ho => ?_)
                simp only [List.getElem?_toArray, List.getElem?_cons_succ, List.getElem?_cons_zero, Option.some.injEq] at ho
                subst ho
                refine ⟨?_, Or.inl ⟨by rfl, fun w _ => ?_⟩, ?_⟩
                rotate_left
                · (go_simp <;> with_reducible rfl)
                try simp only [Act.put, List.setIfInBounds_toArray, List.set_cons_zero, List.set_cons_succ]
                refine s_take 1 (by as_aux_lemma => kernel_rfl) (by as_aux_lemma => kernel_rfl) (by as_aux_lemma => kernel_rfl) (by as_aux_lemma => kernel_rfl) HD8.out (fun oi ho => ?_)
                simp only [List.getElem?_toArray, List.getElem?_cons_succ, List.getElem?_cons_zero, Option.some.injEq] at ho
                subst ho
                refine ⟨?_, Or.inl ⟨by rfl, fun w _ => ?_⟩, ?_⟩
                rotate_left
                · (go_simp <;> with_reducible rfl)
                try simp only [Act.put, List.setIfInBounds_toArray, List.set_cons_zero, List.set_cons_succ]
                refine s_take 2 (by as_aux_lemma => kernel_rfl) (by as_aux_lemma => kernel_rfl) (by as_aux_lemma => kernel_rfl) (by as_aux_lemma => kernel_rfl) HD8.out (fun oi ho => ?_)
                simp only [List.getElem?_toArray, List.getElem?_cons_succ, List.getElem?_cons_zero, Option.some.injEq] at ho
                subst ho
                refine ⟨?_, Or.inl ⟨by rfl, fun w _ => ?_⟩, ?_⟩
                rotate_left
                · (go_simp <;> with_reducible rfl)
                try simp only [Act.put, List.setIfInBounds_toArray, List.set_cons_zero, List.set_cons_succ]
                refine s_take 3 (by as_aux_lemma => kernel_rfl) (by as_aux_lemma => kernel_rfl) (by as_aux_lemma => kernel_rfl) (by as_aux_lemma => kernel_rfl) HD8.out (fun oi ho => ?_)
                simp only [List.getElem?_toArray, List.getElem?_cons_succ, List.getElem?_cons_zero, Option.some.injEq] at ho
                subst ho
                refine ⟨.int .i64 kk, Or.inl ⟨by rfl, fun w' hS' => ?_⟩, ?_⟩
                · have z := (hS'.cell (p := ⟨gk, ok + m, none⟩) (blt d0)).trans d0
                  clear d0
                  (go_simp <;> with_reducible rfl)
                try simp only [Act.put, List.setIfInBounds_toArray, List.set_cons_zero, List.set_cons_succ]
                refine s_take 4 (by as_aux_lemma => kernel_rfl) (by as_aux_lemma => kernel_rfl) (by as_aux_lemma => kernel_rfl) (by as_aux_lemma => kernel_rfl) HD8.out (fun oi ho => ?_)
                simp only [List.getElem?_toArray, List.getElem?_cons_succ, List.getElem?_cons_zero, Option.some.injEq] at ho
                subst ho
                refine ⟨?_, Or.inl ⟨by rfl, fun w _ => ?_⟩, ?_⟩
                rotate_left
                · (go_simp <;> with_reducible rfl)
                try simp only [Act.put, List.setIfInBounds_toArray, List.set_cons_zero, List.set_cons_succ]
                refine s_take 5 (by as_aux_lemma => kernel_rfl) (by as_aux_lemma => kernel_rfl) (by as_aux_lemma => kernel_rfl) (by as_aux_lemma => kernel_rfl) HD8.out (fun oi ho => ?_)
                simp only [List.getElem?_toArray, List.getElem?_cons_succ, List.getElem?_cons_zero, Option.some.injEq] at ho
                subst ho
                refine ⟨?_, Or.inl ⟨by rfl, fun w _ => ?_⟩, ?_⟩
                rotate_left
                · (go_simp <;> with_reducible rfl)
                try simp only [Act.put, List.setIfInBounds_toArray, List.set_cons_zero, List.set_cons_succ]
                refine s_take 6 (by as_aux_lemma => kernel_rfl) (by as_aux_lemma => kernel_rfl) (by as_aux_lemma => kernel_rfl) (by as_aux_lemma => kernel_rfl) HD8.out (fun oi ho => ?_)
                simp only [List.getElem?_toArray, List.getElem?_cons_succ, List.getElem?_cons_zero, Option.some.injEq] at ho
                subst ho
                refine ⟨.bool false, Or.inl ⟨by rfl, fun w' hS' => ?_⟩, ?_⟩
                · clear d0
                  (go_simp <;> first | with_reducible rfl | simp [hkx])
                try simp only [Act.put, List.setIfInBounds_toArray, List.set_cons_zero, List.set_cons_succ]
                refine s_take 7 (by as_aux_lemma => kernel_rfl) (by as_aux_lemma => kernel_rfl) (by as_aux_lemma => kernel_rfl) (by as_aux_lemma => kernel_rfl) HD8.out (fun oi ho => ?_)
                simp only [List.getElem?_toArray, List.getElem?_cons_succ, List.getElem?_cons_zero, Option.some.injEq] at ho
                subst ho
                refine ⟨?_, Or.inl ⟨by rfl, fun w _ => ?_⟩, ?_⟩
                rotate_left
                · (go_simp <;> with_reducible rfl)
                try simp only [Act.put, List.setIfInBounds_toArray, List.set_cons_zero, List.set_cons_succ]
                refine s_take 8 (by as_aux_lemma => kernel_rfl) (by as_aux_lemma => kernel_rfl) (by as_aux_lemma => kernel_rfl) (by as_aux_lemma => kernel_rfl) HD8.out (fun oi ho => ?_)
                simp only [List.getElem?_toArray, List.getElem?_cons_succ, List.getElem?_cons_zero, Option.some.injEq] at ho
                subst ho
                refine ⟨?_, Or.inl ⟨by rfl, fun w _ => ?_⟩, ?_⟩
                rotate_left
                · (go_simp <;> with_reducible rfl)
                try simp only [Act.put, List.setIfInBounds_toArray, List.set_cons_zero, List.set_cons_succ]
                refine s_take 9 (by as_aux_lemma => kernel_rfl) (by as_aux_lemma => kernel_rfl) (by as_aux_lemma => kernel_rfl) (by as_aux_lemma => kernel_rfl) HD8.out (fun oi ho => ?_)
                simp only [List.getElem?_toArray, List.getElem?_cons_succ, List.getElem?_cons_zero, Option.some.injEq] at ho
                subst ho
                refine ⟨.bool false, Or.inl ⟨by rfl, fun w' hS' => ?_⟩, ?_⟩
                · clear d0
                  (go_simp <;> first | with_reducible rfl | simp [hmm])
                try simp only [Act.put, List.setIfInBounds_toArray, List.set_cons_zero, List.set_cons_succ]
                refine s_take 10 (by as_aux_lemma => kernel_rfl) (by as_aux_lemma => kernel_rfl) (by as_aux_lemma => kernel_rfl) (by as_aux_lemma => kernel_rfl) HD8.out (fun oi ho => ?_)
                simp only [List.getElem?_toArray, List.getElem?_cons_succ, List.getElem?_cons_zero, Option.some.injEq] at ho
                subst ho
                refine ⟨?_, Or.inl ⟨by rfl, fun w _ => ?_⟩, ?_⟩
                rotate_left
                · (go_simp <;> with_reducible rfl)
                try simp only [Act.put, List.setIfInBounds_toArray, List.set_cons_zero, List.set_cons_succ]
                refine s_take 11 (by as_aux_lemma => kernel_rfl) (by as_aux_lemma => kernel_rfl) (by as_aux_lemma => kernel_rfl) (by as_aux_lemma => kernel_rfl) HD8.out (fun oi ho => ?_)
                simp only [List.getElem?_toArray, List.getElem?_cons_succ, List.getElem?_cons_zero, Option.some.injEq] at ho
                subst ho
                refine ⟨?_, Or.inl ⟨by rfl, fun w _ => ?_⟩, ?_⟩
                rotate_left
                · (go_simp <;> with_reducible rfl)
                try simp only [Act.put, List.setIfInBounds_toArray, List.set_cons_zero, List.set_cons_succ]
                refine s_take 12 (by as_aux_lemma => kernel_rfl) (by as_aux_lemma => kernel_rfl) (by as_aux_lemma => kernel_rfl) (by as_aux_lemma => kernel_rfl) HD8.out (fun oi ho => ?_)
                simp only [List.getElem?_toArray, List.getElem?_cons_succ, List.getElem?_cons_zero, Option.some.injEq] at ho
                subst ho
                refine ⟨?_, Or.inl ⟨by rfl, fun w _ => ?_⟩, ?_⟩
                rotate_left
                · (go_simp <;> with_reducible rfl)
                try simp only [Act.put, List.setIfInBounds_toArray, List.set_cons_zero, List.set_cons_succ]
                refine s_take 13 (by as_aux_lemma => kernel_rfl) (by as_aux_lemma => kernel_rfl) (by as_aux_lemma => kernel_rfl) (by as_aux_lemma => kernel_rfl) HD8.out (fun oi ho => ?_)
                simp only [List.getElem?_toArray, List.getElem?_cons_succ, List.getElem?_cons_zero, Option.some.injEq] at ho
                subst ho
                refine ⟨?_, Or.inl ⟨by rfl, fun w _ => ?_⟩, ?_⟩
                rotate_left
                · (go_simp <;> with_reducible rfl)
                try simp only [Act.put, List.setIfInBounds_toArray, List.set_cons_zero, List.set_cons_succ]
                refine s_take 14 (by as_aux_lemma => kernel_rfl) (by as_aux_lemma => kernel_rfl) (by as_aux_lemma => kernel_rfl) (by as_aux_lemma => kernel_rfl) HD8.out (fun oi ho => ?_)
                simp only [List.getElem?_toArray, List.getElem?_cons_succ, List.getElem?_cons_zero, Option.some.injEq] at ho
                subst ho
                refine ⟨.bool false, Or.inl ⟨by rfl, fun w' hS' => ?_⟩, ?_⟩
                · clear d0
                  (go_simp <;> first | with_reducible rfl | simp [hmm])
                try simp only [Act.put, List.setIfInBounds_toArray, List.set_cons_zero, List.set_cons_succ]
                refine s_take 15 (by as_aux_lemma => kernel_rfl) (by as_aux_lemma => kernel_rfl) (by as_aux_lemma => kernel_rfl) (by as_aux_lemma => kernel_rfl) HD8.out (fun oi ho => ?_)
                simp only [List.getElem?_toArray, List.getElem?_cons_succ, List.getElem?_cons_zero, Option.some.injEq] at ho
                subst ho
                refine ⟨?_, Or.inl ⟨by rfl, fun w _ => ?_⟩, ?_⟩
                rotate_left
                · (go_simp <;> with_reducible rfl)
                try simp only [Act.put, List.setIfInBounds_toArray, List.set_cons_zero, List.set_cons_succ]
                refine s_take 16 (by as_aux_lemma => kernel_rfl) (by as_aux_lemma => kernel_rfl) (by as_aux_lemma => kernel_rfl) (by as_aux_lemma => kernel_rfl) HD8.out (fun oi ho => ?_)
                simp only [List.getElem?_toArray, List.getElem?_cons_succ, List.getElem?_cons_zero, Option.some.injEq] at ho
                subst ho
                refine ⟨undef, Or.inr ⟨by rfl, rfl⟩, ?_⟩
                try simp only [Act.put, List.setIfInBounds_toArray, List.set_cons_zero, List.set_cons_succ]
                refine s_take 17 (by as_aux_lemma => kernel_rfl) (by as_aux_lemma => kernel_rfl) (by as_aux_lemma => kernel_rfl) (by as_aux_lemma => kernel_rfl) HD8.out (fun oi ho => ?_)
                simp only [List.getElem?_toArray, List.getElem?_cons_succ, List.getElem?_cons_zero, Option.some.injEq] at ho
                subst ho
                refine ⟨undef, Or.inr ⟨by rfl, rfl⟩, ?_⟩
                try simp only [Act.put, List.setIfInBounds_toArray, List.set_cons_zero, List.set_cons_succ]
                refine s_take 18 (by as_aux_lemma => kernel_rfl) (by as_aux_lemma => kernel_rfl) (by as_aux_lemma => kernel_rfl) (by as_aux_lemma => kernel_rfl) HD8.out (fun oi ho => ?_)
                simp only [List.getElem?_toArray, List.getElem?_cons_succ, List.getElem?_cons_zero, Option.some.injEq] at ho
                subst ho
                refine ⟨undef, Or.inr ⟨by rfl, rfl⟩, ?_⟩
                try simp only [Act.put, List.setIfInBounds_toArray, List.set_cons_zero, List.set_cons_succ]
                refine s_take 19 (by as_aux_lemma => kernel_rfl) (by as_aux_lemma => kernel_rfl) (by as_aux_lemma => kernel_rfl) (by as_aux_lemma => kernel_rfl) HD8.out (fun oi ho => ?_)
                simp only [List.getElem?_toArray, List.getElem?_cons_succ, List.getElem?_cons_zero, Option.some.injEq] at ho
                subst ho
                refine ⟨undef, Or.inr ⟨by rfl, rfl⟩, ?_⟩
                try simp only [Act.put, List.setIfInBounds_toArray, List.set_cons_zero, List.set_cons_succ]
                refine s_take 20 (by as_aux_lemma => kernel_rfl) (by as_aux_lemma => kernel_rfl) (by as_aux_lemma => kernel_rfl) (by as_aux_lemma => kernel_rfl) HD8.out (fun oi ho => ?_)
                simp only [List.getElem?_toArray, List.getElem?_cons_succ, List.getElem?_cons_zero, Option.some.injEq] at ho
                subst ho
                refine ⟨undef, Or.inr ⟨by rfl, rfl⟩, ?_⟩
                try simp only [Act.put, List.setIfInBounds_toArray, List.set_cons_zero, List.set_cons_succ]
                refine s_take 21 (by as_aux_lemma => kernel_rfl) (by as_aux_lemma => kernel_rfl) (by as_aux_lemma => kernel_rfl) (by as_aux_lemma => kernel_rfl) HD8.out (fun oi ho => ?_)
                simp only [List.getElem?_toArray, List.getElem?_cons_succ, List.getElem?_cons_zero, Option.some.injEq] at ho
                subst ho
                refine ⟨undef, Or.inr ⟨by rfl, rfl⟩, ?_⟩
                try simp only [Act.put, List.setIfInBounds_toArray, List.set_cons_zero, List.set_cons_succ]
                refine s_take 22 (by as_aux_lemma => kernel_rfl) (by as_aux_lemma => kernel_rfl) (by as_aux_lemma => kernel_rfl) (by as_aux_lemma => kernel_rfl) HD8.out (fun oi ho => ?_)
                simp only [List.getElem?_toArray, List.getElem?_cons_succ, List.getElem?_cons_zero, Option.some.injEq] at ho
                subst ho
                refine ⟨undef, Or.inr ⟨by rfl, rfl⟩, ?_⟩
                try simp only [Act.put, List.setIfInBounds_toArray, List.set_cons_zero, List.set_cons_succ]
                refine s_take 23 (by as_aux_lemma => kernel_rfl) (by as_aux_lemma => kernel_rfl) (by as_aux_lemma => kernel_rfl) (by as_aux_lemma => kernel_rfl) HD8.out (fun oi ho => ?_)
                simp only [List.getElem?_toArray, List.getElem?_cons_succ, List.getElem?_cons_zero, Option.some.injEq] at ho
                subst ho
                refine ⟨undef, Or.inr ⟨by rfl, rfl⟩, ?_⟩
                try simp only [Act.put, List.setIfInBounds_toArray, List.set_cons_zero, List.set_cons_succ]
                refine s_take 24 (by as_aux_lemma => kernel_rfl) (by as_aux_lemma => kernel_rfl) (by as_aux_lemma => kernel_rfl) (by as_aux_lemma => kernel_rfl) HD8.out (fun oi ho => ?_)
                simp only [List.getElem?_toArray, List.getElem?_cons_succ, List.getElem?_cons_zero, Option.some.injEq] at ho
                subst ho
                refine ⟨undef, Or.inr ⟨by rfl, rfl⟩, ?_⟩
                try simp only [Act.put, List.setIfInBounds_toArray, List.set_cons_zero, List.set_cons_succ]
                refine s_take 25 (by as_aux_lemma => kernel_rfl) (by as_aux_lemma => kernel_rfl) (by as_aux_lemma => kernel_rfl) (by as_aux_lemma => kernel_rfl) HD8.out (fun oi ho => ?_)
                simp only [List.getElem?_toArray, List.getElem?_cons_succ, List.getElem?_cons_zero, Option.some.injEq] at ho
                subst ho
                refine ⟨undef, Or.inr ⟨by rfl, rfl⟩, ?_⟩
                try simp only [Act.put, List.setIfInBounds_toArray, List.set_cons_zero, List.set_cons_succ]
                refine s_take 26 (by as_aux_lemma => kernel_rfl) (by as_aux_lemma => kernel_rfl) (by as_aux_lemma => kernel_rfl) (by as_aux_lemma => kernel_rfl) HD8.out (fun oi ho => ?_)
                simp only [List.getElem?_toArray, List.getElem?_cons_succ, List.getElem?_cons_zero, Option.some.injEq] at ho
                subst ho
                refine ⟨?_, Or.inl ⟨by rfl, fun w _ => ?_⟩, ?_⟩
                rotate_left
                · (go_simp <;> with_reducible rfl)
                try simp only [Act.put, List.setIfInBounds_toArray, List.set_cons_zero, List.set_cons_succ]
                refine s_take 27 (by as_aux_lemma => kernel_rfl) (by as_aux_lemma => kernel_rfl) (by as_aux_lemma => kernel_rfl) (by as_aux_lemma => kernel_rfl) HD8.out (fun oi ho => ?_)
                simp only [List.getElem?_toArray, List.getElem?_cons_succ, List.getElem?_cons_zero, Option.some.injEq] at ho
                subst ho
                refine ⟨?_, Or.inl ⟨by rfl, fun w _ => ?_⟩, ?_⟩
                rotate_left
                · (go_simp <;> with_reducible rfl)
                try simp only [Act.put, List.setIfInBounds_toArray, List.set_cons_zero, List.set_cons_succ]
                refine s_done (by as_aux_lemma => kernel_rfl) ?_
                skip
                go_wp2
                go_roundw
                case rel => exact ⟨m + 1, by omega, by go_num, HD8.out⟩
                case measure => simp [intOf]; omega
            · obtain rfl : m = j := by omega
              have HBA8 := Lib.hid (below_more HBA7.out HB8.out HBA7.out.size)
              have HB28 := Lib.hid (below_more HB7.out HB8.out HB7.out.size)
              go_wp2_with fail
              go_loopw [24] (fun i wr => ∃ q : Nat, q ≤ N ∧ i = .int .i64 (q : Int) ∧ wr = w8) (fun i _ => N - (intOf i).toNat)
              case atStart => exact ⟨0, Nat.zero_le _, rfl, rfl⟩
              case round =>
                obtain ⟨q, hq, rfl, rfl⟩ := hrel
                by_cases hql : q < N
                · obtain ⟨u, d1, hub⟩ := HBC.out q hql
                  obtain ⟨pu, cu, rfl⟩ := hub.shape
                  rw [HLLW.out q hql] at d1
                  have d1 := (HB28.out.cell (p := ⟨gb, 0 + q, none⟩) (blt d1)).trans d1
                  rw [Nat.zero_add] at d1
                  clear hub
                  go_wp2
                  go_roundw
                  case rel => exact ⟨q + 1, by omega, by go_num, by first | rfl | trivial⟩
                  case measure => simp [intOf]; omega
                · go_wp2
                  go_ret
                  exact ⟨rfl, HBA8.out⟩
end Go.Proofs.Ytanjchpkekehgaa
