/-
  LayBb: LayBodies: the walk.
  RefR: Walks of the reference, layer 9 (strip): Join.
-/
import Derived.Test.YtanjchpkekehgaaGreatMxbw
import Derived.Test.YtanjchpkekehgaaGreatMxbx
import Derived.Test.YtanjchpkekehgaaGreatMxbe
import Derived.Test.YtanjchpkekehgaaGreatMxbq
import Derived.Test.YtanjchpkekehgaaGreatMxbk
namespace Go.Proofs.YtanjchpkekehgaaGreat

section -- LayBb
open Go.RowKit Go.Maps
set_option linter.unusedVariables false
set_option linter.unusedSimpArgs false
set_option maxRecDepth 100000
set_option maxHeartbeats 4000000

theorem atT_300 {ls : List (List B)} {ks : List Int} (hk : ∀ i, i < ks.length → 1 ≤ ks.getD i 0) (hl : ∀ i, i < ks.length → (ls.getD i []).length ≤ 300) : ∀ {m : Nat}, m ≤ ks.length → atT (tabL ls ks) m ≤ m * 300
  | 0, _ => by rw [atT_zero]; omega
  | m + 1, h => by
    have ih := atT_300 hk hl (m := m) (by omega)
    rw [atT_succ (by rw [tabL_len]; omega), tabL_get (by omega)]
    have h1 := hk m (by omega)
    have h2 := hl m (by omega)
    have h3 := wdN_le (long := (ls.getD m []).length) (k := (ks.getD m 0).toNat) (by omega)
    have h4 : wdT (ks.getD m 0, ((ls.getD m []).length : Int)) = wdN (ls.getD m []).length (ks.getD m 0).toNat := rfl
    omega
/-- The bodies, or none. -/
def bodR (n : Int) (ls : List (List B)) (ks : List Int) : List (List B) := if bodE n ls ks = 0 then bodiesL n.toNat ls ks ks.length else []
theorem bodR_len {n : Int} {ls : List (List B)} {ks : List Int} : (bodR n ls ks).length ≤ 255 := by
  unfold bodR
  split
  · rename_i h
    unfold bodE at h
    split at h
    · rename_i h2
      rw [bodiesL_len]
      have := h2.2.2.1
      omega
    · omega
  · simp
theorem bodR_wide {n : Int} {ls : List (List B)} {ks : List Int} (hl : ∀ i, i < ls.length → (ls.getD i []).length ≤ 300) : ∀ i, i < (bodR n ls ks).length → ((bodR n ls ks).getD i []).length ≤ 2400 := by
  intro i hi
  unfold bodR at hi ⊢
  split
  · rename_i h
    rw [if_pos h, bodiesL_len] at hi
    rw [bodiesL_get hi]
    unfold bodE at h
    split at h
    · rename_i h2
      obtain ⟨h3, h4⟩ := h2
      rw [bodyL_length hi (Nat.le_refl _)]
      have h5 := atT_300 (ls := ls) (ks := ks) (fun j hj => by
        have := (h4.2.2.2.2.ge j (by rw [tabL_len]; exact hj)).1
        rw [tabL_get hj] at this
        exact this) (fun j hj => hl j (by omega)) (Nat.le_refl _)
      have h6 := h4.2.2.2.1
      rw [tabL_len] at h6
      omega
    · omega
  · rename_i h
    rw [if_neg h] at hi
    simp at hi

theorem layBodies_any (w : World) (n : Int) (vl vk : Value) (ls : List (List B)) (ks : List Int) (hl : RowsAt w vl ls) (hk : IntsAt w vk ks) (hll : ls.length ≤ 140737488355328) (hlr : ∀ i, i < ls.length → (ls.getD i []).length ≤ 140737488355328) (hkl : ks.length ≤ 140737488355328) :
    Calls Tryz.prog 3 #[.int .i64 n, vl, vk] w fun e w' => e = .returned (.bool true) ∧ Below w.heap.size w w' := by
  have HL := Lib.hid hl
  have HK := Lib.hid hk
  have HLR := Lib.hid hlr
  clear hl hk hlr
  obtain ⟨pl, cl, hv⟩ := HL.out.shape
  subst hv
  obtain ⟨pk, ck, hv, hkc, hkh⟩ := HK.out
  subst hv
  obtain ⟨M, hM⟩ : ∃ M, ks.length = M := ⟨_, rfl⟩
  have HM := Lib.hid hM
  obtain ⟨R, hR⟩ : ∃ R, ls.length = R := ⟨_, rfl⟩
  have HR := Lib.hid hR
  rw [hM] at hkl hkc HK ⊢
  rw [hR] at hll HL ⊢
  clear hkh hM hR
  have HAW := Lib.hid (fun W (h : Below w.heap.size w W) => (lawake_any W).mono (R' := fun e w' => e = .returned (.bool true) ∧ Below w.heap.size w w') (fun e w' h2 => ⟨h2.1, below_more h h2.2 h.size⟩))
  go_enter Tryz.func3, Tryz.ntmps3
  by_cases h1 : 14 < n ∧ n < 256
  · obtain ⟨h1, h2⟩ := h1
    go_wp2_with fail
    refine (HAW.out w (Below.refl _ _)).mono ?_
    rintro e w1 ⟨rfl, hB1⟩
    go_wp2
    go_ret
    exact ⟨rfl, hB1⟩
  have h1' : (14 < n ∧ ¬ n < 256) ∨ ¬ 14 < n := by omega
  have HSZ := Lib.hid (size_any w (.slice pl R cl) ls HL.out (by rw [HR.out]; omega) HLR.out)
  rcases h1' with ⟨q1, q2⟩ | q1
  all_goals
    go_wp2_with fail
    refine HSZ.out.mono ?_
    rintro e w2' ⟨y, rfl, hy, hyb, rfl⟩
    have HY := Lib.hid hy
    clear hy HSZ
    have hsum : wrap64 ((y : Int) + (M : Int)) = (y : Int) + (M : Int) := by unfold wrap64; omega
    by_cases hy : (300 : Int) < (y : Int) + (M : Int)
    · go_wp2_with fail
      refine (HAW.out w (Below.refl _ _)).mono ?_
      rintro e w1 ⟨rfl, hB1⟩
      go_wp2
      go_ret
      exact ⟨rfl, hB1⟩
    obtain ⟨hls, hlw⟩ := HY.out (by omega)
    have HLW := Lib.hid hlw
    rw [HR.out] at hls
    have hM3 : M ≤ 300 := by omega
    clear hlw hyb hll hkl
    go_wp2_with fail
    refine (lentR_any w _ ls HL.out (by rw [HR.out]; omega) (fun i hi => by have := HLW.out i hi; omega)).mono ?_
    rintro e w1 ⟨va, rfl, hva, hB1⟩
    have HA1 := Lib.hid hva
    have HB1 := Lib.hid hB1
    have HL1 := Lib.hid (HL.out.below hB1)
    have HK1 := Lib.hid (HK.out.below hB1)
    clear hva hB1
    go_wp2_with fail
    refine (lentI_any w1 _ ks HK1.out (by rw [HM.out]; omega)).mono ?_
    rintro e w2 ⟨vi, rfl, hvi, hB2⟩
    have HI2 := Lib.hid hvi
    have HA2 := Lib.hid (HA1.out.below hB2)
    have HL2 := Lib.hid (HL1.out.below hB2)
    have HK2 := Lib.hid (HK1.out.below hB2)
    have HB2 := Lib.hid (below_more HB1.out hB2 HB1.out.size)
    obtain ⟨us0, HU0, hG0⟩ := HA2.out.lone.group (fun i hi => by have := HLW.out i hi; omega)
    have HG2 := Lib.hid hG0
    have HGT := Lib.hid (fun b h => (hG0.top b h).2)
    obtain ⟨pva, cva, rfl⟩ := HA2.out.rows.shape
    rw [HR.out] at HA2 HG2 HGT ⊢
    clear hG0
    clear hvi hB2
    go_wp2_with fail
    refine (bodies_any w2 n _ _ ls ks HA2.out.rows HI2.out.ints (by rw [HM.out]; omega) (fun i hi => by have := HLW.out i hi; omega)).mono ?_
    rintro e w3 ⟨v3, rfl, hok, hno, hB3⟩
    have HV3 := Lib.hid (show RowsLone w3 w2.heap.size v3 (bodR n ls ks) from by
      unfold bodR
      split
      · rename_i h; exact hok h
      · rename_i h; rw [hno h]; exact RowsLone.nil _ _)
    have HG3 := Lib.hid (HG2.out.below hB3)
    have HI3 := Lib.hid (HI2.out.below hB3)
    have HA3 := Lib.hid (HA2.out.below hB3)
    have HL3 := Lib.hid (HL2.out.below hB3)
    have HK3 := Lib.hid (HK2.out.below hB3)
    have HB3 := Lib.hid (below_more HB2.out hB3 HB2.out.size)
    clear hok hno hB3
    go_wp2_with fail
    refine (rbodies_any w3 n _ _ ls ks HL3.out HK3.out (by rw [HM.out]; omega) (fun i hi => by have := HLW.out i hi; omega)).mono ?_
    rintro e w4 ⟨v4, rfl, hok, hno, hB4⟩
    have HV4 := Lib.hid (show RowsAt w4 v4 (bodR n ls ks) from by
      unfold bodR
      split
      · rename_i h; exact hok h
      · rename_i h; rw [hno h]; exact RowsAt.nil _)
    have HV34 := Lib.hid (HV3.out.below hB4)
    have HG4 := Lib.hid (HG3.out.below hB4)
    have HI4 := Lib.hid (HI3.out.below hB4)
    have HA4 := Lib.hid (HA3.out.below hB4)
    have HL4 := Lib.hid (HL3.out.below hB4)
    have HK4 := Lib.hid (HK3.out.below hB4)
    have HB4 := Lib.hid (below_more HB3.out hB4 HB3.out.size)
    clear hok hno hB4
    have HRL := Lib.hid (bodR_len (n := n) (ls := ls) (ks := ks))
    have HRW := Lib.hid (bodR_wide (n := n) (ls := ls) (ks := ks) HLW.out)
    obtain ⟨E, hE⟩ : ∃ x, bodE n ls ks = x := ⟨_, rfl⟩
    obtain ⟨BL, hBL⟩ : ∃ x, bodR n ls ks = x := ⟨_, rfl⟩
    rw [hBL] at HV3 HV4 HV34 HRL HRW
    rw [hE]
    clear hE hBL
    obtain ⟨pv3, cv3, rfl⟩ := HV34.out.rows.shape
    go_wp2_with fail
    refine (sameRows_any w4 _ _ BL HV34.out.rows HV4.out (by have := HRL.out; omega) (fun i hi => by have := HRW.out i hi; omega)).mono ?_
    rintro e w5 ⟨rfl, q5, rfl⟩
    go_wp2_with fail
    refine (keptR_any (w4.drewN q5) _ _ ls _ (HA4.out.below (balD w4 q5)).at' (HL4.out.below (balD w4 q5)) (by rw [HR.out]; omega) (fun i hi => by have := HLW.out i hi; omega)).mono ?_
    rintro e w5 ⟨rfl, q6, rfl⟩
    have HD6 := Lib.hid (balD w4 (q5 + q6))
    have HI6 := Lib.hid (HI4.out.below HD6.out)
    have HK6 := Lib.hid (HK4.out.below HD6.out)
    have HA6 := Lib.hid (HA4.out.below HD6.out)
    have HV6 := Lib.hid (HV34.out.below HD6.out)
    have HB6 := Lib.hid (below_more HB4.out HD6.out HB4.out.size)
    go_wp2_with fail
    refine (keptI_any _ _ _ ks _ HI6.out HK6.out (by rw [HM.out]; omega)).mono ?_
    rintro e w7 ⟨rfl, q7, rfl⟩
    have HDD := Lib.hid (balD w4 (q5 + q6 + q7))
    have HV7 := Lib.hid (HV34.out.below HDD.out)
    have HB7 := Lib.hid (below_more HB4.out HDD.out HB4.out.size)
    have HG7 := Lib.hid (HG4.out.below HDD.out)
    obtain ⟨us1, HU1, hG1⟩ := HV7.out.group (fun i hi => by have := HRW.out i hi; omega)
    have HG1 := Lib.hid hG1
    have HNE := Lib.hid (show GroupNe (.slice pva R cva) us0 (.slice pv3 BL.length cv3) us1 from fun b h1 h2 => by
      have h3 := (HG1.out.top b h2).1
      have h4 := HGT.out b h1
      omega)
    have HSZ2 := Lib.hid (show w.heap.size ≤ w2.heap.size from HB2.out.size)
    have HSZ1 := Lib.hid (show w.heap.size ≤ w1.heap.size from HB1.out.size)
    clear hG1
    go_wp2_with fail
    have HSE := Lib.hid (show (w4.drewN (q5 + q6 + q7)).heap.size = w4.heap.size from rfl)
    generalize w4.drewN (q5 + q6 + q7) = w8 at *
    refine (apart2_any w8 w.heap.size w2.heap.size w.heap.size _ _ _ us0 us1 HG7.out HG1.out HNE.out (Nat.le_refl _) HSZ2.out HB7.out.size (by rw [HU0, HR.out]; omega) (by rw [HU1]; have := HRL.out; omega) HSE.out).mono ?_
    rintro e w9 ⟨rfl, hB9⟩
    have HB9 := Lib.hid (HB7.out.trans hB9)
    clear hB9
    go_wp2_with fail
    refine (HAW.out _ HB9.out).mono ?_
    rintro e w10 ⟨rfl, hB10⟩
    go_wp2
    go_ret
    exact ⟨rfl, hB10⟩
end -- LayBb

section -- RefR
open Go.RowKit Go.Maps
set_option linter.unusedVariables false
set_option linter.unusedSimpArgs false
set_option maxRecDepth 100000
set_option maxHeartbeats 4000000

theorem lit_none0 (w : World) (t : TypeId) (base : Nat) (hb : base ≤ w.heap.size) : (w.alloc (.cells #[] t)).ownsRow base t 1 (.slice (some ⟨w.heap.size, 0, none⟩) 0 0) 0 [] :=
  ⟨by simp, .inr ⟨w.heap.size, 0, #[], rfl, hb, heap_alloc_new w _, Nat.le_refl _, by unfold maxLen; omega, by simp, by simp⟩⟩
theorem BytesAt.takeR {w : World} {p : Option Addr} {n c m : Nat} {l : List B} (h : BytesAt w (.slice p n c) l) (hm : m ≤ l.length) : BytesAt w (.slice p m c) (l.take m) := by
  obtain ⟨_, _, e, hh⟩ := h
  simp only [Value.slice.injEq] at e
  obtain ⟨rfl, rfl, rfl⟩ := e
  have hl : (l.take m).length = m := by simp; omega
  refine ⟨_, _, by rw [hl], fun h0 => ?_⟩
  rw [hl] at h0
  obtain ⟨g, off, rfl, hc⟩ := hh (by omega)
  refine ⟨g, off, rfl, fun i hi => ?_⟩
  rw [hl] at hi
  rw [hc i (by omega)]
  congr 2
  rw [List.getD_eq_getElem?_getD, List.getD_eq_getElem?_getD, List.getElem?_take, if_pos hi]
theorem flat_take {rows : List (List B)} {r : Nat} (h : r < rows.length) : (rows.take (r + 1)).flatten = (rows.take r).flatten ++ rows.getD r [] := by
  rw [List.take_add_one, List.getElem?_eq_getElem h, Option.toList_some, List.flatten_append, List.getD_eq_getElem?_getD, List.getElem?_eq_getElem h]
  simp
theorem flat_len {rows : List (List B)} {wd : Nat} (hw : ∀ i, i < rows.length → (rows.getD i []).length = wd) : ∀ {r : Nat}, r ≤ rows.length → ((rows.take r).flatten).length = r * wd
  | 0, _ => by simp
  | r + 1, h => by
    rw [flat_take (by omega), List.length_append, flat_len hw (by omega), hw r (by omega), Nat.add_mul, Nat.one_mul]

theorem rjoin_any (w : World) (vr : Value) (rows : List (List B)) (long k : Nat) (hr : RowsAt w vr rows) (hk : rows.length = k) (h1 : 1 ≤ k) (h2 : k ≤ 255) (hl : long ≤ 65535) (hw : ∀ i, i < rows.length → (rows.getD i []).length = wdN long k) :
    Calls Tryz.prog 45 #[vr, .int .i64 (long : Int)] w fun e w' => ∃ v, e = .returned (.tuple #[v, .int .i64 0]) ∧ Own w' w.heap.size v (joinL rows long) ∧ Below w.heap.size w w' := by
  obtain ⟨pr, cr, rfl, hh⟩ := hr
  have hge := wdN_ge (long := long) h1
  have hwl := wdN_le (long := long) h1
  have HW := Lib.hid (rwidth9_any w long k hl h1 h2)
  have HFT := Lib.hid (fun r (h : r < rows.length) => flat_take h)
  have HFL := Lib.hid (fun r (h : r ≤ rows.length) => flat_len hw h)
  have HHH := Lib.hid hh
  have HWD := Lib.hid hw
  rw [hk] at HFT HFL HHH HWD ⊢
  obtain ⟨wd, hwd⟩ : ∃ x, wdN long k = x := ⟨_, rfl⟩
  rw [hwd] at HW HFL HWD hge hwl
  rw [Nat.mul_comm] at hge
  have hkw : k * wd ≤ 255 * 65535 := Nat.mul_le_mul h2 (by omega)
  have HKW := Lib.hid (fun r (h : r ≤ k) => Nat.mul_le_mul_right wd h)
  have HJ := Lib.hid (show (rows.take k).flatten.take long = joinL rows long from by rw [show rows.take k = rows from List.take_of_length_le (by omega)]; rfl)
  clear hh hw hwd
  go_enter Tryz.func45, Tryz.ntmps45
  go_wp2_with fail
  refine HW.out.mono ?_
  rintro e w' ⟨rfl, rfl⟩
  go_wp2
  go_loopw [8, 9] (fun v i wr => ∃ r : Nat, r ≤ k ∧ i = .int .i64 (r : Int) ∧ Own wr w.heap.size v ((rows.take r).flatten) ∧ Below w.heap.size w wr) (fun _ i _ => k - (intOf i).toNat)
  case atStart => exact ⟨0, Nat.zero_le _, rfl, by rw [List.take_zero]; exact Own.nil _ _, Below.refl _ _⟩
  case round =>
    obtain ⟨wo, rfl⟩ : ∃ wo, wo = wr := ⟨_, rfl⟩
    obtain ⟨r, hr, rfl, ho, hB⟩ := hrel
    obtain ⟨pv, cv, rfl⟩ := ho.shape
    have hfl := HFL.out r hr
    have hkr := HKW.out r hr
    have HO := Lib.hid ho
    have HB := Lib.hid hB
    have hsr := hB.size
    obtain ⟨lv, hlv⟩ : ∃ x, r * wd = x := ⟨_, rfl⟩
    rw [hlv] at hfl hkr
    rw [hfl] at HO ⊢
    have HFLL := Lib.hid hfl
    clear ho hB hfl
    by_cases hlt : r < k
    · obtain ⟨g, off, rfl, hc⟩ := HHH.out (by omega)
      obtain ⟨u, d0, hu⟩ := hc r hlt
      have hu2 := hu.below HB.out
      obtain ⟨pu, cu, rfl, hub⟩ := hu2
      have hwr := HWD.out r hlt
      rw [hwr] at d0 hub
      have d0 := (HB.out.cell (p := ⟨g, off + r, none⟩) (blt d0)).trans d0
      have HUB := Lib.hid hub
      have HFTT := Lib.hid (HFT.out r hlt)
      have HWR := Lib.hid hwr
      clear hc hu hub hwr
      go_wp2_with (at_builtin; refine app_own_many rfl _ _ rfl w.heap.size lv wd _ _ (rows.getD r []) HFLL.out HWR.out HO.out pu cu HUB.out rfl rfl (by omega) hsr ?_; intro p7 c7 w7 hR7 hk7 hg7)
      go_roundw
      case rel => exact ⟨r + 1, by omega, by go_num, by rw [HFTT.out]; exact hR7, HB.out.trans (hk7.toBelow hsr (fun i hi => (HO.out.blk i hi).1))⟩
      case measure => simp [intOf]; omega
    · obtain rfl : r = k := by omega
      have HLL := Lib.hid (show ((rows.take r).flatten.take long).length = long from by rw [List.length_take, HFLL.out]; omega)
      have hlo : long ≤ lv := by omega
      have HE := Lib.hid (lit_none0 wo 5 w.heap.size hsr)
      have hal := balT wo (.cells #[] 5)
      have HA := Lib.hid hal
      have hsa : w.heap.size ≤ (wo.alloc (.cells #[] 5)).heap.size := by simp; omega
      have hby := (HO.out.bytes.takeR (m := long) (by rw [HFLL.out]; exact hlo)).below hal
      obtain ⟨_, _, e0, hbc⟩ := hby
      have HBC := Lib.hid (show 0 < long → ∃ g off, pv = some ⟨g, off, none⟩ ∧ ∀ i, i < long → (wo.alloc (.cells #[] 5)).cell? ⟨g, off + i, none⟩ = some (bv (((rows.take r).flatten.take long).getD i 0)) from fun h0 => by
        rw [HLL.out] at hbc
        have e1 := (Value.slice.inj e0).1
        rw [e1]
        exact hbc h0)
      have hcv : lv ≤ cv := by
        rcases HO.out.2 with ⟨e, hz⟩ | ⟨g, cap, cur, e, _, _, hnc, _⟩
        · have := (Value.slice.inj e).2; omega
        · have := (Value.slice.inj e).2; rw [HFLL.out] at hnc; omega
      have hlc : long ≤ cv := by omega
      have hlc' : (long : Int) ≤ (cv : Int) := by omega
      clear hbc e0 hal
      have HJJ := Lib.hid HJ.out
      go_wp2_with (at_builtin; refine app_own_many rfl _ _ rfl w.heap.size 0 long _ [] ((rows.take r).flatten.take long) rfl HLL.out HE.out pv cv HBC.out rfl rfl (by omega) hsa ?_; intro p7 c7 w7 hR7 hk7 hg7)
      go_ret2
      rw [List.nil_append, HJ.out, Nat.zero_add] at hR7
      exact ⟨_, rfl, hR7, HB.out.trans ((HA.out.mono hsr).trans (hk7.toBelow hsa (fun i hi => (HE.out.lt i hi).1)))⟩
end -- RefR

end Go.Proofs.YtanjchpkekehgaaGreat
