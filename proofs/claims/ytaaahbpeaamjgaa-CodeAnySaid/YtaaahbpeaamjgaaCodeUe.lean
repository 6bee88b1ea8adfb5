/-
  The walk of CodeAlso.
-/
import Derived.Test.YtaaahbpeaamjgaaCodeUd
import Derived.Test.YtaaahbpeaamjgaaCodeQc
namespace Go.Proofs.Ytaaahbpeaamjgaa
open Go.RowKit Go.Maps
set_option linter.unusedVariables false
set_option maxRecDepth 100000
set_option maxHeartbeats 4000000

/-- What a source that held symbols tell has. -/
structure DecAt (nn kn wide : Nat) (hs : List (Int × List B)) (D : List (List B)) : Prop where
  len : D.length = kn
  wid : ∀ i, i < kn → (D.getD i []).length = wide
  more : kn ≤ hs.length
  tells : ∀ i, i < kn → ∃ ix : Nat, (hs.getD i (0, [])).1 = (ix : Int) ∧ ix < nn ∧ mixL (wtsL (ptsL kn) (ofB ix)) D wide = (hs.getD i (0, [])).2
theorem decAt_of {nn kn wide : Nat} {hs : List (Int × List B)} (h : decE nn kn hs = 0) (hkn : kn ≤ nn) (hn : nn ≤ 255) (hw : (hs.getD 0 (0, [])).2.length = wide) : DecAt nn kn wide hs (decL kn (idxB ((hIdx hs).take kn)) (hRow hs) wide) := by
  unfold decE at h
  by_cases he : evenH hs = true
  · rw [if_pos he] at h
    have ha := askE_zero h
    have hm : kn ≤ hs.length := by have := ha.len; simpa [hIdx] using this
    refine ⟨by simp [decL, turnL], fun i hi => ?_, hm, fun i hi => ?_⟩
    · unfold decL turnL
      rw [List.map_map, getD_range _ _ hi]
      exact mixL_len _ _ _
    · have hx := ha.getD (m := i) (by simp [hIdx]; omega)
      have e1 : (hIdx hs).getD i 0 = (hs.getD i (0, [])).1 := by simp [hIdx, List.getD_eq_getElem?_getD, List.getElem?_eq_getElem (show i < hs.length by omega)]
      have e2 : (hRow hs).getD i [] = (hs.getD i (0, [])).2 := by simp [hRow, List.getD_eq_getElem?_getD, List.getElem?_eq_getElem (show i < hs.length by omega)]
      have := enc_dec (hk := hRow hs) (wide := wide) ha hkn hn (by simp [hRow, hIdx]) (fun j hj => by
        have hj' : j < hs.length := by simpa [hRow] using hj
        rw [show (hRow hs).getD j [] = (hs.getD j (0, [])).2 by simp [hRow, List.getD_eq_getElem?_getD, List.getElem?_eq_getElem hj']]
        rw [(evenH_iff hs).1 he j hj', hw]) hi
      rw [e1] at hx this
      rw [e2] at this
      exact ⟨(hs.getD i (0, [])).1.toNat, by omega, by omega, this⟩
  · rw [if_neg he] at h; omega

theorem bdr {B : Nat} {w w' : World} (h : Below B w w') (n : Nat) : Below B w (w'.drewN n) := ⟨h.os, h.tape, h.output, h.size, h.block⟩
theorem evenB_get {ls : List (List B)} (h : evenB ls = true) {i : Nat} (hi : i < ls.length) : (ls.getD i []).length = (ls.getD 0 []).length := by
  have := List.all_eq_true.1 h ls[i] (List.getElem_mem hi)
  rw [beq_iff_eq] at this
  rw [List.getD_eq_getElem?_getD, List.getElem?_eq_getElem hi]
  exact this
theorem addL_get {n i : Nat} (a b : List (List B)) (wide : Nat) (h : i < n) : (addL n a b wide).getD i [] = addR (a.getD i []) (b.getD i []) wide := getD_range _ _ h
theorem encL_wid {n k i : Nat} (l : List (List B)) (wide : Nat) (h : i < n) : ((encL n k l wide).getD i []).length = wide := by
  unfold encL
  rw [getD_range _ _ h, mixL_len]

theorem codeAlso_any (w : World) (n k : Int) (vh vo : Value) (hs : List (Int × List B)) (ls : List (List B)) (hh : HeldAt w vh hs) (ho : RowsAt w vo ls) (hhl : hs.length ≤ 4500000000000) (hhr : ∀ i, i < hs.length → (hs.getD i (0, [])).2.length ≤ 140737488355328)
    (hll : ls.length ≤ 140737488355328) (hlr : ∀ i, i < ls.length → (ls.getD i []).length ≤ 140737488355328) :
    Calls Try.prog 3 #[.int .i64 n, .int .i64 k, vh, vo] w fun e w' => e = .returned (.bool true) ∧ Below w.heap.size w w' := by
  have HH := Lib.hid hh
  have HO := Lib.hid ho
  have HHR := Lib.hid hhr
  have HLR := Lib.hid hlr
  clear hh ho hhr hlr
  obtain ⟨ph, ch, hvh⟩ : ∃ ph ch, vh = .slice ph hs.length ch := by
    obtain ⟨p, c, e, _⟩ := HH.out
    exact ⟨p, c, e⟩
  subst hvh
  obtain ⟨po, co, hvo⟩ := HO.out.shape
  subst hvo
  go_enter Try.func3, Try.ntmps3
  go_wp2_with fail
  refine (awake_any w).mono ?_
  rintro e w1 ⟨rfl, hB1⟩
  have HB1 := Lib.hid hB1
  have HH1 := Lib.hid (HH.out.below hB1)
  have HO1 := Lib.hid (HO.out.below hB1)
  clear hB1
  by_cases hn : n > 16
  · go_wp2
    go_ret
    exact ⟨rfl, HB1.out⟩
  go_wp2_with fail
  refine (bytesOf_any _ _ hs (by exact HH1.out) hhl).mono ?_
  rintro e w2 ⟨vr, rfl, hri, hB2⟩
  have HR := Lib.hid (hri.rows hB2)
  have HB2 := Lib.hid (bb HB1.out hB2)
  have HH2 := Lib.hid (HH1.out.below hB2)
  have HO2 := Lib.hid (HO1.out.below hB2)
  clear hri hB2
  go_wp2_with fail
  refine (size_any _ _ (hRow hs) (by exact HR.out) (by simp [hRow]; omega) (fun i hi => by
    have hi' : i < hs.length := by simpa [hRow] using hi
    have := HHR.out i hi'
    simpa [hRow, List.getD_eq_getElem?_getD, List.getElem?_eq_getElem hi'] using this)).mono ?_
  rintro e w2' ⟨z, rfl, hz, hzb, rfl⟩
  have HZ := Lib.hid hz
  clear hz
  by_cases hz : (z : Int) > 160
  · go_wp2
    go_ret
    exact ⟨rfl, HB2.out⟩
  have hz1 := HZ.out (by omega)
  go_wp2_with fail
  refine (size_any _ _ ls (by exact HO2.out) hll HLR.out).mono ?_
  rintro e w2' ⟨y, rfl, hy, hyb, rfl⟩
  have HY := Lib.hid hy
  clear hy
  by_cases hy : (y : Int) > 160
  · go_wp2
    go_ret
    exact ⟨rfl, HB2.out⟩
  have hy1 := HY.out (by omega)
  have hhs : hs.length ≤ 160 := by have := hz1.1; simpa [hRow] using this
  have HHW := Lib.hid (show ∀ i, i < hs.length → (hs.getD i (0, [])).2.length ≤ 160 from fun i hi => by
    have := hz1.2 i (by simpa [hRow] using hi)
    simpa [hRow, List.getD_eq_getElem?_getD, List.getElem?_eq_getElem hi] using this)
  have HLW := Lib.hid hy1.2
  have hls := hy1.1
  clear hz1 hy1
  by_cases hbad : k < 1 ∨ n < k ∨ 255 < n
  · have HBD := Lib.hid hbad
    clear hbad
    go_wp2_with fail
    refine (cnew_bad _ n k HBD.out).mono ?_
    rintro e w3 ⟨rfl, rfl⟩
    go_wp2
    go_ret
    exact ⟨rfl, HB2.out⟩
  obtain ⟨kn, rfl⟩ : ∃ kn : Nat, k = (kn : Int) := ⟨k.toNat, by omega⟩
  obtain ⟨nn, rfl⟩ : ∃ nn : Nat, n = (nn : Int) := ⟨n.toNat, by omega⟩
  have b1 : 1 ≤ kn := by omega
  have b2 : kn ≤ nn := by omega
  have b3 : nn ≤ 16 := by omega
  clear hbad
  go_wp2_with fail
  refine (cnew_any _ nn kn b1 b2 (by omega)).mono ?_
  rintro e w3 ⟨bc, bf, vt, rfl, hc, hB3⟩
  have HC3 := Lib.hid hc
  have HB3 := Lib.hid (bb HB2.out hB3)
  have HH3 := Lib.hid (HH2.out.below hB3)
  have HO3 := Lib.hid (HO2.out.below hB3)
  clear hc hB3
  obtain ⟨wide, hwide⟩ : ∃ wide, (hs.getD 0 (0, [])).2.length = wide := ⟨_, rfl⟩
  have HW0 := Lib.hid hwide
  have hwb : wide ≤ 160 := by
    by_cases h : 0 < hs.length
    · have := HHW.out 0 h; omega
    · have e : hs = [] := List.eq_nil_of_length_eq_zero (by omega)
      rw [e] at hwide
      simp at hwide
      omega
  clear hwide
  go_wp2_with fail
  refine (decode_any _ (by exact HC3.out) _ hs wide (by exact HH3.out) (by omega) HW0.out (by omega)).mono ?_
  obtain ⟨de, hde⟩ : ∃ de, decE nn kn hs = de := ⟨_, rfl⟩
  rw [hde]
  have HDE := Lib.hid hde
  clear hde
  rintro e w4 ⟨vs, rfl, hsr, _, hB4⟩
  have HSR := Lib.hid hsr
  have HB4 := Lib.hid (bb HB3.out hB4)
  have HH4 := Lib.hid (HH3.out.below hB4)
  have HO4 := Lib.hid (HO3.out.below hB4)
  have HC4 := Lib.hid (HC3.out.below hB4)
  clear hsr hB4
  by_cases hd : de = 0
  rotate_left
  · have hd1 : (de != 0) = true := by simpa using hd
    go_wp2
    go_ret
    exact ⟨rfl, HB4.out⟩
  subst hd
  have hsr := HSR.out rfl
  have hda := decAt_of HDE.out b2 (by omega) HW0.out
  obtain ⟨D, hD⟩ : ∃ D, decL kn (idxB ((hIdx hs).take kn)) (hRow hs) wide = D := ⟨_, rfl⟩
  rw [hD] at hda hsr
  have HDA := Lib.hid hda
  have HDD := Lib.hid hsr.rows
  have HDL := Lib.hid (show ∀ i, i < D.length → (D.getD i []).length = wide from fun i hi => by rw [hda.len] at hi; exact hda.wid i hi)
  have HLEN := Lib.hid hda.len
  have hmore := hda.more
  have HT := Lib.hid hda.tells
  clear hsr hD hda
  go_wp2_with fail
  refine (encode_any _ (by exact HC4.out) _ D wide (by exact HDD.out) HLEN.out HDL.out (by omega)).mono ?_
  rintro e w5 ⟨vl, rfl, hlo, hB5⟩
  have HE5 := Lib.hid hlo.rows
  have HB5 := Lib.hid (bb HB4.out hB5)
  have HH5 := Lib.hid (HH4.out.below hB5)
  have HO5 := Lib.hid (HO4.out.below hB5)
  have HC5 := Lib.hid (HC4.out.below hB5)
  have HD5 := Lib.hid (HDD.out.below hB5)
  clear hlo hB5
  obtain ⟨pl, cl, hvl⟩ := HE5.out.shape
  rw [encL_len] at hvl
  subst hvl
  go_wp2
  go_loopw [8, 15, 16, 17] (fun v8 i _ _ wr => ∃ m : Nat, m ≤ kn ∧ v8 = .bool false ∧ i = .int .i64 (m : Int) ∧ Below w5.heap.size w5 wr) (fun _ i _ _ _ => kn - (intOf i).toNat)
  case atStart => exact ⟨0, Nat.zero_le _, rfl, rfl, Below.refl _ _⟩
  case round =>
    obtain ⟨m, hm, rfl, rfl, hB⟩ := hrel
    have HBB := Lib.hid hB
    have HH6 := Lib.hid (HH5.out.below hB)
    have HC6 := Lib.hid (HC5.out.below hB)
    have HD6 := Lib.hid (HD5.out.below hB)
    have HE6 := Lib.hid (HE5.out.below hB)
    clear hB
    by_cases hlt : m < kn
    · obtain ⟨ix, hix, hixn, htell⟩ := HT.out m hlt
      have HTELL := Lib.hid htell
      obtain ⟨_, _, eh, hcap, hhc⟩ := HH6.out
      simp only [Value.slice.injEq, true_and] at eh
      obtain ⟨rfl, rfl⟩ := eh
      obtain ⟨gh, oh, rfl, hhd⟩ := hhc (by omega)
      obtain ⟨x1, u, x2, x3⟩ := hhd m (by omega)
      rw [hix] at x1
      have HX3 := Lib.hid x3
      have hlt3 : m < hs.length := by omega
      clear hhc hhd x3 hix htell
      go_wp2_with fail
      refine (sym_any _ (by exact HC6.out) _ D wide (by exact HD6.out) HLEN.out HDL.out (by omega) ix hixn).mono ?_
      rintro e w6 ⟨g, rfl, hrow, hg, hB6⟩
      rw [HTELL.out] at hrow
      obtain ⟨lm, hlm⟩ : ∃ lm, (hs.getD m (0, [])).2.length = lm := ⟨_, rfl⟩
      have HLM := Lib.hid hlm
      have hwm : lm = wide := by rw [← hlm, ← HTELL.out, mixL_len]
      clear hlm
      subst hwm
      have HX := Lib.hid (show BytesAt w6 (.slice (some ⟨g, 0, none⟩) lm lm) (hs.getD m (0, [])).2 by have := hrow.toBytes lm; rw [HLM.out] at this; exact this)
      have HX4 := Lib.hid (HX3.out.below hB6)
      have y1 := (hB6.cell (p := ⟨gh, oh + m * 2, none⟩) (blt x1)).trans x1
      have y2 := (hB6.cell (p := ⟨gh, oh + m * 2 + 1, none⟩) (blt x2)).trans x2
      have HB6 := Lib.hid (bb HBB.out hB6)
      have HE7 := Lib.hid (HE6.out.below hB6)
      clear hrow hB6 x1 x2
      go_wp2_with fail
      refine (sameBytes_any _ _ _ _ (by exact HX.out) (by exact HX4.out) (by rw [HLM.out]; omega)).mono ?_
      rintro e w7 ⟨rfl, n7, rfl⟩
      obtain ⟨_, _, el, hll⟩ := HE7.out
      rw [encL_len] at el hll
      simp only [Value.slice.injEq, true_and] at el
      obtain ⟨rfl, rfl⟩ := el
      obtain ⟨gl, ol, rfl, hlc⟩ := hll (by omega)
      obtain ⟨ul, z1, z2⟩ := hlc ix hixn
      rw [show (encL nn kn D lm).getD ix [] = (hs.getD m (0, [])).2 from (getD_range _ _ hixn).trans HTELL.out] at z2
      have HZ2 := Lib.hid z2
      clear hll hlc z2
      go_wp2_with fail
      refine (sameBytes_any _ _ _ _ (by exact HZ2.out) (by exact HX.out) (by rw [HLM.out]; omega)).mono ?_
      rintro e w8 ⟨rfl, n8, rfl⟩
      go_wp2
      go_roundw
      case rel => exact ⟨m + 1, by omega, rfl, by go_num, HB6.out.trans (((Kept.refl (fun _ => False) _).drewN (n7 + n8)).toBelow (by have := HB6.out.size; exact this) (fun _ h => h.elim))⟩
      case measure => simp [intOf]; omega
    · have HB6 := Lib.hid (bb HB5.out HBB.out)
      have HO6 := Lib.hid (HO5.out.below HBB.out)
      have HE6 := Lib.hid (HE5.out.below HBB.out)
      obtain ⟨e6, hE⟩ : ∃ e, (decide (ls.length = kn) && evenB ls) = e := ⟨_, rfl⟩
      have HEV := Lib.hid hE
      clear hE
      cases e6 with
      | false =>
        go_wp2_with fail
        refine (encode_bad _ (by exact HC6.out) _ ls (by exact HO6.out) (by omega) HEV.out).mono ?_
        rintro e w7 ⟨rfl, hB7⟩
        have HB7 := Lib.hid (bb HB6.out hB7)
        clear hB7
        go_wp2_with fail
        go_quiet (fail)
        go_wp2
        go_ret
        exact ⟨rfl, bdr HB7.out _⟩
      | true =>
        have hev2 : ls.length = kn ∧ evenB ls = true := by simpa using HEV.out
        obtain ⟨hlk, hev3⟩ := hev2
        obtain ⟨wid2, hw2⟩ : ∃ wid2, (ls.getD 0 []).length = wid2 := ⟨_, rfl⟩
        have HLW2 := Lib.hid (show ∀ i, i < ls.length → (ls.getD i []).length = wid2 from fun i hi => by rw [evenB_get hev3 hi, hw2])
        have HW2 := Lib.hid hw2
        have hw2b : wid2 ≤ 160 := by rw [← hw2]; exact HLW.out 0 (by omega)
        clear hw2 hev3
        subst hlk
        go_wp2_with fail
        refine (encode_any _ (by exact HC6.out) _ ls wid2 (by exact HO6.out) rfl HLW2.out (by omega)).mono ?_
        rintro e w7 ⟨vm, rfl, hmo, hB7⟩
        have HM7 := Lib.hid hmo.rows
        have HB7 := Lib.hid (bb HB6.out hB7)
        have HO7 := Lib.hid (HO6.out.below hB7)
        have HE7 := Lib.hid (HE6.out.below hB7)
        have HD7 := Lib.hid (HD6.out.below hB7)
        have HC7 := Lib.hid (HC6.out.below hB7)
        clear hmo hB7
        obtain ⟨pd, cd, hvd⟩ := HD7.out.shape
        rw [HLEN.out] at hvd
        subst hvd
        have HO7' := HO7.out
        obtain ⟨_, _, eo, hoc⟩ := HO7'
        simp only [Value.slice.injEq, true_and] at eo
        obtain ⟨rfl, rfl⟩ := eo
        obtain ⟨go, oo, rfl, hod⟩ := hoc (by omega)
        obtain ⟨uo, x1, x2⟩ := hod 0 (by omega)
        obtain ⟨p1, c1, rfl⟩ := x2.shape
        rw [HLW2.out 0 (by omega), Nat.add_zero] at x1
        have HD7' := HD7.out
        obtain ⟨_, _, ed, hdc⟩ := HD7'
        rw [HLEN.out] at ed hdc
        simp only [Value.slice.injEq, true_and] at ed
        obtain ⟨rfl, rfl⟩ := ed
        obtain ⟨gd, od, rfl, hdd⟩ := hdc (by omega)
        obtain ⟨ud, y1, y2⟩ := hdd 0 (by omega)
        obtain ⟨p2, c2, rfl⟩ := y2.shape
        rw [HDL.out 0 (by rw [HLEN.out]; omega), Nat.add_zero] at y1
        have hl0 : 0 < ls.length := by omega
        have hk0 : 0 < ls.length := by omega
        clear hoc hod x2 hdc hdd y2
        by_cases hww : wid2 = wide
        rotate_left
        · have e1 : ((wid2 : Int) != wide) = true := by rw [bne_cast]; simpa using hww
          have e2 : ¬ (wid2 : Int) = wide := by omega
          go_wp2_with fail
          go_quiet (fail)
          go_wp2
          go_ret
          exact ⟨rfl, bdr HB7.out _⟩
        subst hww
        go_wp2_with fail
        go_quiet (fail)
        have HD8 := Lib.hid (HD7.out.dr nq)
        have HO8 := Lib.hid (HO7.out.dr nq)
        have HE8 := Lib.hid (HE7.out.dr nq)
        have HM8 := Lib.hid (HM7.out.dr nq)
        have HC8 := Lib.hid (HC7.out.dr nq)
        have HB8 := Lib.hid (bdr HB7.out nq)
        generalize (w7.drewN nq) = w8 at *
        go_wp2_with fail
        refine (sum_any _ _ _ D ls ls.length wid2 (by exact HD8.out) (by exact HO8.out) HLEN.out rfl (by omega) (fun i hi => HDL.out i (by rw [HLEN.out]; exact hi)) HLW2.out (by omega)).mono ?_
        rintro e w9 ⟨v9, rfl, hr9, hB9⟩
        have HS9 := Lib.hid hr9.rows
        have HB9 := Lib.hid (bb HB8.out hB9)
        have HE9 := Lib.hid (HE8.out.below hB9)
        have HM9 := Lib.hid (HM8.out.below hB9)
        have HC9 := Lib.hid (HC8.out.below hB9)
        clear hr9 hB9
        go_wp2_with fail
        refine (encode_any _ (by exact HC9.out) _ (addL ls.length D ls wid2) wid2 (by exact HS9.out) (addL_len _ _ _ _) (fun i hi => by
          rw [addL_len] at hi
          rw [addL_get _ _ _ hi, addR_len]) (by omega)).mono ?_
        rintro e w10 ⟨v10, rfl, hr10, hB10⟩
        have HP := Lib.hid hr10.rows
        have HB10 := Lib.hid (bb HB9.out hB10)
        have HE10 := Lib.hid (HE9.out.below hB10)
        have HM10 := Lib.hid (HM9.out.below hB10)
        clear hr10 hB10
        go_wp2_with fail
        refine (sum_any _ _ _ (encL nn ls.length D wid2) (encL nn ls.length ls wid2) nn wid2 (by exact HE10.out) (by exact HM10.out) (encL_len _ _ _ _) (encL_len _ _ _ _) (by omega) (fun i hi => encL_wid _ _ hi) (fun i hi => encL_wid _ _ hi) (by omega)).mono ?_
        rintro e w11 ⟨v11, rfl, hr11, hB11⟩
        have HQ := Lib.hid (show RowsAt w11 v11 (encL nn ls.length (addL ls.length D ls wid2) wid2) by rw [encL_add]; exact hr11.rows)
        have HB11 := Lib.hid (bb HB10.out hB11)
        have HP11 := Lib.hid (HP.out.below hB11)
        clear hr11 hB11
        go_wp2_with fail
        refine (sameRows_any _ _ _ _ (by exact HP11.out) (by exact HQ.out) (by rw [encL_len]; omega) (fun i hi => by
          rw [encL_len] at hi
          rw [encL_wid _ _ hi]; omega)).mono ?_
        rintro e w12 ⟨rfl, n12, rfl⟩
        go_wp2
        go_ret
        exact ⟨rfl, bdr HB11.out _⟩

end Go.Proofs.Ytaaahbpeaamjgaa
