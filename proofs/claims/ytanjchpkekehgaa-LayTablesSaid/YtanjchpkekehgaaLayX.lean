/-
  LayTables: the walk.
-/
import Derived.Test.YtanjchpkekehgaaMxbi
import Derived.Test.YtanjchpkekehgaaMxbo
namespace Go.Proofs.Ytanjchpkekehgaa
open Go.RowKit Go.Maps
set_option linter.unusedVariables false
set_option linter.unusedSimpArgs false
set_option maxRecDepth 100000
set_option maxHeartbeats 4000000

theorem long_any (w : World) (n : Int) (v : Value) (t : List (Int × Int)) (hv : TableAt w v t) :
    Calls Try.prog 8 #[.int .i64 n, v] w fun e w' => e = .returned (.tuple #[.int .i64 (longV n t), .int .i64 (tabE n t)]) ∧ Below w.heap.size w w' := by
  by_cases h : TableOk n t
  · refine (long_ok w n v t hv h).mono ?_
    rintro e w' ⟨rfl, hB⟩
    exact ⟨by rw [longV, tabE, if_pos h, if_pos h], hB⟩
  · refine (long_bad w n v t hv h).mono ?_
    rintro e w' ⟨rfl, hB⟩
    exact ⟨by rw [longV, tabE, if_neg h, if_neg h], hB⟩

theorem layTables_any (w : World) (n came : Int) (v : Value) (t : List (Int × Int)) (hv : TableAt w v t) :
    Calls Try.prog 3 #[.int .i64 n, v, .int .i64 came] w fun e w' => e = .returned (.bool true) ∧ Below w.heap.size w w' := by
  have HV := Lib.hid hv
  have HL0 := Lib.hid (fun h => lentT_any w v t hv h)
  obtain ⟨p, c, rfl, hcap, hh⟩ := hv
  obtain ⟨m, hm⟩ : ∃ m, t.length = m := ⟨_, rfl⟩
  rw [hm] at HV HL0 ⊢
  have HM := Lib.hid hm
  clear hcap hh hm
  go_enter Try.func3, Try.ntmps3
  by_cases hlt : 300 < m
  · have hlt' : (300 : Int) < (m : Int) := by omega
    go_wp2_with fail
    refine (lawake_any w).mono ?_
    rintro e w1 ⟨rfl, hB1⟩
    go_wp2
    go_ret
    exact ⟨rfl, hB1⟩
  · have hlt' : ¬ (300 : Int) < (m : Int) := by omega
    go_wp2_with fail
    refine (HL0.out (by omega)).mono ?_
    rintro e w1 ⟨vt, rfl, ht, hB1⟩
    have HB1 := Lib.hid hB1
    have HT1 := Lib.hid ht
    have HV1 := Lib.hid (HV.out.below hB1)
    clear ht hB1
    go_wp2_with fail
    refine (long_any w1 n _ t HT1.out.tab).mono ?_
    rintro e w2 ⟨rfl, hB2⟩
    have HB2 := Lib.hid (below_more HB1.out hB2 HB1.out.size)
    have HT2 := Lib.hid (HT1.out.below hB2)
    have HV2 := Lib.hid (HV1.out.below hB2)
    clear hB2
    go_wp2_with fail
    refine (rlong_any w2 n _ t HV2.out).mono ?_
    rintro e w3 ⟨rfl, hB3⟩
    have HB3 := Lib.hid (below_more HB2.out hB3 HB2.out.size)
    have HT3 := Lib.hid (HT2.out.below hB3)
    have HV3 := Lib.hid (HV2.out.below hB3)
    clear hB3
    go_wp2_with fail
    refine (ready_any w3 n came _ t HT3.out.tab).mono ?_
    rintro e w4 ⟨rfl, hB4⟩
    have HB4 := Lib.hid (below_more HB3.out hB4 HB3.out.size)
    have HT4 := Lib.hid (HT3.out.below hB4)
    have HV4 := Lib.hid (HV3.out.below hB4)
    clear hB4
    go_wp2_with fail
    refine (rready_any w4 n came _ t HV4.out).mono ?_
    rintro e w5 ⟨rfl, hB5⟩
    have HB5 := Lib.hid (below_more HB4.out hB5 HB4.out.size)
    have HT5 := Lib.hid (HT4.out.below hB5)
    have HV5 := Lib.hid (HV4.out.below hB5)
    clear hB5
    go_wp2_with fail
    refine (tright_any w5 n _ t HT5.out.tab).mono ?_
    rintro e w6 ⟨rfl, hB6⟩
    have HB6 := Lib.hid (below_more HB5.out hB6 HB5.out.size)
    have HT6 := Lib.hid (HT5.out.below hB6)
    have HV6 := Lib.hid (HV5.out.below hB6)
    clear hB6
    go_wp2_with fail
    refine (rtright_any w6 n _ t HV6.out).mono ?_
    rintro e w7 ⟨rfl, hB7⟩
    have HB7 := Lib.hid (below_more HB6.out hB7 HB6.out.size)
    have HT7 := Lib.hid (HT6.out.below hB7)
    have HV7 := Lib.hid (HV6.out.below hB7)
    clear hB7
    go_wp2_with fail
    refine (keptT_any w7 _ _ t _ HT7.out HV7.out (by rw [HM.out]; omega)).mono ?_
    rintro e w8 ⟨rfl, hB8⟩
    have HB8 := Lib.hid (below_more HB7.out hB8 HB7.out.size)
    clear hB8
    go_wp2_with fail
    refine (lawake_any w8).mono ?_
    rintro e w9 ⟨rfl, hB9⟩
    have HB9 := Lib.hid (below_more HB8.out hB9 HB8.out.size)
    clear hB9
    go_wp2
    go_ret
    exact ⟨rfl, HB9.out⟩
end Go.Proofs.Ytanjchpkekehgaa
