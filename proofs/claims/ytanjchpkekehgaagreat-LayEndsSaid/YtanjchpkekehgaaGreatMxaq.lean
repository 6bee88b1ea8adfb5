/-
  LayD: Layer 10, walks: widths (the program's, the reference's); whether rows are a table.
  LayE: Layer 10, walks: whether rows are a table (the program's, the reference's).
-/
import Derived.Test.YtanjchpkekehgaaGreatMxap
namespace Go.Proofs.YtanjchpkekehgaaGreat

section -- LayD
open Go.RowKit Go.Maps
set_option linter.unusedVariables false
set_option linter.unusedSimpArgs false
set_option maxRecDepth 100000
set_option maxHeartbeats 2000000

theorem width_any (w : World) (long k : Nat) (h1 : long ≤ 65535) (h2 : 1 ≤ k) (h3 : k ≤ 255) :
    Calls Tryz.prog 59 #[.int .i64 (long : Int), .int .i64 (k : Int)] w fun e w' => e = .returned (.tuple #[.int .i64 ((wdN long k : Nat) : Int), .int .i64 0]) ∧ w = w' := by
  have HW := Lib.hid (show ((long : Int) + (k : Int) - 1).tdiv (k : Int) = ((wdN long k : Nat) : Int) by
    unfold wdN
    rw [show (long : Int) + (k : Int) - 1 = ((long + k - 1 : Nat) : Int) by omega, ← Int.ofNat_tdiv])
  have HW2 := Lib.hid (show ((long : Int) + (k : Int) - 1) / (k : Int) = ((wdN long k : Nat) : Int) by
    unfold wdN
    rw [show (long : Int) + (k : Int) - 1 = ((long + k - 1 : Nat) : Int) by omega, ← Int.natCast_ediv])
  go_enter Tryz.func59, Tryz.ntmps59
  go_wp2
  first | rw [HW.out] | rw [HW2.out]
  go_ret2
  exact ⟨rfl, rfl⟩
theorem rwidth9_any (w : World) (long k : Nat) (h1 : long ≤ 65535) (h2 : 1 ≤ k) (h3 : k ≤ 255) :
    Calls Tryz.prog 50 #[.int .i64 (long : Int), .int .i64 (k : Int)] w fun e w' => e = .returned (.tuple #[.int .i64 ((wdN long k : Nat) : Int), .int .i64 0]) ∧ w = w' := by
  have hd : long / k * k ≤ long := Nat.div_mul_le_self _ _
  have hd2 : long / k ≤ long := Nat.div_le_self _ _
  have HQ := Lib.hid (show (long : Int) / (k : Int) = ((long / k : Nat) : Int) by rw [Int.natCast_ediv])
  obtain ⟨q, hq⟩ : ∃ q, long / k = q := ⟨_, rfl⟩
  rw [hq] at hd hd2 HQ
  clear hq
  go_enter Tryz.func50, Tryz.ntmps50
  go_wp2
  rw [HQ.out]
  go_loopw [6] (fun i wr => ∃ v : Nat, i = .int .i64 (v : Int) ∧ v ≤ long + 1 ∧ v * k < long + k ∧ w = wr) (fun i _ => long + 1 - (intOf i).toNat)
  case atStart => exact ⟨q, by rw [show wrap64 ((q : Nat) : Int) = (q : Int) from IntWalk.wrap64_in _ (by omega)], by omega, by omega, by first | rfl | trivial⟩
  case round =>
    obtain ⟨v, rfl, hv, hvk, rfl⟩ := hrel
    have e : (v : Int) * (k : Int) = ((v * k : Nat) : Int) := by rw [Int.natCast_mul]
    have e2 : IntKind.i64.wrap ((v : Int) * (k : Int)) = ((v * k : Nat) : Int) := by rw [e]; exact IntWalk.i64_in _ (by omega)
    obtain ⟨p, hp⟩ : ∃ p, v * k = p := ⟨_, rfl⟩
    have hpv : v ≤ p := by rw [← hp]; exact Nat.le_mul_of_pos_right v h2
    by_cases hlt : v * k < long
    · have hs : (v + 1) * k < long + k := by rw [Nat.add_mul, Nat.one_mul]; omega
      have HS := Lib.hid hs
      rw [hp] at e2 hlt hvk
      clear hp e hs hd
      go_wp2
      go_roundw
      case rel => exact ⟨v + 1, by go_num, by omega, HS.out, by first | rfl | trivial⟩
      case measure => simp [intOf]; omega
    · have hu := wdN_unique h2 (by omega) hvk
      rw [hp] at e2 hlt hvk
      clear hp e hd
      subst hu
      go_wp2
      go_ret2
      exact ⟨rfl, rfl⟩
/-- The reference's width of a row. -/
theorem rwidth_any (w : World) (r : Int × Int) (n : Int) (h1 : 1 ≤ r.1) (h2 : r.1 ≤ 255) (h3 : 0 ≤ r.2) (h4 : r.2 ≤ 65535) :
    Calls Tryz.prog 43 #[.agg #[.int .i64 r.1, .int .i64 r.2]] w fun e w' => e = .returned (.int .i64 ((wdT r : Nat) : Int)) ∧ Below w.heap.size w w' := by
  obtain ⟨k, hk⟩ : ∃ k : Nat, r.1 = (k : Int) := ⟨r.1.toNat, by omega⟩
  obtain ⟨l, hl⟩ : ∃ l : Nat, r.2 = (l : Int) := ⟨r.2.toNat, by omega⟩
  have e : wdT r = wdN l k := by unfold wdT; rw [hk, hl]; rfl
  rw [hk] at h1 h2
  rw [hl] at h3 h4
  rw [e, hk, hl]
  have HW := Lib.hid (fun W => rwidth9_any W l k (by omega) (by omega) (by omega))
  have HB := Lib.hid ((Kept.alloc (fun _ => False) w (.cells #[.int .i64 (k : Int), .int .i64 (l : Int)] 48)).toBelow (Nat.le_refl _) (fun _ h => h.elim))
  clear e hk hl
  go_enter Tryz.func43, Tryz.ntmps43
  go_wp2_with fail
  refine (HW.out _).mono ?_
  rintro e w' ⟨rfl, rfl⟩
  go_wp2
  go_ret
  exact ⟨rfl, HB.out⟩
end -- LayD

section -- LayE
open Go.RowKit Go.Maps
set_option linter.unusedVariables false
set_option linter.unusedSimpArgs false
set_option maxRecDepth 100000
set_option maxHeartbeats 2000000

theorem balT (w : World) (x : Obj) : Below w.heap.size w (w.alloc x) := (Kept.alloc (fun _ => False) w x).toBelow (Nat.le_refl _) (fun _ h => h.elim)
theorem not_table {n : Int} {t : List (Int × Int)} (h : n < 1 ∨ 255 < n ∨ t.length < 1 ∨ 8 < t.length) : decide (TableOk n t) = false := by
  refine decide_eq_false fun h2 => ?_
  obtain ⟨a, b, c, d, _⟩ := h2
  omega
theorem not_row {n : Int} {t : List (Int × Int)} {i : Nat} (hi : i < t.length) (h : ¬ RowOk n (leastT t i) (t.getD i (0, 0))) : decide (TableOk n t) = false := decide_eq_false fun h2 => h (h2.2.2.2.2 i hi)

theorem tright_any (w : World) (n : Int) (v : Value) (t : List (Int × Int)) (hv : TableAt w v t) :
    Calls Tryz.prog 27 #[.int .i64 n, v] w fun e w' => e = .returned (.bool (decide (TableOk n t))) ∧ Below w.heap.size w w' := by
  obtain ⟨p, cap, rfl, hcap, hh⟩ := hv
  have HH := Lib.hid hh
  have HNT := Lib.hid (fun h => not_table (n := n) (t := t) h)
  have HNR := Lib.hid (fun (i : Nat) (hi : i < t.length) h => not_row (n := n) (t := t) hi h)
  obtain ⟨L, hL⟩ : ∃ L, t.length = L := ⟨_, rfl⟩
  have HL := Lib.hid hL
  rw [hL] at HH HNT HNR hcap ⊢
  clear hh hL
  go_enter Tryz.func27, Tryz.ntmps27
  by_cases hn1 : n < 1
  · go_wp2
    go_ret
    exact ⟨by rw [HNT.out (by omega)]; rfl, Below.refl _ _⟩
  by_cases hn2 : 255 < n
  · go_wp2
    go_ret
    exact ⟨by rw [HNT.out (by omega)]; rfl, Below.refl _ _⟩
  by_cases hn3 : L < 1
  · obtain rfl : L = 0 := by omega
    go_wp2
    go_ret
    exact ⟨by rw [HNT.out (by omega)]; rfl, Below.refl _ _⟩
  by_cases hn4 : 8 < L
  · go_wp2
    go_ret
    exact ⟨by rw [HNT.out (by omega)]; rfl, Below.refl _ _⟩
  go_wp2
  go_loopw [5, 7, 26] (fun l _ i wr => ∃ k : Nat, i = .int .i64 (k : Int) ∧ k ≤ L ∧ l = .int .i64 (leastT t k) ∧ RowsOk n t k ∧ Below w.heap.size w wr) (fun _ _ i _ => L - (intOf i).toNat)
  case atStart => exact ⟨0, rfl, by omega, rfl, fun i hi => absurd hi (by omega), Below.refl _ _⟩
  case round =>
    obtain ⟨wo, rfl⟩ : ∃ wo, wo = wr := ⟨_, rfl⟩
    obtain ⟨k, rfl, hk, rfl, hR, hB⟩ := hrel
    have HR := Lib.hid hR
    have HB := Lib.hid hB
    clear hR hB
    by_cases hlt : k < L
    · obtain ⟨g, off, rfl, hc⟩ := HH.out (by omega)
      obtain ⟨d0, d1⟩ := hc k hlt
      have d0 := (HB.out.cell (p := ⟨g, off + k * 2, none⟩) (blt d0)).trans d0
      have d1 := (HB.out.cell (p := ⟨g, off + k * 2 + 1, none⟩) (blt d1)).trans d1
      have HLS := Lib.hid (show leastT t (k + 1) = (t.getD k (0, 0)).1 from rfl)
      obtain ⟨kk, hkk⟩ : ∃ q, (t.getD k (0, 0)).1 = q := ⟨_, rfl⟩
      obtain ⟨ll, hll⟩ : ∃ q, (t.getD k (0, 0)).2 = q := ⟨_, rfl⟩
      obtain ⟨le, hle⟩ : ∃ q, leastT t k = q := ⟨_, rfl⟩
      have HOK := Lib.hid (show RowOk n (leastT t k) (t.getD k (0, 0)) ↔ le ≤ kk ∧ kk ≤ n ∧ 0 ≤ ll ∧ ll ≤ 65535 by unfold RowOk; rw [hkk, hll, hle])
      rw [hkk] at d0 HLS
      rw [hll] at d1
      have HB2 := Lib.hid (show Below w.heap.size w (wo.alloc (.cells #[.int .i64 kk, .int .i64 ll] 48)) from HB.out.alloc HB.out.size _)
      rw [hle]
      clear hc hkk hll hle
      by_cases c1 : kk < le
      · go_wp2
        go_ret
        exact ⟨by rw [HNR.out k hlt (fun h => by have := HOK.out.1 h; omega)]; rfl, HB2.out⟩
      by_cases c2 : n < kk
      · go_wp2
        go_ret
        exact ⟨by rw [HNR.out k hlt (fun h => by have := HOK.out.1 h; omega)]; rfl, HB2.out⟩
      by_cases c3 : ll < 0
      · go_wp2
        go_ret
        exact ⟨by rw [HNR.out k hlt (fun h => by have := HOK.out.1 h; omega)]; rfl, HB2.out⟩
      by_cases c4 : 65535 < ll
      · go_wp2
        go_ret
        exact ⟨by rw [HNR.out k hlt (fun h => by have := HOK.out.1 h; omega)]; rfl, HB2.out⟩
      go_wp2
      go_roundw
      case rel => exact ⟨k + 1, by go_num, by omega, by rw [HLS.out], HR.out.succ (HOK.out.2 (by omega)), HB2.out⟩
      case measure => simp [intOf]; omega
    · obtain rfl : k = L := by omega
      have HD := Lib.hid (show decide (TableOk n t) = true from decide_eq_true ⟨by omega, by omega, by rw [HL.out]; omega, by rw [HL.out]; omega, by rw [HL.out]; exact HR.out⟩)
      go_wp2
      go_ret
      exact ⟨by rw [HD.out]; rfl, HB.out⟩
end -- LayE

end Go.Proofs.YtanjchpkekehgaaGreat
