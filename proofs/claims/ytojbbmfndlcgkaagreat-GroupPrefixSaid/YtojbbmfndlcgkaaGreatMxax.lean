/-
  Layer 10, walks: whether rows are a table (the program's, the reference's).
-/
import Derived.Test.YtojbbmfndlcgkaaGreatMxaw
namespace Go.Proofs.YtojbbmfndlcgkaaGreat
open Go.RowKit Go.Maps
set_option linter.unusedVariables false
set_option linter.unusedSimpArgs false
set_option maxRecDepth 100000
set_option maxHeartbeats 2000000

theorem balT (w : World) (x : Obj) : Below w.heap.size w (w.alloc x) := (Kept.alloc (fun _ => False) w x).toBelow (Nat.le_refl _) (fun _ h => h.elim)
theorem not_table {n : Int} {t : List (Int × Int)} (h : n < 1 ∨ 255 < n ∨ t.length < 1 ∨ 8 < t.length) : decide (TableOk n t) = false := by
  refine decide_eq_false fun h2 => ?_
  obtain ⟨a, b, c, d, _⟩ := h2
  omega
theorem not_row {n : Int} {t : List (Int × Int)} {i : Nat} (hi : i < t.length) (h : ¬ RowOk n (leastT t i) (t.getD i (0, 0))) : decide (TableOk n t) = false := decide_eq_false fun h2 => h (h2.2.2.2.2 i hi)

theorem tright_any (w : World) (n : Int) (v : Value) (t : List (Int × Int)) (hv : TableAt w v t) :
    Calls Tryz.prog 17 #[.int .i64 n, v] w fun e w' => e = .returned (.bool (decide (TableOk n t))) ∧ Below w.heap.size w w' := by
  obtain ⟨p, cap, rfl, hcap, hh⟩ := hv
  have HH := Lib.hid hh
  have HNT := Lib.hid (fun h => not_table (n := n) (t := t) h)
  have HNR := Lib.hid (fun (i : Nat) (hi : i < t.length) h => not_row (n := n) (t := t) hi h)
  obtain ⟨L, hL⟩ : ∃ L, t.length = L := ⟨_, rfl⟩
  have HL := Lib.hid hL
  rw [hL] at HH HNT HNR hcap ⊢
  clear hh hL
  go_enter Tryz.func17, Tryz.ntmps17
  by_cases hn1 : n < 1
  · go_wp2
    go_ret
    exact ⟨by rw [HNT.out (by omega)]; rfl, Below.refl _ _⟩
  by_cases hn2 : 255 < n
  · go_wp2
    go_ret
    exact ⟨by rw [HNT.out (by omega)]; rfl, Below.refl _ _⟩
  by_cases hn3 : L < 1
  · obtain rfl : L = 0 := by omega
    go_wp2
    go_ret
    exact ⟨by rw [HNT.out (by omega)]; rfl, Below.refl _ _⟩
  by_cases hn4 : 8 < L
  · go_wp2
    go_ret
    exact ⟨by rw [HNT.out (by omega)]; rfl, Below.refl _ _⟩
  go_wp2
  go_loopw [5, 7, 26] (fun l _ i wr => ∃ k : Nat, i = .int .i64 (k : Int) ∧ k ≤ L ∧ l = .int .i64 (leastT t k) ∧ RowsOk n t k ∧ Below w.heap.size w wr) (fun _ _ i _ => L - (intOf i).toNat)
  case atStart => exact ⟨0, rfl, by omega, rfl, fun i hi => absurd hi (by omega), Below.refl _ _⟩
  case round =>
    obtain ⟨wo, rfl⟩ : ∃ wo, wo = wr := ⟨_, rfl⟩
    obtain ⟨k, rfl, hk, rfl, hR, hB⟩ := hrel
    have HR := Lib.hid hR
    have HB := Lib.hid hB
    clear hR hB
    by_cases hlt : k < L
    · obtain ⟨g, off, rfl, hc⟩ := HH.out (by omega)
      obtain ⟨d0, d1⟩ := hc k hlt
      have d0 := (HB.out.cell (p := ⟨g, off + k * 2, none⟩) (blt d0)).trans d0
      have d1 := (HB.out.cell (p := ⟨g, off + k * 2 + 1, none⟩) (blt d1)).trans d1
      have HLS := Lib.hid (show leastT t (k + 1) = (t.getD k (0, 0)).1 from rfl)
      obtain ⟨kk, hkk⟩ : ∃ q, (t.getD k (0, 0)).1 = q := ⟨_, rfl⟩
      obtain ⟨ll, hll⟩ : ∃ q, (t.getD k (0, 0)).2 = q := ⟨_, rfl⟩
      obtain ⟨le, hle⟩ : ∃ q, leastT t k = q := ⟨_, rfl⟩
      have HOK := Lib.hid (show RowOk n (leastT t k) (t.getD k (0, 0)) ↔ le ≤ kk ∧ kk ≤ n ∧ 0 ≤ ll ∧ ll ≤ 65535 by unfold RowOk; rw [hkk, hll, hle])
      rw [hkk] at d0 HLS
      rw [hll] at d1
      have HB2 := Lib.hid (show Below w.heap.size w (wo.alloc (.cells #[.int .i64 kk, .int .i64 ll] 46)) from HB.out.alloc HB.out.size _)
      rw [hle]
      clear hc hkk hll hle
      by_cases c1 : kk < le
      · go_wp2
        go_ret
        exact ⟨by rw [HNR.out k hlt (fun h => by have := HOK.out.1 h; omega)]; rfl, HB2.out⟩
      by_cases c2 : n < kk
      · go_wp2
        go_ret
        exact ⟨by rw [HNR.out k hlt (fun h => by have := HOK.out.1 h; omega)]; rfl, HB2.out⟩
      by_cases c3 : ll < 0
      · go_wp2
        go_ret
        exact ⟨by rw [HNR.out k hlt (fun h => by have := HOK.out.1 h; omega)]; rfl, HB2.out⟩
      by_cases c4 : 65535 < ll
      · go_wp2
        go_ret
        exact ⟨by rw [HNR.out k hlt (fun h => by have := HOK.out.1 h; omega)]; rfl, HB2.out⟩
      go_wp2
      go_roundw
      case rel => exact ⟨k + 1, by go_num, by omega, by rw [HLS.out], HR.out.succ (HOK.out.2 (by omega)), HB2.out⟩
      case measure => simp [intOf]; omega
    · obtain rfl : k = L := by omega
      have HD := Lib.hid (show decide (TableOk n t) = true from decide_eq_true ⟨by omega, by omega, by rw [HL.out]; omega, by rw [HL.out]; omega, by rw [HL.out]; exact HR.out⟩)
      go_wp2
      go_ret
      exact ⟨by rw [HD.out]; rfl, HB.out⟩
end Go.Proofs.YtojbbmfndlcgkaaGreat
