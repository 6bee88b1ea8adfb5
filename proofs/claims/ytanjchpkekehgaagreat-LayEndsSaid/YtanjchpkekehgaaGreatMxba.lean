/-
  Layer 10, walks: the reference's Right.
-/
import Derived.Test.YtanjchpkekehgaaGreatMxaq
namespace Go.Proofs.YtanjchpkekehgaaGreat
open Go.RowKit Go.Maps
set_option linter.unusedVariables false
set_option linter.unusedSimpArgs false
set_option maxRecDepth 100000
set_option maxHeartbeats 4000000

theorem balD (w : World) (q : Nat) : Below w.heap.size w (w.drewN q) := (Kept.refl (fun _ => False) w).drewN q |>.toBelow (Nat.le_refl _) (fun _ h => h.elim)
theorem rtright_any (w : World) (n : Int) (v : Value) (t : List (Int × Int)) (hv : TableAt w v t) :
    Calls Tryz.prog 29 #[.int .i64 n, v] w fun e w' => e = .returned (.bool (decide (TableOk n t))) ∧ Below w.heap.size w w' := by
  obtain ⟨p, cap, rfl, hcap, hh⟩ := hv
  have HH := Lib.hid hh
  have HNT := Lib.hid (fun h => not_table (n := n) (t := t) h)
  have HNR := Lib.hid (fun (i : Nat) (hi : i < t.length) h => not_row (n := n) (t := t) hi h)
  obtain ⟨L, hL⟩ : ∃ L, t.length = L := ⟨_, rfl⟩
  have HL := Lib.hid hL
  rw [hL] at HH HNT HNR hcap ⊢
  clear hh hL
  go_enter Tryz.func29, Tryz.ntmps29
  by_cases hn1 : n < 1
  · go_wp2
    go_ret
    exact ⟨by rw [HNT.out (by omega)]; rfl, Below.refl _ _⟩
  by_cases hn2 : 255 < n
  · go_wp2
    go_ret
    exact ⟨by rw [HNT.out (by omega)]; rfl, Below.refl _ _⟩
  by_cases hn3 : L < 1
  · obtain rfl : L = 0 := by omega
    go_wp2
    go_ret
    exact ⟨by rw [HNT.out (by omega)]; rfl, Below.refl _ _⟩
  by_cases hn4 : 8 < L
  · go_wp2
    go_ret
    exact ⟨by rw [HNT.out (by omega)]; rfl, Below.refl _ _⟩
  go_wp2
  go_loopw [5] (fun i wr => ∃ (k q : Nat), i = .int .i64 (k : Int) ∧ k ≤ L ∧ RowsOk n t k ∧ wr = w.drewN q) (fun i _ => L - (intOf i).toNat)
  case atStart => exact ⟨0, 0, rfl, by omega, fun i hi => absurd hi (by omega), rfl⟩
  case round =>
    obtain ⟨k, q, rfl, hk, hR, rfl⟩ := hrel
    have HR := Lib.hid hR
    clear hR
    by_cases hlt : k < L
    · obtain ⟨g, off, rfl, hc⟩ := HH.out (by omega)
      obtain ⟨d0, d1⟩ := hc k hlt
      obtain ⟨kk, hkk⟩ : ∃ x, (t.getD k (0, 0)).1 = x := ⟨_, rfl⟩
      obtain ⟨ll, hll⟩ : ∃ x, (t.getD k (0, 0)).2 = x := ⟨_, rfl⟩
      obtain ⟨le, hle⟩ : ∃ x, leastT t k = x := ⟨_, rfl⟩
      have HOK := Lib.hid (show RowOk n (leastT t k) (t.getD k (0, 0)) ↔ le ≤ kk ∧ kk ≤ n ∧ 0 ≤ ll ∧ ll ≤ 65535 by unfold RowOk; rw [hkk, hll, hle])
      have HLE := Lib.hid (show 1 ≤ le ∧ (k = 0 → le = 1) from by
        subst hle
        cases k with
        | zero => exact ⟨Int.le_refl _, fun _ => rfl⟩
        | succ j => exact ⟨(HR.out.ge j (by omega)).1, fun h => absurd h (by omega)⟩)
      rw [hkk] at d0
      rw [hll] at d1
      have HD2 := Lib.hid (fun a => balD w a)
      have HD := Lib.hid (fun a => below_more (balD w q) (balD (w.drewN q) a) (Nat.le_refl _))
      go_wp2_with fail
      refine wp_region_quiet_lit (by kernel_rfl) (by kernel_rfl) ?_
      by_cases c1 : kk < 1
      · clear hc hkk hll hle
        iterate 49 (with_reducible refine wpQuiet_step (fun K hK => ?_); go_simp; first | (with_reducible refine hK _ ?_) | (rw [if_neg (by first | (simp [undef]; done) | (simp; omega))]; with_reducible refine hK _ ?_); clear hK K)
        refine wpQuiet_nil ?_
        rintro w5 ⟨nq, rfl⟩
        go_wp2
        go_ret
        exact ⟨by rw [HNR.out k hlt (fun h => by have := HOK.out.1 h; have := HLE.out.1; omega)]; rfl, by first | exact HD.out _ | exact HD2.out _⟩
      by_cases c2 : n < kk
      · clear hc hkk hll hle
        iterate 49 (with_reducible refine wpQuiet_step (fun K hK => ?_); go_simp; first | (with_reducible refine hK _ ?_) | (rw [if_neg (by first | (simp [undef]; done) | (simp; omega))]; with_reducible refine hK _ ?_); clear hK K)
        refine wpQuiet_nil ?_
        rintro w5 ⟨nq, rfl⟩
        go_wp2
        go_ret
        exact ⟨by rw [HNR.out k hlt (fun h => by have := HOK.out.1 h; have := HLE.out.1; omega)]; rfl, by first | exact HD.out _ | exact HD2.out _⟩
      by_cases c3 : ll < 0
      · clear hc hkk hll hle
        iterate 49 (with_reducible refine wpQuiet_step (fun K hK => ?_); go_simp; first | (with_reducible refine hK _ ?_) | (rw [if_neg (by first | (simp [undef]; done) | (simp; omega))]; with_reducible refine hK _ ?_); clear hK K)
        refine wpQuiet_nil ?_
        rintro w5 ⟨nq, rfl⟩
        go_wp2
        go_ret
        exact ⟨by rw [HNR.out k hlt (fun h => by have := HOK.out.1 h; have := HLE.out.1; omega)]; rfl, by first | exact HD.out _ | exact HD2.out _⟩
      by_cases c4 : 65535 < ll
      · clear hc hkk hll hle
        iterate 49 (with_reducible refine wpQuiet_step (fun K hK => ?_); go_simp; first | (with_reducible refine hK _ ?_) | (rw [if_neg (by first | (simp [undef]; done) | (simp; omega))]; with_reducible refine hK _ ?_); clear hK K)
        refine wpQuiet_nil ?_
        rintro w5 ⟨nq, rfl⟩
        go_wp2
        go_ret
        exact ⟨by rw [HNR.out k hlt (fun h => by have := HOK.out.1 h; have := HLE.out.1; omega)]; rfl, by first | exact HD.out _ | exact HD2.out _⟩
      by_cases hk0 : k = 0
      · have hk1 : ¬ (0 : Int) < (k : Int) := by omega
        have HK0 := Lib.hid (show le ≤ 1 from by have := HLE.out.2 hk0; omega)
        clear hk0
        clear hc hkk hll hle
        iterate 49 (with_reducible refine wpQuiet_step (fun K hK => ?_); go_simp; first | (with_reducible refine hK _ ?_) | (rw [if_neg (by first | (simp [undef]; done) | (simp; omega))]; with_reducible refine hK _ ?_); clear hK K)
        refine wpQuiet_nil ?_
        rintro w5 ⟨nq, rfl⟩
        go_wp2
        go_roundw
        case rel => exact ⟨k + 1, _, by go_num, by omega, HR.out.succ (HOK.out.2 (by have := HK0.out; omega)), by first | rfl | rw [World.drewN_drewN]⟩
        case measure => simp [intOf]; omega
      · obtain ⟨j, hjk⟩ : ∃ j, k = j + 1 := ⟨k - 1, by omega⟩
        obtain ⟨d2, _⟩ := hc j (by omega)
        have e2 : (t.getD j (0, 0)).1 = le := by rw [← hle, hjk]; rfl
        rw [e2] at d2
        have hj : IntKind.i64.wrap ((k : Int) - 1) = (j : Int) := by rw [show (k : Int) - 1 = (j : Int) by omega]; exact IntWalk.i64_in _ (by omega)
        have hjl : j < L := by omega
        have hj1 : (0 : Int) < (k : Int) := by omega
        have hj0 : 0 < k := by omega
        clear hjk
        by_cases c5 : kk < le
        · clear hc hkk hll hle e2
          iterate 49 (with_reducible refine wpQuiet_step (fun K hK => ?_); go_simp; first | (with_reducible refine hK _ ?_) | (rw [if_neg]; rotate_left; (first | (simp [undef]; done) | (simp; omega)); with_reducible refine hK _ ?_) | (rw [if_pos]; rotate_left; (simp; omega); go_simp; with_reducible refine hK _ ?_); clear hK K)
          refine wpQuiet_nil ?_
          rintro w5 ⟨nq, rfl⟩
          go_wp2
          go_ret
          exact ⟨by rw [HNR.out k hlt (fun h => by have := HOK.out.1 h; omega)]; rfl, by first | exact HD.out _ | exact HD2.out _⟩
        · clear hc hkk hll hle e2
          iterate 49 (with_reducible refine wpQuiet_step (fun K hK => ?_); go_simp; first | (with_reducible refine hK _ ?_) | (rw [if_neg]; rotate_left; (first | (simp [undef]; done) | (simp; omega)); with_reducible refine hK _ ?_) | (rw [if_pos]; rotate_left; (simp; omega); go_simp; with_reducible refine hK _ ?_); clear hK K)
          refine wpQuiet_nil ?_
          rintro w5 ⟨nq, rfl⟩
          go_wp2
          go_roundw
          case rel => exact ⟨k + 1, _, by go_num, by omega, HR.out.succ (HOK.out.2 (by omega)), by first | rfl | rw [World.drewN_drewN]⟩
          case measure => simp [intOf]; omega
    · obtain rfl : k = L := by omega
      have HD := Lib.hid (show decide (TableOk n t) = true from decide_eq_true ⟨by omega, by omega, by rw [HL.out]; omega, by rw [HL.out]; omega, by rw [HL.out]; exact HR.out⟩)
      have HB := Lib.hid (balD w q)
      go_wp2
      go_ret
      exact ⟨by rw [HD.out]; rfl, HB.out⟩
end Go.Proofs.YtanjchpkekehgaaGreat
