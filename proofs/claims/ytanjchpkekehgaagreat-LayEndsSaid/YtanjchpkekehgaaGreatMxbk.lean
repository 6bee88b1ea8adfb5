/-
  Walks of the kit: KeptInts.
-/
import Derived.Test.YtanjchpkekehgaaGreatMxbj
namespace Go.Proofs.YtanjchpkekehgaaGreat
open Go.RowKit Go.Maps
set_option linter.unusedVariables false
set_option maxRecDepth 100000
set_option maxHeartbeats 2000000

theorem keptI_any (w : World) (va vb : Value) (l : List Int) (base : Nat) (ha : IntLentAt w base va l) (hb : IntsAt w vb l) (hl : l.length ≤ 1000000) :
    Calls Tryz.prog 14 #[va, vb] w fun e w' => e = .returned (.bool true) ∧ ∃ q, w' = w.drewN q := by
  obtain ⟨ga, ca, rfl, hcap, hgl, hrow⟩ := ha.cells
  obtain ⟨pb, cb, rfl, hcb0, hhb⟩ := hb
  have HHB := Lib.hid hhb
  have hlen : (l ++ behindI 12).length = l.length + 12 := by rw [List.length_append, behindI_len]
  have HLEN := Lib.hid hlen
  have HRW := Lib.hid hrow
  have HLo := Lib.hid (show ∀ i, i < l.length → (l ++ behindI 12).getD i 0 = l.getD i 0 from fun i hi => by
    rw [List.getD_eq_getElem?_getD, List.getD_eq_getElem?_getD, List.getElem?_append_left hi])
  have HHi := Lib.hid (show ∀ j, j < 12 → (l ++ behindI 12).getD (l.length + j) 0 = ((mkN 1 j : Nat) : Int) from fun j hj => by
    rw [List.getD_eq_getElem?_getD, List.getElem?_append_right (by omega), show l.length + j - l.length = j by omega, ← List.getD_eq_getElem?_getD]
    exact getD_range _ _ hj)
  obtain ⟨n, hn⟩ : ∃ n, l.length = n := ⟨_, rfl⟩
  rw [hn] at HHB hcap HLo HHi hl HLEN HRW hcb0 ⊢
  clear hhb hrow hlen hn ha
  go_enter Tryz.func14, Tryz.ntmps14
  go_wp2
  go_loopw [6] (fun i wr => ∃ (k q : Nat), k ≤ n + 12 ∧ i = .int .i64 (k : Int) ∧ wr = w.drewN q) (fun i _ => n + 12 - (intOf i).toNat)
  case atStart => exact ⟨0, 0, by omega, rfl, rfl⟩
  case round =>
    obtain ⟨k, q, hk, rfl, rfl⟩ := hrel
    by_cases hlt : k < n + 12
    · have d1 := HRW.out k hlt
      by_cases h1 : k < n
      · obtain ⟨gb, ob, rfl, hcb⟩ := HHB.out (by omega)
        have d2 := hcb k h1
        rw [HLo.out k h1] at d1
        obtain ⟨x, hx⟩ : ∃ x, l.getD k 0 = x := ⟨_, rfl⟩
        rw [hx] at d1 d2
        have hk2 : ¬ n ≤ k := by omega
        have hk3 : ¬ (n : Int) ≤ (k : Int) := by omega
        clear hcb hx
        go_wp2_with fail
        go_quiet (fail)
        go_wp2
        go_roundw
        case rel => exact ⟨k + 1, _, by omega, by go_num, by first | rfl | rw [World.drewN_drewN]⟩
        case measure => simp [intOf]; omega
      · obtain ⟨j, hj⟩ : ∃ j, k = n + j := ⟨k - n, by omega⟩
        have e := HHi.out j (by omega)
        rw [← hj] at e
        rw [e] at d1
        have hk2 : n ≤ k := by omega
        have hk3 : (n : Int) ≤ (k : Int) := by omega
        have hk4 : IntKind.i64.wrap ((k : Int) - (n : Int)) = (j : Int) := by rw [show (k : Int) - (n : Int) = (j : Int) by omega]; exact IntWalk.i64_in _ (by omega)
        have hj2 : j ≤ 1000000 := by omega
        have HM := Lib.hid (fun W => mark_any W 1 j (by omega) hj2)
        obtain ⟨b, hb⟩ : ∃ b, mkN 1 j = b := ⟨_, rfl⟩
        rw [hb] at HM d1
        clear hj e hb
        go_wp2_with fail
        refine wp_region_quiet_lit (by kernel_rfl) (by kernel_rfl) ?_
        iterate 5 (quiet_step (fail))
        iterate 10 (with_reducible refine wpQuiet_step (fun K hK => ?_); go_simp; with_reducible refine hK _ ?_; clear hK K)
        repeat (quiet_step ((go_at_call 26; exact q_add_same (HM.out _))))
        refine wpQuiet_nil ?_
        rintro w5 ⟨nq, rfl⟩
        go_wp2
        go_roundw
        case rel => exact ⟨k + 1, _, by omega, by go_num, by first | rfl | rw [World.drewN_drewN]⟩
        case measure => simp [intOf]; omega
    · obtain rfl : k = n + 12 := by omega
      go_wp2
      go_ret
      exact ⟨rfl, q, rfl⟩

end Go.Proofs.YtanjchpkekehgaaGreat
