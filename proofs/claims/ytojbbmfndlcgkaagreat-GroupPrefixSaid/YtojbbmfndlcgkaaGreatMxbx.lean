/-
  What the laws of layer 5 use: SameBytes, SameRows (of what is the same), size, bytesOf.
-/
import Derived.Test.YtojbbmfndlcgkaaGreatMxau
namespace Go.Proofs.YtojbbmfndlcgkaaGreat
open Go.RowKit Go.Maps
set_option linter.unusedVariables false
set_option maxRecDepth 100000
set_option maxHeartbeats 2000000

theorem sameBytes_any (w : World) (va vb : Value) (l : List B) (ha : BytesAt w va l) (hb : BytesAt w vb l) (hl : l.length ≤ 1000000000000) :
    Calls Tryz.prog 26 #[va, vb] w fun e w' => e = .returned (.bool true) ∧ ∃ n, w' = w.drewN n := by
  obtain ⟨pa, ca, rfl, hha⟩ := ha
  obtain ⟨pb, cb, rfl, hhb⟩ := hb
  have HA := Lib.hid hha
  have HB := Lib.hid hhb
  clear hha hhb
  go_enter Tryz.func26, Tryz.ntmps26
  go_wp2
  go_loopw [5] (fun i wr => ∃ (k n : Nat), k ≤ l.length ∧ i = .int .i64 (k : Int) ∧ wr = w.drewN n) (fun i _ => l.length - (intOf i).toNat)
  case atStart => exact ⟨0, 0, Nat.zero_le _, rfl, rfl⟩
  case round =>
    obtain ⟨k, n, hk, rfl, rfl⟩ := hrel
    by_cases hlt : k < l.length
    · obtain ⟨ga, oa, rfl, hca⟩ := HA.out (by omega)
      obtain ⟨gb, ob, rfl, hcb⟩ := HB.out (by omega)
      have x := hca k hlt
      have y := hcb k hlt
      obtain ⟨z, hz⟩ : ∃ z, l.getD k 0 = z := ⟨_, rfl⟩
      rw [hz] at x y
      clear hca hcb hz
      go_wp2_with fail
      go_quiet (fail)
      go_wp2
      go_roundw
      case rel => exact ⟨k + 1, _, by omega, by go_num, rfl⟩
      case measure => simp [intOf]; omega
    · go_wp2
      go_ret
      exact ⟨rfl, n, rfl⟩

theorem sameRows_any (w : World) (va vb : Value) (ls : List (List B)) (ha : RowsAt w va ls) (hb : RowsAt w vb ls) (hl : ls.length ≤ 1000000000000) (hr : ∀ i, i < ls.length → (ls.getD i []).length ≤ 1000000000000) :
    Calls Tryz.prog 14 #[va, vb] w fun e w' => e = .returned (.bool true) ∧ ∃ n, w' = w.drewN n := by
  obtain ⟨pa, ca, rfl, hha⟩ := ha
  obtain ⟨pb, cb, rfl, hhb⟩ := hb
  have HA := Lib.hid hha
  have HB := Lib.hid hhb
  have HR := Lib.hid hr
  clear hha hhb hr
  go_enter Tryz.func14, Tryz.ntmps14
  go_wp2
  go_loopw [5] (fun i wr => ∃ (k n : Nat), k ≤ ls.length ∧ i = .int .i64 (k : Int) ∧ wr = w.drewN n) (fun i _ => ls.length - (intOf i).toNat)
  case atStart => exact ⟨0, 0, Nat.zero_le _, rfl, rfl⟩
  case round =>
    obtain ⟨k, n, hk, rfl, rfl⟩ := hrel
    by_cases hlt : k < ls.length
    · obtain ⟨ga, oa, rfl, hca⟩ := HA.out (by omega)
      obtain ⟨gb, ob, rfl, hcb⟩ := HB.out (by omega)
      obtain ⟨ua, x, xa⟩ := hca k hlt
      obtain ⟨ub, y, yb⟩ := hcb k hlt
      have XA := Lib.hid xa
      have YB := Lib.hid yb
      have HRK := Lib.hid (HR.out k hlt)
      clear hca hcb xa yb
      go_wp2_with fail
      go_quiet ((go_at_call 26; exact q_add (sameBytes_any _ ua ub (ls.getD k []) (by exact XA.out) (by exact YB.out) HRK.out)))
      go_wp2
      go_roundw
      case rel => exact ⟨k + 1, _, by omega, by go_num, rfl⟩
      case measure => simp [intOf]; omega
    · go_wp2
      go_ret
      exact ⟨rfl, n, rfl⟩

def SizeOf (ls : List (List B)) (w : World) (e : Ending) (w' : World) : Prop := ∃ z : Nat, e = .returned (.int .i64 (z : Int)) ∧ (z ≤ 2500 → ls.length ≤ 2500 ∧ ∀ i, i < ls.length → (ls.getD i []).length ≤ 2500) ∧ z < 1000000000000000 ∧ w = w'

theorem size_any (w : World) (v : Value) (ls : List (List B)) (hv : RowsAt w v ls) (hl : ls.length ≤ 140737488355328) (hr : ∀ i, i < ls.length → (ls.getD i []).length ≤ 140737488355328) :
    Calls Tryz.prog 5 #[v] w (SizeOf ls w) := by
  obtain ⟨p, c, rfl, hh⟩ := hv
  have HH := Lib.hid hh
  have HR := Lib.hid hr
  clear hh hr
  go_enter Tryz.func5, Tryz.ntmps5
  go_wp2
  go_loop [3, 4] (fun n i => ∃ (k z : Nat), k ≤ ls.length ∧ i = .int .i64 (k : Int) ∧ n = .int .i64 (z : Int) ∧ ls.length ≤ z ∧ z ≤ 281474976710656 + 2500 ∧ ∀ j, j < k → (ls.getD j []).length ≤ z) (fun _ i => ls.length - (intOf i).toNat)
  case atStart => exact ⟨0, ls.length, Nat.zero_le _, rfl, rfl, Nat.le_refl _, by omega, fun j h => absurd h (by omega)⟩
  case round =>
    obtain ⟨k, z, hk, rfl, rfl, hz1, hz2, hj⟩ := hrel
    have HJ := Lib.hid hj
    clear hj
    by_cases hlt : k < ls.length
    · by_cases hz : z ≤ 2500
      · obtain ⟨g, off, rfl, hc⟩ := HH.out (by omega)
        obtain ⟨u, x, hb⟩ := hc k hlt
        obtain ⟨pu, cu, rfl⟩ := hb.shape
        have hrk := HR.out k hlt
        obtain ⟨lk, hlk⟩ : ∃ lk, (ls.getD k []).length = lk := ⟨_, rfl⟩
        rw [hlk] at x hrk
        have HLK := Lib.hid hlk
        have hz' : (z : Int) ≤ 2500 := by omega
        clear hc hb hlk
        go_wp2
        go_round
        case rel =>
          refine ⟨k + 1, z + lk, by omega, by go_num, by go_num, by omega, by omega, fun j hj => ?_⟩
          by_cases e : j = k
          · subst e; rw [HLK.out]; omega
          · have := HJ.out j (by omega); omega
        case measure => simp [intOf]; omega
      · have hz' : ¬ (z : Int) ≤ 2500 := by omega
        have hz3 : decide ((z : Int) ≤ 2500) = false := by simpa using hz'
        go_wp2
        go_ret
        exact ⟨z, rfl, fun h => absurd h hz, by omega, rfl⟩
    · go_wp2
      go_ret
      exact ⟨z, rfl, fun h => ⟨by omega, fun i hi => by have := HJ.out i (by omega); omega⟩, by omega, rfl⟩

end Go.Proofs.YtojbbmfndlcgkaaGreat
