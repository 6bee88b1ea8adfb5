/-
  What the laws of layer 5 use: SameBytes, SameRows (of what is the same), size, bytesOf.
-/
import Derived.Test.YtlmpagicjgldkaaCodeTb
namespace Go.Proofs.Ytlmpagicjgldkaa
open Go.RowKit Go.Maps
set_option linter.unusedVariables false
set_option maxRecDepth 100000
set_option maxHeartbeats 2000000

theorem sameBytes_any (w : World) (va vb : Value) (l : List B) (ha : BytesAt w va l) (hb : BytesAt w vb l) (hl : l.length ≤ 1000000000000) :
    Calls Try.prog 27 #[va, vb] w fun e w' => e = .returned (.bool true) ∧ ∃ n, w' = w.drewN n := by
  obtain ⟨pa, ca, rfl, hha⟩ := ha
  obtain ⟨pb, cb, rfl, hhb⟩ := hb
  have HA := Lib.hid hha
  have HB := Lib.hid hhb
  clear hha hhb
  go_enter Try.func27, Try.ntmps27
  go_wp2
  go_loopw [5] (fun i wr => ∃ (k n : Nat), k ≤ l.length ∧ i = .int .i64 (k : Int) ∧ wr = w.drewN n) (fun i _ => l.length - (intOf i).toNat)
  case atStart => exact ⟨0, 0, Nat.zero_le _, rfl, rfl⟩
  case round =>
    obtain ⟨k, n, hk, rfl, rfl⟩ := hrel
    by_cases hlt : k < l.length
    · obtain ⟨ga, oa, rfl, hca⟩ := HA.out (by omega)
      obtain ⟨gb, ob, rfl, hcb⟩ := HB.out (by omega)
      have x := hca k hlt
      have y := hcb k hlt
      obtain ⟨z, hz⟩ : ∃ z, l.getD k 0 = z := ⟨_, rfl⟩
      rw [hz] at x y
      clear hca hcb hz
      go_wp2_with fail
      go_quiet (fail)
      go_wp2
      go_roundw
      case rel => exact ⟨k + 1, _, by omega, by go_num, rfl⟩
      case measure => simp [intOf]; omega
    · go_wp2
      go_ret
      exact ⟨rfl, n, rfl⟩

theorem sameRows_any (w : World) (va vb : Value) (ls : List (List B)) (ha : RowsAt w va ls) (hb : RowsAt w vb ls) (hl : ls.length ≤ 1000000000000) (hr : ∀ i, i < ls.length → (ls.getD i []).length ≤ 1000000000000) :
    Calls Try.prog 14 #[va, vb] w fun e w' => e = .returned (.bool true) ∧ ∃ n, w' = w.drewN n := by
  obtain ⟨pa, ca, rfl, hha⟩ := ha
  obtain ⟨pb, cb, rfl, hhb⟩ := hb
  have HA := Lib.hid hha
  have HB := Lib.hid hhb
  have HR := Lib.hid hr
  clear hha hhb hr
  go_enter Try.func14, Try.ntmps14
  go_wp2
  go_loopw [5] (fun i wr => ∃ (k n : Nat), k ≤ ls.length ∧ i = .int .i64 (k : Int) ∧ wr = w.drewN n) (fun i _ => ls.length - (intOf i).toNat)
  case atStart => exact ⟨0, 0, Nat.zero_le _, rfl, rfl⟩
  case round =>
    obtain ⟨k, n, hk, rfl, rfl⟩ := hrel
    by_cases hlt : k < ls.length
    · obtain ⟨ga, oa, rfl, hca⟩ := HA.out (by omega)
      obtain ⟨gb, ob, rfl, hcb⟩ := HB.out (by omega)
      obtain ⟨ua, x, xa⟩ := hca k hlt
      obtain ⟨ub, y, yb⟩ := hcb k hlt
      have XA := Lib.hid xa
      have YB := Lib.hid yb
      have HRK := Lib.hid (HR.out k hlt)
      clear hca hcb xa yb
      go_wp2_with fail
      go_quiet ((go_at_call 27; exact q_add (sameBytes_any _ ua ub (ls.getD k []) (by exact XA.out) (by exact YB.out) HRK.out)))
      go_wp2
      go_roundw
      case rel => exact ⟨k + 1, _, by omega, by go_num, rfl⟩
      case measure => simp [intOf]; omega
    · go_wp2
      go_ret
      exact ⟨rfl, n, rfl⟩

end Go.Proofs.Ytlmpagicjgldkaa
