/-
  What the laws of layer 5 use: Pick, unlike.
-/
import Derived.Test.YtaaahbpeaamjgaaCodeVa
import Derived.Test.YtaaahbpeaamjgaaCodeUe
namespace Go.Proofs.Ytaaahbpeaamjgaa
open Go.RowKit Go.Maps
set_option linter.unusedVariables false
set_option maxRecDepth 100000
set_option maxHeartbeats 4000000

theorem pick_any (w : World) (n : Int) (m : Nat) (h1 : 1 ≤ m) (h2 : m ≤ 1000000) :
    Calls Try.prog 15 #[.int .i64 n, .int .i64 (m : Int)] w fun e w' => (∃ p : Nat, e = .returned (.int .i64 (p : Int)) ∧ p < m) ∧ w = w' := by
  have e1 : ¬ ((m : Int) < 1) := by omega
  have e2 : ((m : Int) == 0) = false := by simp; omega
  have t1 : n.tmod m < m := Int.tmod_lt_of_pos _ (by omega)
  have t2 : -(m : Int) < n.tmod m := by
    have := Int.tmod_lt_of_pos (-n) (b := (m : Int)) (by omega)
    rw [Int.neg_tmod] at this
    omega
  have hw : wrap64 (n.tmod m + m) = n.tmod m + m := by unfold wrap64; omega
  by_cases hneg : n.tmod m < 0
  · have e3 : ¬ 0 ≤ n.tmod m := by omega
    go_enter Try.func15, Try.ntmps15
    go_wp2
    go_ret
    exact ⟨⟨(n.tmod m + m).toNat, by show Ending.returned (Value.int .i64 (n.tmod m + m)) = _; congr 2; omega, by omega⟩, rfl⟩
  · have e3 : 0 ≤ n.tmod m := by omega
    go_enter Try.func15, Try.ntmps15
    go_wp2
    go_ret
    exact ⟨⟨(n.tmod m).toNat, by show Ending.returned (Value.int .i64 (n.tmod m)) = _; congr 2; omega, by omega⟩, rfl⟩

theorem unlike_any (w : World) (v : Value) (ls : List (List B)) (hv : RowsAt w v ls) (hl : ls.length ≤ 1000000) (hr : ∀ i, i < ls.length → (ls.getD i []).length ≤ 1000000) :
    Calls Try.prog 16 #[v] w fun e w' => e = .returned (.bool (!evenB ls)) ∧ Below w.heap.size w w' := by
  obtain ⟨p, c, rfl, hh⟩ := hv
  have HH := Lib.hid hh
  have HR := Lib.hid hr
  clear hh hr
  go_enter Try.func16, Try.ntmps16
  go_wp2
  go_loopw [3] (fun i wr => ∃ (k n : Nat), k ≤ ls.length ∧ i = .int .i64 (k : Int) ∧ (∀ j, j < k → (ls.getD j []).length = (ls.getD 0 []).length) ∧ wr = w.drewN n) (fun i _ => ls.length - (intOf i).toNat)
  case atStart => exact ⟨0, 0, Nat.zero_le _, rfl, fun j h => absurd h (by omega), rfl⟩
  case round =>
    obtain ⟨k, n, hk, rfl, hj, rfl⟩ := hrel
    have HJ := Lib.hid hj
    clear hj
    by_cases hlt : k < ls.length
    · obtain ⟨g, off, rfl, hc⟩ := HH.out (by omega)
      obtain ⟨u, x, hb⟩ := hc k hlt
      obtain ⟨u0, x0, hb0⟩ := hc 0 (by omega)
      obtain ⟨pu, cu, rfl⟩ := hb.shape
      obtain ⟨p0, c0, rfl⟩ := hb0.shape
      have hrk := HR.out k hlt
      have hr0 := HR.out 0 (by omega)
      obtain ⟨lk, hlk⟩ : ∃ lk, (ls.getD k []).length = lk := ⟨_, rfl⟩
      obtain ⟨l0, hl0⟩ : ∃ l0, (ls.getD 0 []).length = l0 := ⟨_, rfl⟩
      rw [hlk] at x hrk
      rw [hl0] at x0 hr0
      rw [Nat.add_zero] at x0
      have HLK := Lib.hid hlk
      have HL0 := Lib.hid hl0
      have i0 : 0 < ls.length := by omega
      clear hc hb hb0 hlk hl0
      by_cases hd : lk = l0
      · subst hd
        go_wp2_with fail
        go_quiet (fail)
        go_wp2
        go_roundw
        case rel =>
          refine ⟨k + 1, _, by omega, by go_num, fun j hj => ?_, rfl⟩
          by_cases e : j = k
          · subst e; rw [HLK.out, HL0.out]
          · exact HJ.out j (by omega)
        case measure => simp [intOf]; omega
      · have e1 : ((lk : Int) != l0) = true := by rw [bne_cast]; simpa using hd
        have e2 : ¬ (lk : Int) = l0 := by omega
        have HE := Lib.hid (show evenB ls = false by
          cases q : evenB ls with
          | false => rfl
          | true => exact absurd (evenB_get q hlt) (by rw [HLK.out, HL0.out]; exact hd))
        go_wp2_with fail
        go_quiet (fail)
        go_wp2
        go_ret
        exact ⟨by rw [HE.out]; rfl, bdr (bdr (Below.refl _ _) _) _⟩
    · have HE := Lib.hid (show evenB ls = true from evenB_of (wide := (ls.getD 0 []).length) fun i hi => HJ.out i (by omega))
      go_wp2
      go_ret
      exact ⟨by rw [HE.out]; rfl, bdr (Below.refl _ _) _⟩

end Go.Proofs.Ytaaahbpeaamjgaa
