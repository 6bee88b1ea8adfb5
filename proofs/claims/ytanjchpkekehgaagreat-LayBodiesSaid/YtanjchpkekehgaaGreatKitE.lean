/-
  Rows that are lent, still as they were: KeptRows.
-/
import Derived.Test.YtanjchpkekehgaaGreatMxbv
namespace Go.Proofs.YtanjchpkekehgaaGreat
open Go.RowKit Go.Maps
set_option linter.unusedVariables false
set_option maxRecDepth 100000
set_option maxHeartbeats 2000000

/-- A slice reads as rows that are lent. -/
def LentRowsAt (w : World) (base : Nat) (v : Value) (ls : List (List B)) : Prop := ∃ p cap, v = .slice p ls.length cap ∧ (0 < ls.length → ∃ g off, p = some ⟨g, off, none⟩ ∧ ∀ i, i < ls.length → ∃ u, w.cell? ⟨g, off + i, none⟩ = some u ∧ LentAt w base u (ls.getD i []))
theorem LentRowsAt.of_owns {w : World} {base b2 : Nat} {v : Value} {ls : List (List B)} {us : List Value} (h : w.ownsRow b2 50 1 v ls.length us) (hu : ∀ i u, us[i]? = some u → LentAt w base u (ls.getD i [])) : LentRowsAt w base v ls := by
  obtain ⟨h0, h1⟩ := h
  rcases h1 with ⟨rfl, hz⟩ | ⟨g, cap, cur, rfl, h2, h3, h4, h5, h6, h7⟩
  · exact ⟨none, 0, by rw [hz], fun hl => by omega⟩
  · refine ⟨_, cap, rfl, fun _ => ⟨g, 0, rfl, fun i hi => ?_⟩⟩
    have hi' : i < us.length := by omega
    refine ⟨us[i], ?_, hu i _ (List.getElem?_eq_getElem hi')⟩
    have : us[i]? = some us[i] := List.getElem?_eq_getElem hi'
    conv at this => lhs; rw [← h7]
    rw [List.getElem?_take, if_pos (by omega), Array.getElem?_toList] at this
    simp [World.cell?, h3, this]
theorem RowsLent.at' {w : World} {base : Nat} {v : Value} {ls : List (List B)} (h : RowsLent w base v ls) : LentRowsAt w base v ls := by
  obtain ⟨us, h1, h2, h3⟩ := h
  exact LentRowsAt.of_owns h1 (fun i u hi => (h2 i u hi).1)

theorem keptR_any (w : World) (va vb : Value) (ls : List (List B)) (base : Nat) (ha : LentRowsAt w base va ls) (hb : RowsAt w vb ls) (hl : ls.length ≤ 1000000) (hw : ∀ i, i < ls.length → (ls.getD i []).length ≤ 1000000) :
    Calls Tryz.prog 13 #[va, vb] w fun e w' => e = .returned (.bool true) ∧ ∃ q, w' = w.drewN q := by
  obtain ⟨pa, ca, rfl, hha⟩ := ha
  obtain ⟨pb, cb, rfl, hhb⟩ := hb
  have HA := Lib.hid hha
  have HB := Lib.hid hhb
  have HW := Lib.hid hw
  obtain ⟨n, hn⟩ : ∃ n, ls.length = n := ⟨_, rfl⟩
  rw [hn] at HA HB HW hl ⊢
  clear hha hhb hw hn
  go_enter Tryz.func13, Tryz.ntmps13
  go_wp2
  go_loopw [5] (fun i wr => ∃ (k q : Nat), k ≤ n ∧ i = .int .i64 (k : Int) ∧ wr = w.drewN q) (fun i _ => n - (intOf i).toNat)
  case atStart => exact ⟨0, 0, by omega, rfl, rfl⟩
  case round =>
    obtain ⟨k, q, hk, rfl, rfl⟩ := hrel
    by_cases hlt : k < n
    · obtain ⟨ga, oa, rfl, hca⟩ := HA.out (by omega)
      obtain ⟨gb, ob, rfl, hcb⟩ := HB.out (by omega)
      obtain ⟨ua, x, xa⟩ := hca k hlt
      obtain ⟨ub, y, yb⟩ := hcb k hlt
      have XA := Lib.hid xa
      have YB := Lib.hid yb
      have HWK := Lib.hid (HW.out k hlt)
      clear hca hcb xa yb
      go_wp2_with fail
      go_quiet ((go_at_call 34; exact q_add (keptB_any _ ua ub (ls.getD k []) base (by exact XA.out) (by exact YB.out) HWK.out)))
      go_wp2
      go_roundw
      case rel => exact ⟨k + 1, _, by omega, by go_num, by first | rfl | rw [World.drewN_drewN]⟩
      case measure => simp [intOf]; omega
    · obtain rfl : k = n := by omega
      go_wp2
      go_ret
      exact ⟨rfl, q, rfl⟩

end Go.Proofs.YtanjchpkekehgaaGreat
