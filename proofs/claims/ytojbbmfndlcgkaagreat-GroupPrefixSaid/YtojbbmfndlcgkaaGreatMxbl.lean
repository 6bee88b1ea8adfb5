/-
  Walks of layer 17: Like; a group in memory; New.
-/
import Derived.Test.YtojbbmfndlcgkaaGreatMxbk
namespace Go.Proofs.YtojbbmfndlcgkaaGreat
open Go.RowKit Go.Maps
set_option linter.unusedVariables false
set_option linter.unusedSimpArgs false
set_option maxRecDepth 100000
set_option maxHeartbeats 4000000

theorem like_any (w : World) (a b : HeadV) (va vb : Value) (ha : TableAt w va a.rows) (hb : TableAt w vb b.rows) (hal : a.rows.length ≤ 1000000000) :
    Calls Tryz.prog 23 #[headVal a va, headVal b vb] w fun e w' => e = .returned (.bool (decide (LikeH a b))) ∧ Below w.heap.size w w' := by
  have HA := Lib.hid ha
  have HB := Lib.hid hb
  obtain ⟨s1, f1, i1, n1, d1, r1⟩ := a
  obtain ⟨s2, f2, i2, n2, d2, r2⟩ := b
  have HLK : LikeH ⟨s1, f1, i1, n1, d1, r1⟩ ⟨s2, f2, i2, n2, d2, r2⟩ ↔ (s1 = s2 ∧ f1 = f2 ∧ n1 = n2 ∧ d1 = d2 ∧ r1 = r2) := Iff.rfl
  obtain ⟨D, hD⟩ : ∃ D, decide (LikeH ⟨s1, f1, i1, n1, d1, r1⟩ ⟨s2, f2, i2, n2, d2, r2⟩) = D := ⟨_, rfl⟩
  have HT := Lib.hid (show (s1 = s2 ∧ f1 = f2 ∧ n1 = n2 ∧ d1 = d2 ∧ r1 = r2) → D = true from fun h => by rw [← hD]; exact decide_eq_true (HLK.2 h))
  have HF := Lib.hid (show ¬ (s1 = s2 ∧ f1 = f2 ∧ n1 = n2 ∧ d1 = d2 ∧ r1 = r2) → D = false from fun h => by rw [← hD]; exact decide_eq_false (fun e => h (HLK.1 e)))
  rw [hD]
  clear hD HLK
  have HB1 := Lib.hid (balI w (.cells #[.int .i64 s1, .int .i64 f1, .int .i64 i1, .int .i64 n1, .int .i64 d1, va] 31))
  have HB2 := Lib.hid (balI (w.alloc (.cells #[.int .i64 s1, .int .i64 f1, .int .i64 i1, .int .i64 n1, .int .i64 d1, va] 31)) (.cells #[.int .i64 s2, .int .i64 f2, .int .i64 i2, .int .i64 n2, .int .i64 d2, vb] 31))
  have HX1 := Lib.hid ((HeadBox.new w ⟨s1, f1, i1, n1, d1, r1⟩ va).below HB2.out)
  have HX2 := Lib.hid (HeadBox.new (w.alloc (.cells #[.int .i64 s1, .int .i64 f1, .int .i64 i1, .int .i64 n1, .int .i64 d1, va] 31)) ⟨s2, f2, i2, n2, d2, r2⟩ vb)
  have HBW := Lib.hid (below_more HB1.out HB2.out HB1.out.size)
  rw [World.size_alloc] at HX2
  clear ha hb HB1 HB2
  have x10 := HX1.out.c0
  have x11 := HX1.out.c1
  have x13 := HX1.out.c3
  have x14 := HX1.out.c4
  have x15 := HX1.out.c5
  have x20 := HX2.out.c0
  have x21 := HX2.out.c1
  have x23 := HX2.out.c3
  have x24 := HX2.out.c4
  have x25 := HX2.out.c5
  dsimp only at x10 x11 x13 x14 x20 x21 x23 x24
  go_enter Tryz.func23, Tryz.ntmps23
  by_cases h1 : s1 = s2
  rotate_left
  · go_wp2
    go_ret
    exact ⟨congrArg (fun b => Ending.returned (.bool b)) (HF.out (fun e => h1 e.1)).symm, HBW.out⟩
  subst h1
  by_cases h2 : f1 = f2
  rotate_left
  · go_wp2
    go_ret
    exact ⟨congrArg (fun b => Ending.returned (.bool b)) (HF.out (fun e => h2 e.2.1)).symm, HBW.out⟩
  subst h2
  by_cases h3 : n1 = n2
  rotate_left
  · go_wp2
    go_ret
    exact ⟨congrArg (fun b => Ending.returned (.bool b)) (HF.out (fun e => h3 e.2.2.1)).symm, HBW.out⟩
  subst h3
  by_cases h4 : d1 = d2
  rotate_left
  · go_wp2
    go_ret
    exact ⟨congrArg (fun b => Ending.returned (.bool b)) (HF.out (fun e => h4 e.2.2.2.1)).symm, HBW.out⟩
  subst h4
  go_wp2_with fail
  refine (equalT_any _ va vb r1 r2 (HA.out.below HBW.out) (HB.out.below HBW.out) hal).mono ?_
  rintro e w3 ⟨rfl, q, rfl⟩
  have HBD := Lib.hid (below_more HBW.out ((Below.refl _ _).mono (Nat.le_refl _) |>.trans (show Below _ _ (World.drewN _ q) from (Kept.refl (fun _ => False) _).drewN q |>.toBelow (Nat.le_refl _) (fun _ h => h.elim))) HBW.out.size)
  by_cases h5 : r1 = r2
  · have HD := Lib.hid h5
    simp only [h5, decide_true]
    clear h5
    go_wp2
    go_ret
    exact ⟨congrArg (fun b => Ending.returned (.bool b)) (HT.out (by refine ⟨?_, ?_, ?_, ?_, HD.out⟩ <;> first | trivial | rfl)).symm, HBD.out⟩
  · have HD := Lib.hid h5
    simp only [h5, decide_false]
    clear h5
    go_wp2
    go_ret
    exact ⟨congrArg (fun b => Ending.returned (.bool b)) (HF.out (fun e => HD.out e.2.2.2.2)).symm, HBD.out⟩
end Go.Proofs.YtojbbmfndlcgkaaGreat
