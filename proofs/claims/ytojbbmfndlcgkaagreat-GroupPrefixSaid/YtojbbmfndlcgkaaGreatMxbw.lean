/-
  Walks of layer 17: Pick; the chapter's header.
-/
import Derived.Test.YtojbbmfndlcgkaaGreatMxbv
namespace Go.Proofs.YtojbbmfndlcgkaaGreat
open Go.RowKit Go.Maps
set_option linter.unusedVariables false
set_option linter.unusedSimpArgs false
set_option maxRecDepth 100000
set_option maxHeartbeats 2000000

theorem pick_any (w : World) (n : Int) (m : Nat) (h1 : 1 ≤ m) (h2 : m ≤ 1000000) :
    Calls Tryz.prog 9 #[.int .i64 n, .int .i64 (m : Int)] w fun e w' => (∃ p : Nat, e = .returned (.int .i64 (p : Int)) ∧ p < m) ∧ w = w' := by
  have e1 : ¬ ((m : Int) < 1) := by omega
  have e2 : ((m : Int) == 0) = false := by simp; omega
  have t1 : n.tmod m < m := Int.tmod_lt_of_pos _ (by omega)
  have t2 : -(m : Int) < n.tmod m := by
    have := Int.tmod_lt_of_pos (-n) (b := (m : Int)) (by omega)
    rw [Int.neg_tmod] at this
    omega
  have hw : wrap64 (n.tmod m + m) = n.tmod m + m := by unfold wrap64; omega
  by_cases hneg : n.tmod m < 0
  · have e3 : ¬ 0 ≤ n.tmod m := by omega
    go_enter Tryz.func9, Tryz.ntmps9
    go_wp2
    go_ret
    exact ⟨⟨(n.tmod m + m).toNat, by show Ending.returned (Value.int .i64 (n.tmod m + m)) = _; congr 2; omega, by omega⟩, rfl⟩
  · have e3 : 0 ≤ n.tmod m := by omega
    go_enter Tryz.func9, Tryz.ntmps9
    go_wp2
    go_ret
    exact ⟨⟨(n.tmod m).toNat, by show Ending.returned (Value.int .i64 (n.tmod m)) = _; congr 2; omega, by omega⟩, rfl⟩


theorem small_any (w : World) (i : Int) :
    Calls Tryz.prog 16 #[.int .i64 i] w fun e w' => ∃ v, e = .returned (headVal ⟨1, 1, i, 3, 9, [(1, 1), (2, 2)]⟩ v) ∧ TableAt w' v [(1, 1), (2, 2)] ∧ Below w.heap.size w w' := by
  go_enter Tryz.func16, Tryz.ntmps16
  have HB1 := Lib.hid (balI w (.cells #[.int .i64 1, .int .i64 1, .int .i64 i, .int .i64 3, .int .i64 9, .slice (some ⟨w.heap.size + 1, 0, none⟩) 2 2] 31))
  have HB2 := Lib.hid (balI (w.alloc (.cells #[.int .i64 1, .int .i64 1, .int .i64 i, .int .i64 3, .int .i64 9, .slice (some ⟨w.heap.size + 1, 0, none⟩) 2 2] 31)) (.cells #[.int .i64 1, .int .i64 1, .int .i64 2, .int .i64 2] 46))
  have hx := (HeadBox.new w ⟨1, 1, i, 3, 9, [(1, 1), (2, 2)]⟩ (.slice (some ⟨w.heap.size + 1, 0, none⟩) 2 2)).below HB2.out
  have HX := Lib.hid hx
  clear hx
  go_wp2
  refine bodyPost_ret (results_cell_row rfl _ _ w.heap.size _ _ (0, 0) _ rfl HX.out Tryz.underlying31 rfl (by kernel_rfl)) rfl ⟨_, rfl, ?_, below_more HB1.out HB2.out HB1.out.size⟩
  refine ⟨_, 2, rfl, Nat.le_refl _, fun _ => ⟨w.heap.size + 1, 0, rfl, fun j hj => ?_⟩⟩
  have e := World.cell?_alloc_new (w.alloc (.cells #[.int .i64 1, .int .i64 1, .int .i64 i, .int .i64 3, .int .i64 9, .slice (some ⟨w.heap.size + 1, 0, none⟩) 2 2] 31)) #[.int .i64 1, .int .i64 1, .int .i64 2, .int .i64 2] 46
  rw [World.size_alloc] at e
  obtain rfl | rfl : j = 0 ∨ j = 1 := by simp at hj; omega
  · exact ⟨e 0, e 1⟩
  · exact ⟨e 2, e 3⟩
end Go.Proofs.YtojbbmfndlcgkaaGreat
