/-
  LayMore: whatever the input, it returns true, and the input reads as it did. No condition.
-/
import Derived.Test.YtanjchpkekehgaaRows
import Derived.Test.YtanjchpkekehgaaLayOq
import Derived.Test.YtanjchpkekehgaaLayZb
import Derived.WalkKit
import Derived.ProofKit
import Derived.OpenShut
import Derived.ShutString
import Derived.ChangeOld
import Derived.Below
namespace Go.Proofs.Ytanjchpkekehgaa.layMore
open Go.ChangeShapes Go.WideShapes Go.ChangeAt Go.RowKit Go.Deep
set_option linter.unusedVariables false

theorem own : ownKnob Try.prog.godebug = none := by kernel_rfl
theorem laidOut : laidOutB Try.prog = true := by kernel_rfl

set_option maxRecDepth 100000 in
theorem lifted (os : Os) (started : os.Started) (H : Type) (enc : TypeId × Value → H) :
    ReturnsInHanded {} Try.checked os 5 .any (Rows.layMoreSpec.pre6 enc Try.prog Try.f5 Rows.layMoreRow.domain false) (Rows.layMoreSpec.post enc Try.prog Try.f5 false true false false) := by
  refine returnsInHanded_of_change_sized (C := Try.checked) own started (by kernel_rfl) Try.func5
    (ChangeSpec.witness6 (enc := enc) (C := Try.checked) false ⟨#[], #[.int .i64 0, .slice none 0 0, .slice none 0 0, .slice none 0 0, .int .i64 0], []⟩ 8 (by kernel_rfl) (by kernel_rfl) (by kernel_rfl) (by kernel_rfl)) ?_
  intro W base args ds gs before hval0 hW hcnd hz0 _
  have hval : ∀ (j : Nat) t v, Try.f5.params[j]? = some t → args[j]? = some v → Value.okWide Try.prog W .any base t v := hval0
  have hW' := hW
  obtain ⟨p, q, hA0, hV, rfl, hfz, hnd⟩ := hW
  have hA : DataW.TrodAll enc Try.prog W 0 (fun _ => true) true Try.f5.params.toList args.toList ds p := hA0
  have hz : ∀ (j : Nat) t d, Try.f5.params.toList[j]? = some t → ds[j]? = some d → Fits Try.prog t d := by
    intro j t d ht hd n hn
    have hlt : j < Try.f5.params.toList.length := (List.getElem?_eq_some_iff.1 ht).1
    have hld : j < ds.length := (List.getElem?_eq_some_iff.1 hd).1
    exact of_decide_eq_true (List.all_eq_true.1 hz0 n (DataW.weights_mem_each (by rw [List.getElem?_append_left hlt]; exact ht) (by rw [List.getElem?_append_left hld]; exact hd) n hn))
  rw [Try.params5] at hA hval hz
  obtain ⟨v0, vs0, d0, ds0, p0p, q0, hargs, rfl, rfl, h0, r0⟩ := trodAll_cons hA
  obtain ⟨v1, vs1, d1, ds1, p1p, q1, rfl, rfl, rfl, h1, r1⟩ := trodAll_cons r0
  obtain ⟨v2, vs2, d2, ds2, p2p, q2, rfl, rfl, rfl, h2, r2⟩ := trodAll_cons r1
  obtain ⟨v3, vs3, d3, ds3, p3p, q3, rfl, rfl, rfl, h3, r3⟩ := trodAll_cons r2
  obtain ⟨v4, vs4, d4, ds4, p4p, q4, rfl, rfl, rfl, h4, r4⟩ := trodAll_cons r3
  obtain ⟨rfl, rfl, rfl⟩ := trodAll_nil r4
  obtain rfl : args = #[v0, v1, v2, v3, v4] := by cases args; simp_all
  obtain ⟨rfl, rfl⟩ := trodVars_none hV
  have z1 := hz 1 32 d1 rfl rfl
  have z2 := hz 2 33 d2 rfl rfl
  have z3 := hz 3 37 d3 rfl rfl
  clear hz hz0
  obtain ⟨a0, rfl, rfl, rfl, w0⟩ := open_int Try.underlying3 (hval 0 3 v0 rfl rfl) h0
  obtain ⟨c1, m1, k1, rfl⟩ := okWide_slice Try.underlying32 (hval 1 32 v1 rfl rfl)
  have y1 := h1
  have lt1 : ∀ x ∈ p1p, x.block < W.heap.size := by obtain ⟨m, hm⟩ := y1; exact DataW.trod_lt m _ _ _ hm
  obtain ⟨l1, i1, b1⟩ : ∃ l1, RowsAt W (.slice c1 m1 k1) l1 ∧ l1.length ≤ 140737488355328 ∧ ∀ i, i < l1.length → (l1.getD i []).length ≤ 140737488355328 := by
    obtain ⟨fuel, hf⟩ := h1
    simp only [Value.cells] at hf
    exact open_rows Try.underlying32 Try.underlying37 Try.underlying5 (by kernel_rfl) (by kernel_rfl) (by kernel_rfl) (by kernel_rfl) hf z1
  obtain ⟨c2, m2, k2, rfl⟩ := okWide_slice Try.underlying33 (hval 2 33 v2 rfl rfl)
  have y2 := h2
  have lt2 : ∀ x ∈ p2p, x.block < W.heap.size := by obtain ⟨m, hm⟩ := y2; exact DataW.trod_lt m _ _ _ hm
  obtain ⟨l2, i2, b2⟩ : ∃ l2, IntsAt W (.slice c2 m2 k2) l2 ∧ l2.length ≤ 140737488355328 := by
    obtain ⟨fuel, hf⟩ := h2
    simp only [Value.cells] at hf
    exact open_intsB Try.underlying33 Try.underlying3 (by kernel_rfl) (by kernel_rfl) hf z2
  obtain ⟨c3, m3, k3, rfl⟩ := okWide_slice Try.underlying37 (hval 3 37 v3 rfl rfl)
  have y3 := h3
  have lt3 : ∀ x ∈ p3p, x.block < W.heap.size := by obtain ⟨m, hm⟩ := y3; exact DataW.trod_lt m _ _ _ hm
  obtain ⟨l3, i3, b3⟩ : ∃ l3, BytesAt W (.slice c3 m3 k3) l3 ∧ l3.length ≤ 140737488355328 := by
    obtain ⟨fuel, hf⟩ := h3
    simp only [Value.cells] at hf
    exact open_bytes Try.underlying37 Try.underlying5 (by kernel_rfl) (by kernel_rfl) hf z3
  obtain ⟨a4, rfl, rfl, rfl, w4⟩ := open_int Try.underlying3 (hval 4 3 v4 rfl rfl) h4
  clear hA0 hval0
  refine (more_any W a0 a4 _ _ _ l1 l2 l3 i1 i2 i3 b1.1 b1.2 b2 b3).mono fun e W' ⟨he, bel⟩ => ?_
  subst he
  exact ⟨_, rfl, _, _, _, [], _, [], hW', trodAll_mk1 (shut_bool Try.underlying4 _), (trodAll_cons_mk (shut_int Try.underlying3 w0) (trodAll_cons_mk (Below.trod laidOut (by kernel_rfl) (of_decide_eq_true (by kernel_rfl)) y1 bel lt1) (trodAll_cons_mk (Below.trod laidOut (by kernel_rfl) (of_decide_eq_true (by kernel_rfl)) y2 bel lt2) (trodAll_cons_mk (Below.trod laidOut (by kernel_rfl) (of_decide_eq_true (by kernel_rfl)) y3 bel lt3) (trodAll_cons_mk (shut_int Try.underlying3 w4) trodAll_mk0))))), rfl, bel.frame _, fun h => by cases h⟩

theorem over : Rows.layMoreRow.holds Try.pinned (OpenSpec.ofChange Rows.layMoreSpec) :=
  OpenClaim.holds_of_wide 5 Try.f5 rfl rfl rfl rfl rfl rfl rfl ⟨rfl, rfl, rfl, rfl, rfl⟩ rfl rfl rfl rfl rfl (by kernel_rfl) Try.func5 (by kernel_rfl)
    (of_decide_eq_true (by kernel_rfl)) (by unfold Func.isWrapper; first | (rw [if_pos (by decide +kernel)]; kernel_rfl) | (rw [if_neg (by decide +kernel)]; exact ⟨rfl, rfl⟩))
    (fun os started H enc _ => lifted os started H enc)

/-- THE STATEMENT. -/
theorem proved : Rows.LayMoreSaid := over
#print axioms proved
end Go.Proofs.Ytanjchpkekehgaa.layMore
