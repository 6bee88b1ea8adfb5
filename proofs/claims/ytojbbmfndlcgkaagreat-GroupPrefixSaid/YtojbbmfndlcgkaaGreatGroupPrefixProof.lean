/-
  GroupPrefix: whatever the input, it returns true, and the input reads as it did. No condition.
-/
import Derived.Test.YtojbbmfndlcgkaaGreatRows
import Derived.Test.YtojbbmfndlcgkaaGreatMxbg
import Derived.Test.YtojbbmfndlcgkaaGreatMxbf
import Derived.Test.YtojbbmfndlcgkaaGreatMxbh
import Derived.Test.YtojbbmfndlcgkaaGreatMxca
import Derived.WalkKit
import Derived.ProofKit
import Derived.OpenShut
import Derived.ShutString
import Derived.ChangeOld
import Derived.Below
namespace Go.Proofs.YtojbbmfndlcgkaaGreat.groupPrefix
open Go.ChangeShapes Go.WideShapes Go.ChangeAt Go.RowKit Go.Deep
set_option linter.unusedVariables false

theorem own : ownKnob Tryz.prog.godebug = none := by kernel_rfl
theorem laidOut : laidOutB Tryz.prog = true := by kernel_rfl

set_option maxRecDepth 100000 in
theorem lifted (os : Os) (started : os.Started) (H : Type) (enc : TypeId × Value → H) :
    ReturnsInHanded {} Tryz.checked os 3 .any (Rows.groupPrefixSpec.pre6 enc Tryz.prog Tryz.f3 Rows.groupPrefixRow.domain false) (Rows.groupPrefixSpec.post enc Tryz.prog Tryz.f3 false true false false) := by
  refine returnsInHanded_of_change_sized (C := Tryz.checked) own started (by kernel_rfl) Tryz.func3
    (ChangeSpec.witness6 (enc := enc) (C := Tryz.checked) false ⟨#[], #[.int .i64 0, .slice none 0 0, .slice none 0 0, .slice none 0 0], []⟩ 8 (by kernel_rfl) (by kernel_rfl) (by kernel_rfl) (by kernel_rfl)) ?_
  intro W base args ds gs before hval0 hW hcnd hz0 _
  have hval : ∀ (j : Nat) t v, Tryz.f3.params[j]? = some t → args[j]? = some v → Value.okWide Tryz.prog W .any base t v := hval0
  have hW' := hW
  obtain ⟨p, q, hA0, hV, rfl, hfz, hnd⟩ := hW
  have hA : DataW.TrodAll enc Tryz.prog W 0 (fun _ => true) true Tryz.f3.params.toList args.toList ds p := hA0
  have hz : ∀ (j : Nat) t d, Tryz.f3.params.toList[j]? = some t → ds[j]? = some d → Fits Tryz.prog t d := by
    intro j t d ht hd n hn
    have hlt : j < Tryz.f3.params.toList.length := (List.getElem?_eq_some_iff.1 ht).1
    have hld : j < ds.length := (List.getElem?_eq_some_iff.1 hd).1
    exact of_decide_eq_true (List.all_eq_true.1 hz0 n (DataW.weights_mem_each (by rw [List.getElem?_append_left hlt]; exact ht) (by rw [List.getElem?_append_left hld]; exact hd) n hn))
  rw [Tryz.params3] at hA hval hz
  obtain ⟨v0, vs0, d0, ds0, p0p, q0, hargs, rfl, rfl, h0, r0⟩ := trodAll_cons hA
  obtain ⟨v1, vs1, d1, ds1, p1p, q1, rfl, rfl, rfl, h1, r1⟩ := trodAll_cons r0
  obtain ⟨v2, vs2, d2, ds2, p2p, q2, rfl, rfl, rfl, h2, r2⟩ := trodAll_cons r1
  obtain ⟨v3, vs3, d3, ds3, p3p, q3, rfl, rfl, rfl, h3, r3⟩ := trodAll_cons r2
  obtain ⟨rfl, rfl, rfl⟩ := trodAll_nil r3
  obtain rfl : args = #[v0, v1, v2, v3] := by cases args; simp_all
  obtain ⟨rfl, rfl⟩ := trodVars_none hV
  have z1 := hz 1 22 d1 rfl rfl
  have z2 := hz 2 23 d2 rfl rfl
  have z3 := hz 3 23 d3 rfl rfl
  clear hz hz0
  obtain ⟨a0, rfl, rfl, rfl, w0⟩ := open_int Tryz.underlying3 (hval 0 3 v0 rfl rfl) h0
  obtain ⟨c1, m1, k1, rfl⟩ := okWide_slice Tryz.underlying22 (hval 1 22 v1 rfl rfl)
  have y1 := h1
  have lt1 : ∀ x ∈ p1p, x.block < W.heap.size := by obtain ⟨m, hm⟩ := y1; exact DataW.trod_lt m _ _ _ hm
  obtain ⟨l1, i1, b1⟩ : ∃ l1, RowsAt W (.slice c1 m1 k1) l1 ∧ m1 ≤ k1 ∧ l1.length ≤ 140737488355328 ∧ ∀ i, i < l1.length → (l1.getD i []).length ≤ 140737488355328 := by
    obtain ⟨fuel, hf⟩ := h1
    simp only [Value.cells] at hf
    exact (open_rows Tryz.underlying22 Tryz.underlying39 Tryz.underlying5 (by kernel_rfl) (by kernel_rfl) (by kernel_rfl) (by kernel_rfl) hf z1).imp fun l h => ⟨h.1, open_cap Tryz.underlying22 (by kernel_rfl) hf _ _ _ rfl, h.2⟩
  obtain ⟨c2, m2, k2, rfl⟩ := okWide_slice Tryz.underlying23 (hval 2 23 v2 rfl rfl)
  have y2 := h2
  have lt2 : ∀ x ∈ p2p, x.block < W.heap.size := by obtain ⟨m, hm⟩ := y2; exact DataW.trod_lt m _ _ _ hm
  obtain ⟨l2, i2, b2⟩ : ∃ l2, IntsAt W (.slice c2 m2 k2) l2 ∧ l2.length ≤ 140737488355328 := by
    obtain ⟨fuel, hf⟩ := h2
    simp only [Value.cells] at hf
    exact open_intsB Tryz.underlying23 Tryz.underlying3 (by kernel_rfl) (by kernel_rfl) hf z2
  obtain ⟨c3, m3, k3, rfl⟩ := okWide_slice Tryz.underlying23 (hval 3 23 v3 rfl rfl)
  have y3 := h3
  have lt3 : ∀ x ∈ p3p, x.block < W.heap.size := by obtain ⟨m, hm⟩ := y3; exact DataW.trod_lt m _ _ _ hm
  obtain ⟨l3, i3, b3⟩ : ∃ l3, IntsAt W (.slice c3 m3 k3) l3 ∧ l3.length ≤ 140737488355328 := by
    obtain ⟨fuel, hf⟩ := h3
    simp only [Value.cells] at hf
    exact open_intsB Tryz.underlying23 Tryz.underlying3 (by kernel_rfl) (by kernel_rfl) hf z3
  clear hA0 hval0
  refine (gprefix_any W a0 _ _ _ _ _ l1 l2 l3 i1 i2 i3 b1.1 b1.2.1 b1.2.2 b2).mono fun e W' ⟨he, bel⟩ => ?_
  subst he
  exact ⟨_, rfl, _, _, _, [], _, [], hW', trodAll_mk1 (shut_bool Tryz.underlying4 _), (trodAll_cons_mk (shut_int Tryz.underlying3 w0) (trodAll_cons_mk (Below.trod laidOut (by kernel_rfl) (of_decide_eq_true (by kernel_rfl)) y1 bel lt1) (trodAll_cons_mk (Below.trod laidOut (by kernel_rfl) (of_decide_eq_true (by kernel_rfl)) y2 bel lt2) (trodAll_cons_mk (Below.trod laidOut (by kernel_rfl) (of_decide_eq_true (by kernel_rfl)) y3 bel lt3) trodAll_mk0)))), rfl, bel.frame _, fun h => by cases h⟩

theorem over : Rows.groupPrefixRow.holds Tryz.pinned (OpenSpec.ofChange Rows.groupPrefixSpec) :=
  OpenClaim.holds_of_wide 3 Tryz.f3 rfl rfl rfl rfl rfl rfl rfl ⟨rfl, rfl, rfl, rfl, rfl⟩ rfl rfl rfl rfl rfl (by kernel_rfl) Tryz.func3 (by kernel_rfl)
    (of_decide_eq_true (by kernel_rfl)) (by unfold Func.isWrapper; first | (rw [if_pos (by decide +kernel)]; kernel_rfl) | (rw [if_neg (by decide +kernel)]; exact ⟨rfl, rfl⟩))
    (fun os started H enc _ => lifted os started H enc)

/-- THE STATEMENT. -/
theorem proved : Rows.GroupPrefixSaid := over
#print axioms proved
end Go.Proofs.YtojbbmfndlcgkaaGreat.groupPrefix
