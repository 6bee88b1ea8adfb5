/-
  RefL: Walks of the reference, layer 5 (code): Symbol; the program's Symbol of what is none.
  RefM: Walks of the reference, layer 5 (code): asked.
-/
import Derived.Test.YtanjchpkekehgaaMxbj
import Derived.Test.YtanjchpkekehgaaMxap
namespace Go.Proofs.Ytanjchpkekehgaa

section -- RefL
open Go.RowKit Go.Maps
set_option linter.unusedVariables false
set_option maxRecDepth 100000
set_option maxHeartbeats 4000000
end -- RefL

section -- RefM
open Go.RowKit Go.Maps
set_option linter.unusedVariables false
set_option maxRecDepth 100000
set_option maxHeartbeats 4000000

theorem take_snocI {xs : List Int} {m : Nat} (h : m < xs.length) : xs.take (m + 1) = xs.take m ++ [xs.getD m 0] := by
  rw [List.take_succ_eq_append_getElem h, List.getD_eq_getElem?_getD, List.getElem?_eq_getElem h]; rfl
theorem getI {xs : List Int} {i : Nat} (h : i < xs.length) : xs.getD i 0 = xs[i] := by rw [List.getD_eq_getElem?_getD, List.getElem?_eq_getElem h]; rfl
theorem nodup_take {xs : List Int} {m : Nat} (h : m < xs.length) : ¬ (xs.take (m + 1)).Nodup ↔ (¬ (xs.take m).Nodup ∨ ∃ j, j < m ∧ xs.getD j 0 = xs.getD m 0) := by
  have hmem : xs.getD m 0 ∈ xs.take m ↔ ∃ j, j < m ∧ xs.getD j 0 = xs.getD m 0 := by
    constructor
    · intro hh
      obtain ⟨j, hj, e⟩ := List.mem_iff_getElem.1 hh
      have hj' : j < m := by rw [List.length_take] at hj; omega
      refine ⟨j, hj', ?_⟩
      rw [List.getElem_take] at e
      rw [← e, getI (by omega)]
    · rintro ⟨j, hj, e⟩
      rw [← e, List.mem_iff_getElem]
      refine ⟨j, by simp; omega, ?_⟩
      rw [List.getElem_take, getI (by omega)]
  rw [take_snocI h, List.nodup_append, ← hmem]
  by_cases h1 : (xs.take m).Nodup <;> by_cases h2 : xs.getD m 0 ∈ xs.take m
  · simp only [h1, h2, true_and, not_true, false_or, iff_true]
    intro ⟨_, q⟩
    exact q _ h2 _ (by simp) rfl
  · simp only [h1, h2, true_and, not_true, or_self, iff_false, Classical.not_not]
    refine ⟨by simp, fun a ha b hb e => h2 ?_⟩
    rw [List.mem_singleton] at hb
    rw [← hb, ← e]; exact ha
  · simp [h1]
  · simp [h1]

theorem askE_arg {n k : Nat} {xs : List Int} {m : Nat} (h : m < xs.length) (hx : xs.getD m 0 < 0 ∨ (n : Int) ≤ xs.getD m 0) : askE n k xs = 2 := by
  unfold askE
  rw [if_neg]
  intro hh
  rw [List.all_eq_true] at hh
  have := hh (xs.getD m 0) (by rw [List.getD_eq_getElem?_getD, List.getElem?_eq_getElem h]; exact List.getElem_mem h)
  simp only [Bool.and_eq_true, decide_eq_true_eq] at this
  omega
theorem askE_in {n k : Nat} {xs : List Int} (h : ∀ j, j < xs.length → 0 ≤ xs.getD j 0 ∧ xs.getD j 0 < n) : askE n k xs = if xs.Nodup then (if xs.length < k then 8 else 0) else 9 := by
  unfold askE
  rw [if_pos]
  rw [List.all_eq_true]
  intro x hx
  obtain ⟨j, hj, rfl⟩ := List.mem_iff_getElem.1 hx
  have := h j hj
  rw [List.getD_eq_getElem?_getD, List.getElem?_eq_getElem hj] at this
  simp at this ⊢
  exact this
end -- RefM

end Go.Proofs.Ytanjchpkekehgaa
