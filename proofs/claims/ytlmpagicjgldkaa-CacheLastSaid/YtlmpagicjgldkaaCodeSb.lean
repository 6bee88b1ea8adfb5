/-
  What is wrong with indexes: by their sorted list: plain.
-/
import Derived.Test.YtlmpagicjgldkaaCodeSa
namespace Go.Proofs.Ytlmpagicjgldkaa
set_option linter.unusedVariables false

/-- The error of indexes. -/
def askE (n k : Nat) (xs : List Int) : Int := if xs.all (fun x => decide (0 ≤ x) && decide (x < n)) then (if xs.Nodup then (if xs.length < k then 8 else 0) else 9) else 2

theorem sortL_perm (xs : List Int) : (sortL xs).Perm xs := List.mergeSort_perm xs _
theorem sortL_len (xs : List Int) : (sortL xs).length = xs.length := (sortL_perm xs).length_eq
theorem sortL_pair (xs : List Int) : (sortL xs).Pairwise (fun a b => a ≤ b) := by
  have := List.pairwise_mergeSort (le := fun x y : Int => decide (x ≤ y)) (fun a b c h1 h2 => by simp at *; omega) (fun a b => by simp; omega) xs
  exact this.imp (fun h => by simpa using h)
theorem sortL_le {xs : List Int} {i j : Nat} (hij : i ≤ j) (hj : j < xs.length) : (sortL xs).getD i 0 ≤ (sortL xs).getD j 0 := by
  have hl := sortL_len xs
  rw [List.getD_eq_getElem?_getD, List.getD_eq_getElem?_getD, List.getElem?_eq_getElem (by omega : i < (sortL xs).length), List.getElem?_eq_getElem (by omega : j < (sortL xs).length)]
  by_cases e : i = j
  · subst e; exact Int.le_refl _
  · exact List.pairwise_iff_getElem.1 (sortL_pair xs) i j (by omega) (by omega) (by omega)
theorem sortL_mem {xs : List Int} {i : Nat} (hi : i < xs.length) : (sortL xs).getD i 0 ∈ xs := by
  have hl := sortL_len xs
  rw [List.getD_eq_getElem?_getD, List.getElem?_eq_getElem (by omega : i < (sortL xs).length)]
  exact (sortL_perm xs).mem_iff.1 (List.getElem_mem _)
theorem mem_sortL {xs : List Int} {x : Int} (hx : x ∈ xs) : ∃ i, i < xs.length ∧ (sortL xs).getD i 0 = x := by
  obtain ⟨i, hi, e⟩ := List.mem_iff_getElem.1 ((sortL_perm xs).mem_iff.2 hx)
  have hl := sortL_len xs
  exact ⟨i, by omega, by rw [List.getD_eq_getElem?_getD, List.getElem?_eq_getElem hi]; exact e⟩

theorem ask_out {n : Nat} {xs : List Int} (h0 : 0 < xs.length) : (xs.all (fun x => decide (0 ≤ x) && decide (x < n)) = false) ↔ ((sortL xs).getD 0 0 < 0 ∨ (n : Int) ≤ (sortL xs).getD (xs.length - 1) 0) := by
  rw [List.all_eq_false]
  constructor
  · rintro ⟨x, hx, h⟩
    obtain ⟨i, hi, e⟩ := mem_sortL hx
    have h1 := sortL_le (xs := xs) (i := 0) (j := i) (by omega) hi
    have h2 := sortL_le (xs := xs) (i := i) (j := xs.length - 1) (by omega) (by omega)
    rw [e] at h1 h2
    by_cases q : 0 ≤ x
    · right
      have : ¬ x < n := by simpa [q] using h
      omega
    · left; omega
  · rintro (h | h)
    · refine ⟨_, sortL_mem h0, ?_⟩
      generalize (sortL xs).getD 0 0 = y at h
      simp; omega
    · refine ⟨_, sortL_mem (i := xs.length - 1) (by omega), ?_⟩
      generalize (sortL xs).getD (xs.length - 1) 0 = y at h
      simp; omega

theorem compact_len (zs : List Int) : (Go.Lib.compact zs).length = ((List.range zs.length).filter (Go.Lib.keeps zs.toArray)).length := by
  unfold Go.Lib.compact Go.Lib.compactUpTo
  simp

theorem keeps_sort {xs : List Int} {j : Nat} (hj : j < xs.length) : Go.Lib.keeps (sortL xs).toArray j = decide (j = 0 ∨ (sortL xs).getD j 0 ≠ (sortL xs).getD (j - 1) 0) := by
  have hl := sortL_len xs
  unfold Go.Lib.keeps
  have e : ∀ i, i < xs.length → (sortL xs).toArray[i]! = (sortL xs).getD i 0 := fun i hi => by
    rw [List.getD_eq_getElem?_getD, List.getElem?_eq_getElem (by omega : i < (sortL xs).length)]
    simp [getElem!_pos, hl, hi]
  rw [e j hj, e (j - 1) (by omega)]

theorem ask_twice (xs : List Int) : (Go.Lib.compact (sortL xs)).length < xs.length ↔ ¬ xs.Nodup := by
  have hl := sortL_len xs
  rw [compact_len, hl]
  constructor
  · intro h hn
    have hn' : (sortL xs).Nodup := (sortL_perm xs).nodup_iff.2 hn
    have : (List.range xs.length).filter (Go.Lib.keeps (sortL xs).toArray) = List.range xs.length := by
      rw [List.filter_eq_self]
      intro j hj
      have hj := List.mem_range.1 hj
      rw [keeps_sort hj]
      refine decide_eq_true ?_
      by_cases e : j = 0
      · exact .inl e
      · right
        intro q
        rw [List.getD_eq_getElem?_getD, List.getD_eq_getElem?_getD, List.getElem?_eq_getElem (by omega : j < (sortL xs).length), List.getElem?_eq_getElem (by omega : j - 1 < (sortL xs).length)] at q
        have := List.pairwise_iff_getElem.1 (List.nodup_iff_pairwise_ne.1 hn') (j - 1) j (by omega) (by omega) (by omega)
        exact this q.symm
    rw [this] at h
    simp at h
  · intro hn
    have hn' : ¬ (sortL xs).Nodup := fun q => hn ((sortL_perm xs).nodup_iff.1 q)
    rw [List.nodup_iff_pairwise_ne, List.pairwise_iff_getElem] at hn'
    simp only [Classical.not_forall, Classical.not_not] at hn'
    obtain ⟨i, j, hi, hj, hij, e⟩ := hn'
    have e' : (sortL xs).getD i 0 = (sortL xs).getD j 0 := by
      rw [List.getD_eq_getElem?_getD, List.getD_eq_getElem?_getD, List.getElem?_eq_getElem hi, List.getElem?_eq_getElem hj]; exact e
    have h1 := sortL_le (xs := xs) (i := i) (j := j - 1) (by omega) (by omega)
    have h2 := sortL_le (xs := xs) (i := j - 1) (j := j) (by omega) (by omega)
    have hk : Go.Lib.keeps (sortL xs).toArray j = false := by
      rw [keeps_sort (by omega)]
      refine decide_eq_false ?_
      rintro (q | q)
      · omega
      · exact q (by omega)
    have := (List.length_filter_lt_length_iff_exists (p := Go.Lib.keeps (sortL xs).toArray) (l := List.range xs.length)).2 ⟨j, List.mem_range.2 (show j < xs.length by omega), by rw [hk]; simp⟩
    simpa using this

end Go.Proofs.Ytlmpagicjgldkaa
