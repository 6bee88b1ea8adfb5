/-
  CodeQa: Walks of layer 5 (code): mix.
  CodeSc: Walk of layer 5 (code): asked.
  CodeRa: Walks of layer 3 (rows): scale, add.
-/
import Derived.Test.YtibelpamolcmcaaMxah
import Derived.Test.YtibelpamolcmcaaMxae
import Derived.Test.YtibelpamolcmcaaMxaf
import Derived.Test.YtibelpamolcmcaaQuietTail
namespace Go.Proofs.Ytibelpamolcmcaa

section -- CodeQa
open Go.RowKit Go.Maps
set_option linter.unusedVariables false
set_option maxRecDepth 100000
set_option maxHeartbeats 2000000

/-- The sum of the first m rows, and of one more in the first t places. -/
def mixQ (ws : List B) (l : List (List B)) (wide m t : Nat) : List B := (List.range wide).map fun i => if i < t then sm (m + 1) (fun k => (l.getD k []).getD i 0 * ws.getD k 0) else sm m (fun k => (l.getD k []).getD i 0 * ws.getD k 0)
theorem mixQ_len (ws : List B) (l : List (List B)) (wide m t : Nat) : (mixQ ws l wide m t).length = wide := by simp [mixQ]
theorem mixQ_get {ws : List B} {l : List (List B)} {wide m t : Nat} (h : t < wide) : (mixQ ws l wide m t).getD t 0 = sm m (fun k => (l.getD k []).getD t 0 * ws.getD k 0) := by
  unfold mixQ
  rw [getD_range _ _ h, if_neg (by omega)]
theorem mixQ_set {ws : List B} {l : List (List B)} {wide m t : Nat} (h : t < wide) : (mixQ ws l wide m t).set t (sm m (fun k => (l.getD k []).getD t 0 * ws.getD k 0) + (l.getD m []).getD t 0 * ws.getD m 0) = mixQ ws l wide m (t + 1) := by
  apply List.ext_getElem
  · simp [mixQ]
  · intro i h1 h2
    simp [mixQ] at h1
    rw [List.getElem_set]
    simp only [mixQ, List.getElem_map, List.getElem_range]
    by_cases e : t = i
    · subst e; rw [if_pos rfl, if_pos (by omega)]; rfl
    · rw [if_neg e]
      by_cases q : i < t
      · rw [if_pos q, if_pos (by omega)]
      · rw [if_neg q, if_neg (by omega)]
theorem mixQ_next (ws : List B) (l : List (List B)) (wide m : Nat) : mixQ ws l wide m wide = mixQ ws l wide (m + 1) 0 := by
  unfold mixQ
  apply List.map_congr_left
  intro i hi
  have := List.mem_range.1 hi
  rw [if_pos this, if_neg (by omega)]
theorem mixQ_skip {ws : List B} {l : List (List B)} {wide m : Nat} (h : ws.getD m 0 = 0) : mixQ ws l wide m 0 = mixQ ws l wide (m + 1) 0 := by
  unfold mixQ
  apply List.map_congr_left
  intro i hi
  rw [if_neg (by omega), if_neg (by omega)]
  show _ = sm m _ + (l.getD m []).getD i 0 * ws.getD m 0
  rw [h]; grind
theorem mixQ_start (ws : List B) (l : List (List B)) (wide : Nat) : mixQ ws l wide 0 0 = List.replicate wide 0 := by
  apply List.ext_getElem
  · simp [mixQ]
  · intro i h1 h2
    simp [mixQ, sm]
theorem mixQ_end (ws : List B) (l : List (List B)) (wide : Nat) : mixQ ws l wide ws.length 0 = mixL ws l wide := by
  unfold mixQ mixL
  apply List.map_congr_left
  intro i hi
  rw [if_neg (by omega)]
end -- CodeQa

section -- CodeSc
open Go.RowKit Go.Maps Go.Shelf Go.Sort
set_option linter.unusedVariables false
set_option maxRecDepth 100000
set_option maxHeartbeats 2000000
end -- CodeSc

section -- CodeRa
open Go.RowKit Go.Maps
set_option linter.unusedVariables false
set_option maxRecDepth 100000
set_option maxHeartbeats 2000000

/-- A row, told place by place; one that is worked out as far as t. -/
def rowL (n : Nat) (f : Nat → B) : List B := (List.range n).map f
def progL (n : Nat) (f g : Nat → B) (t : Nat) : List B := rowL n fun i => if i < t then f i else g i
theorem rowL_len (n : Nat) (f : Nat → B) : (rowL n f).length = n := by simp [rowL]
theorem rowL_get {n i : Nat} (f : Nat → B) (h : i < n) : (rowL n f).getD i 0 = f i := getD_range _ _ h
theorem rowL_congr {n : Nat} {f g : Nat → B} (h : ∀ i, i < n → f i = g i) : rowL n f = rowL n g := List.map_congr_left fun i hi => h i (List.mem_range.1 hi)
theorem progL_len (n : Nat) (f g : Nat → B) (t : Nat) : (progL n f g t).length = n := rowL_len _ _
theorem progL_get {n t : Nat} (f g : Nat → B) (h : t < n) : (progL n f g t).getD t 0 = g t := by
  unfold progL
  rw [rowL_get _ h, if_neg (by omega)]
theorem progL_set {n t : Nat} (f g : Nat → B) (h : t < n) : (progL n f g t).set t (f t) = progL n f g (t + 1) := by
  apply List.ext_getElem
  · simp [progL, rowL]
  · intro i h1 h2
    simp [progL, rowL] at h1
    rw [List.getElem_set]
    simp only [progL, rowL, List.getElem_map, List.getElem_range]
    by_cases e : t = i
    · subst e; rw [if_pos rfl, if_pos (by omega)]
    · rw [if_neg e]
      by_cases q : i < t
      · rw [if_pos q, if_pos (by omega)]
      · rw [if_neg q, if_neg (by omega)]
theorem progL_zero (n : Nat) (f g : Nat → B) : progL n f g 0 = rowL n g := rowL_congr fun i _ => if_neg (by omega)
theorem progL_all (n : Nat) (f g : Nat → B) : progL n f g n = rowL n f := rowL_congr fun i h => if_pos h
theorem list_rowL (l : List B) : l = rowL l.length fun i => l.getD i 0 := by
  apply List.ext_getElem
  · simp [rowL]
  · intro i h1 h2
    simp [rowL, List.getD_eq_getElem?_getD, List.getElem?_eq_getElem h1]
end -- CodeRa

end Go.Proofs.Ytibelpamolcmcaa
