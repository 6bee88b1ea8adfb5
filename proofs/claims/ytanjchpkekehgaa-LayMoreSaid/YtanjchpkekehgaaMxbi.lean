/-
  RefH: Walks of the reference, layer 5 (code): New, points, source.
  RefI: Walks of the reference, layer 5 (code): rows, moved.
-/
import Derived.Test.YtanjchpkekehgaaMxaz
import Derived.Test.YtanjchpkekehgaaMxap
namespace Go.Proofs.Ytanjchpkekehgaa

section -- RefH
open Go.RowKit Go.Maps
set_option linter.unusedVariables false
set_option maxRecDepth 100000
set_option maxHeartbeats 2000000

section
variable {w w' : World} {b n k : Nat}
end

theorem ofB_mk {k : Nat} (h : k < 256) : (⟨k, h⟩ : B) = ofB k := B.ext (Nat.mod_eq_of_lt h).symm
end -- RefH

section -- RefI
open Go.RowKit Go.Maps
set_option linter.unusedVariables false
set_option maxRecDepth 100000
set_option maxHeartbeats 4000000

def gridV (wide : Nat) (g : Nat → Nat) (r : Nat) : Value := .slice (some ⟨g r, 0, none⟩) wide wide
/-- Rows that were made: the outer cells, each row in a block of its own. -/
structure GridAt (w : World) (base : Nat) (v : Value) (n wide : Nat) (g : Nat → Nat) (M : Nat → Nat → B) : Prop where
  outer : w.ownsRow base 37 1 v n ((List.range n).map (gridV wide g))
  row : ∀ r, r < n → RowF w (g r) (rowL wide (M r))
  ne : ∀ r, r < n → v.ownBlock ≠ some (g r)
  inj : ∀ r s, r < n → s < n → g r = g s → r = s
  low : ∀ r, r < n → base ≤ g r

section
variable {w w' : World} {base n wide : Nat} {v : Value} {g : Nat → Nat} {M : Nat → Nat → B}
theorem GridAt.kept {S : Nat → Prop} (h : GridAt w base v n wide g M) (hk : Kept S w w') (h1 : ∀ b, v.ownBlock = some b → ¬ S b) (h2 : ∀ r, r < n → ¬ S (g r)) : GridAt w' base v n wide g M :=
  ⟨ownsRow_keptS h.outer hk h1, fun r hr => (h.row r hr).kept hk (h2 r hr), h.ne, h.inj, h.low⟩
theorem GridAt.below (h : GridAt w base v n wide g M) (hb : Below w.heap.size w w') : GridAt w' base v n wide g M := h.kept (Kept.below hb) (fun _ _ h => h) (fun _ _ h => h)
theorem GridAt.congr {M' : Nat → Nat → B} (h : GridAt w base v n wide g M) (he : ∀ r j, r < n → j < wide → M r j = M' r j) : GridAt w base v n wide g M' :=
  ⟨h.outer, fun r hr => by rw [← rowL_congr (fun j hj => he r j hr hj)]; exact h.row r hr, h.ne, h.inj, h.low⟩
theorem GridAt.dr (h : GridAt w base v n wide g M) (q : Nat) : GridAt (w.drewN q) base v n wide g M := ⟨h.outer, h.row, h.ne, h.inj, h.low⟩
theorem GridAt.at' (h : GridAt w base v n wide g M) (h0 : 0 < n) : ∃ b c, v = .slice (some ⟨b, 0, none⟩) n c ∧ base ≤ b ∧ b < w.heap.size ∧ ∀ r, r < n → w.cell? ⟨b, r, none⟩ = some (gridV wide g r) := by
  obtain ⟨ho1, ho2⟩ := h.outer
  rcases ho2 with ⟨_, hz⟩ | ⟨b, c, cur, e, h2, h3, h4, h5, h6, h7⟩
  · omega
  · refine ⟨b, c, e, h2, (Array.getElem?_eq_some_iff.1 h3).1, fun r hr => ?_⟩
    have : ((List.range n).map (gridV wide g))[r]? = some (gridV wide g r) := by simp [hr]
    rw [← h7, List.getElem?_take, if_pos (by omega), Array.getElem?_toList] at this
    rw [cell_of h3, this]
theorem GridAt.shape (h : GridAt w base v n wide g M) : ∃ p c, v = .slice p n c := by
  obtain ⟨ho1, ho2⟩ := h.outer
  rcases ho2 with ⟨e, hz⟩ | ⟨b, c, cur, e, _⟩
  · subst hz; exact ⟨none, 0, e⟩
  · exact ⟨_, c, e⟩
theorem GridAt.rows (h : GridAt w base v n wide g M) : RowsAt w v ((List.range n).map fun r => rowL wide (M r)) := by
  refine RowsAt.of_owns (base := base) (us := (List.range n).map (gridV wide g)) (by simpa using h.outer) (fun i u hu => ?_)
  have hi : i < n := by
    have := (List.getElem?_eq_some_iff.1 hu).1
    simpa using this
  have e : u = gridV wide g i := by simpa [hi] using hu.symm
  subst e
  rw [getD_range _ _ hi]
  have := (h.row i hi).toBytes wide
  rw [rowL_len] at this
  exact this
/-- One byte is written. -/
theorem GridAt.set (h : GridAt w base v n wide g M) {r j : Nat} (hr : r < n) (hj : j < wide) (x : B) : GridAt (w.setCell ⟨g r, j, none⟩ (bv x)) base v n wide g (fun a b => if a = r ∧ b = j then x else M a b) := by
  have hk : Kept (fun i => i = g r) w (w.setCell ⟨g r, j, none⟩ (bv x)) := Kept.set1 _ _ _ _
  refine ⟨ownsRow_keptS h.outer hk (fun b hb e => h.ne r hr (by rw [hb, e])), fun s hs => ?_, h.ne, h.inj, h.low⟩
  by_cases e : s = r
  · subst e
    have := (h.row s hs).set (i := j) (by rw [rowL_len]; exact hj) x
    have e2 : (rowL wide (M s)).set j x = rowL wide (fun b => if s = s ∧ b = j then x else M s b) := by
      apply List.ext_getElem
      · simp [rowL]
      · intro i h1 h2
        simp [rowL] at h1
        rw [List.getElem_set]
        simp only [rowL, List.getElem_map, List.getElem_range, true_and]
        by_cases q : j = i
        · rw [if_pos q, if_pos q.symm]
        · rw [if_neg q, if_neg (fun z => q z.symm)]
    rw [← e2]; exact this
  · have e2 : rowL wide (fun b => if s = r ∧ b = j then x else M s b) = rowL wide (M s) := rowL_congr (fun b _ => if_neg (fun z => e z.1))
    rw [e2]
    exact (h.row s hs).kept hk (fun z => e (h.inj s r hs hr z))
end
end -- RefI

end Go.Proofs.Ytanjchpkekehgaa
