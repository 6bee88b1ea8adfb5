/-
  A matrix that a call owns; walks of layer 3 (rows): steps's closure, IndexFunc.
-/
import Derived.Test.YtanjchpkekehgaaGreatMxai
namespace Go.Proofs.YtanjchpkekehgaaGreat
open Go.RowKit Go.Maps
set_option linter.unusedVariables false
set_option maxRecDepth 100000
set_option maxHeartbeats 2000000

/-- A matrix in memory: the outer block gm; row r in the block U r, of that capacity. -/
structure MatW (w : World) (gm k W : Nat) (U : Nat → Nat × Nat) (M : Nat → Nat → B) : Prop where
  outer : ∃ C : Array Value, w.heap[gm]? = some (.cells C 50 (0, 0)) ∧ C.size = k ∧ ∀ r, r < k → C[r]? = some (.slice (some ⟨(U r).1, 0, none⟩) W (U r).2)
  row : ∀ r, r < k → RowC w (U r).1 (U r).2 (rowL W (M r))
  inj : ∀ r s, r < k → s < k → (U r).1 = (U s).1 → r = s
  ne : ∀ r, r < k → (U r).1 ≠ gm

/-- The blocks of a matrix. -/
def matB (gm k : Nat) (U : Nat → Nat × Nat) (i : Nat) : Prop := i = gm ∨ ∃ r, r < k ∧ (U r).1 = i

section
variable {w w' : World} {gm k W : Nat} {U : Nat → Nat × Nat} {M : Nat → Nat → B}
theorem MatW.out (h : MatW w gm k W U M) {r : Nat} (hr : r < k) : w.cell? ⟨gm, r, none⟩ = some (.slice (some ⟨(U r).1, 0, none⟩) W (U r).2) := by
  obtain ⟨C, h1, h2, h3⟩ := h.outer
  rw [cell_of h1, h3 r hr]
theorem MatW.fz (h : MatW w gm k W U M) (o : Nat) : w.frozen? ⟨gm, o, none⟩ = false := by
  obtain ⟨C, h1, h2, h3⟩ := h.outer
  exact fz_of h1 o
theorem MatW.lt (h : MatW w gm k W U M) : gm < w.heap.size := by
  obtain ⟨C, h1, h2, h3⟩ := h.outer
  exact (Array.getElem?_eq_some_iff.1 h1).1
theorem MatW.cell (h : MatW w gm k W U M) {r j : Nat} (hr : r < k) (hj : j < W) : w.cell? ⟨(U r).1, j, none⟩ = some (bv (M r j)) := by
  have := (h.row r hr).cell (i := j) (by rw [rowL_len]; exact hj)
  rw [rowL_get _ hj] at this
  exact this
theorem MatW.kept {S : Nat → Prop} (h : MatW w gm k W U M) (hk : Kept S w w') (hS : ∀ i, matB gm k U i → ¬ S i) : MatW w' gm k W U M := by
  obtain ⟨C, h1, h2, h3⟩ := h.outer
  exact ⟨⟨C, (hk.block gm h.lt (hS gm (.inl rfl))).trans h1, h2, h3⟩, fun r hr => (h.row r hr).kept hk (hS _ (.inr ⟨r, hr, rfl⟩)), h.inj, h.ne⟩
theorem MatW.dr (h : MatW w gm k W U M) (n : Nat) : MatW (w.drewN n) gm k W U M := ⟨h.outer, h.row, h.inj, h.ne⟩
/-- A row turns. -/
theorem MatW.turn (h : MatW w gm k W U M) {r : Nat} (hr : r < k) {f : Nat → B} (hk : Kept (fun i => i = (U r).1) w w') (hR : RowC w' (U r).1 (U r).2 (rowL W f)) : MatW w' gm k W U (fun i => if i = r then f else M i) := by
  obtain ⟨C, h1, h2, h3⟩ := h.outer
  refine ⟨⟨C, (hk.block gm h.lt (fun e => h.ne r hr e.symm)).trans h1, h2, h3⟩, fun i hi => ?_, h.inj, h.ne⟩
  by_cases e : i = r
  · subst e
    have : (fun j => (if i = i then f else M i) j) = f := by simp
    simpa using hR
  · simp only [if_neg e]
    exact (h.row i hi).kept hk (fun q => e (h.inj i r hi hr q))
theorem MatW.congr {M' : Nat → Nat → B} (h : MatW w gm k W U M) (he : ∀ r j, r < k → j < W → M r j = M' r j) : MatW w gm k W U M' :=
  ⟨h.outer, fun r hr => by rw [← rowL_congr (fun j hj => he r j hr hj)]; exact h.row r hr, h.inj, h.ne⟩
/-- Two rows, one for another. -/
def swapU (U : Nat → Nat × Nat) (c p : Nat) : Nat → Nat × Nat := fun r => if r = c then U p else if r = p then U c else U r
theorem MatW.swap (h : MatW w gm k W U M) {c p : Nat} (hc : c < k) (hp : p < k) :
    MatW ((w.setCell ⟨gm, c, none⟩ (.slice (some ⟨(U p).1, 0, none⟩) W (U p).2)).setCell ⟨gm, p, none⟩ (.slice (some ⟨(U c).1, 0, none⟩) W (U c).2)) gm k W (swapU U c p) (swapM M c p) := by
  obtain ⟨C, h1, h2, h3⟩ := h.outer
  have k1 : Kept (fun i => i = gm) w ((w.setCell ⟨gm, c, none⟩ (.slice (some ⟨(U p).1, 0, none⟩) W (U p).2)).setCell ⟨gm, p, none⟩ (.slice (some ⟨(U c).1, 0, none⟩) W (U c).2)) :=
    (Kept.set1 _ _ _ _).trans (Kept.set1 _ _ _ _) (fun _ _ h => h)
  have hu : ∀ r, r < k → ∃ s, s < k ∧ swapU U c p r = U s ∧ swapM M c p r = M s ∧ (r = c → s = p) ∧ (r = p → s = c) ∧ (r ≠ c → r ≠ p → s = r) := by
    intro r hr
    unfold swapU swapM
    by_cases e1 : r = c
    · exact ⟨p, hp, by rw [if_pos e1], by rw [if_pos e1], fun _ => rfl, fun e => by omega, fun e => absurd e1 e⟩
    · by_cases e2 : r = p
      · exact ⟨c, hc, by rw [if_neg e1, if_pos e2], by rw [if_neg e1, if_pos e2], fun e => absurd e e1, fun _ => rfl, fun _ e => absurd e2 e⟩
      · exact ⟨r, hr, by rw [if_neg e1, if_neg e2], by rw [if_neg e1, if_neg e2], fun e => absurd e e1, fun e => absurd e e2, fun _ _ => rfl⟩
  refine ⟨⟨(C.setIfInBounds c _).setIfInBounds p _, heap_set (heap_set h1 _) _, by simpa using h2, fun r hr => ?_⟩, fun r hr => ?_, fun r s hr hs e => ?_, fun r hr => ?_⟩
  · unfold swapU
    by_cases e2 : r = p
    · subst e2
      rw [Array.getElem?_setIfInBounds_self_of_lt (by simp; omega)]
      by_cases e1 : r = c
      · subst e1; rw [if_pos rfl]
      · rw [if_neg e1, if_pos rfl]
    · rw [Array.getElem?_setIfInBounds_ne (fun e => e2 e.symm)]
      by_cases e1 : r = c
      · subst e1
        rw [Array.getElem?_setIfInBounds_self_of_lt (by omega), if_pos rfl]
      · rw [Array.getElem?_setIfInBounds_ne (fun e => e1 e.symm), if_neg e1, if_neg e2]
        exact h3 r hr
  · obtain ⟨s, hs, e1, e2, _⟩ := hu r hr
    rw [e1, e2]
    exact (h.row s hs).kept k1 (h.ne s hs)
  · obtain ⟨a, ha, a1, _, a3, a4, a5⟩ := hu r hr
    obtain ⟨b, hb, b1, _, b3, b4, b5⟩ := hu s hs
    rw [a1, b1] at e
    have hab := h.inj a b ha hb e
    by_cases r1 : r = c <;> by_cases r2 : r = p <;> by_cases s1 : s = c <;> by_cases s2 : s = p <;> simp_all
  · obtain ⟨s, hs, e1, _⟩ := hu r hr
    rw [e1]; exact h.ne s hs
theorem matB_swap {c p : Nat} (hc : c < k) (hp : p < k) {i : Nat} (h : matB gm k (swapU U c p) i) : matB gm k U i := by
  rcases h with h | ⟨r, hr, h⟩
  · exact .inl h
  · unfold swapU at h
    by_cases e1 : r = c
    · rw [if_pos e1] at h; exact .inr ⟨p, hp, h⟩
    · rw [if_neg e1] at h
      by_cases e2 : r = p
      · rw [if_pos e2] at h; exact .inr ⟨c, hc, h⟩
      · rw [if_neg e2] at h; exact .inr ⟨r, hr, h⟩
end

theorem steps1_any (w : World) (bc g c : Nat) (f : Nat → B) (n cp : Nat) (hb : w.cell? ⟨bc, 0, none⟩ = some (.int .i64 (c : Int))) (hr : w.cell? ⟨g, c, none⟩ = some (bv (f c))) (hc : c < n) (hn : n ≤ 1000000000) :
    Calls Tryz.prog 134 #[.slice (some ⟨g, 0, none⟩) n cp, .pointer (some ⟨bc, 0, none⟩)] w fun e w' => e = .returned (.bool ((f c).v != 0)) ∧ w = w' := by
  obtain ⟨x, hx⟩ : ∃ x, f c = x := ⟨_, rfl⟩
  rw [hx] at hr ⊢
  clear hx
  go_enter Tryz.func134, Tryz.ntmps134
  go_wp2
  go_ret
  refine ⟨?_, rfl⟩
  have := bne_cast x.v 0
  show Ending.returned (.bool ((x.v : Int) != 0)) = _
  rw [← this]; rfl

end Go.Proofs.YtanjchpkekehgaaGreat
