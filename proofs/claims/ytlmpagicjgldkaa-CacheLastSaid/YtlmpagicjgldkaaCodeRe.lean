/-
  A matrix whose rows may be of unlike lengths; Clone.
-/
import Derived.Test.YtlmpagicjgldkaaCodeRc
import Derived.Test.YtlmpagicjgldkaaCodeRd
import Derived.WalkSpells
namespace Go.Proofs.Ytlmpagicjgldkaa
open Go.RowKit Go.Maps
set_option linter.unusedVariables false
set_option maxRecDepth 100000
set_option maxHeartbeats 2000000

structure MatV (w : World) (gm k : Nat) (W : Nat → Nat) (U : Nat → Nat × Nat) (M : Nat → Nat → B) : Prop where
  outer : ∃ C : Array Value, w.heap[gm]? = some (.cells C 57 (0, 0)) ∧ C.size = k ∧ ∀ r, r < k → C[r]? = some (.slice (some ⟨(U r).1, 0, none⟩) (W r) (U r).2)
  row : ∀ r, r < k → RowC w (U r).1 (U r).2 (rowL (W r) (M r))
  inj : ∀ r s, r < k → s < k → (U r).1 = (U s).1 → r = s
  ne : ∀ r, r < k → (U r).1 ≠ gm

section
variable {w w' : World} {gm k : Nat} {W : Nat → Nat} {U : Nat → Nat × Nat} {M : Nat → Nat → B}
theorem MatV.toW {wd : Nat} (h : MatV w gm k W U M) (hW : ∀ r, r < k → W r = wd) : MatW w gm k wd U M := by
  obtain ⟨C, h1, h2, h3⟩ := h.outer
  exact ⟨⟨C, h1, by omega, fun r hr => by rw [h3 r hr, hW r hr]⟩, fun r hr => by rw [← hW r hr]; exact h.row r hr, h.inj, h.ne⟩
theorem MatW.toV {wd : Nat} (h : MatW w gm k wd U M) {C : Array Value} (hC : w.heap[gm]? = some (.cells C 57 (0, 0))) (hCs : C.size = k) : MatV w gm k (fun _ => wd) U M := by
  obtain ⟨C', h1, h2, h3⟩ := h.outer
  have : C' = C := by rw [h1] at hC; simpa using hC
  subst this
  exact ⟨⟨C', h1, hCs, h3⟩, h.row, h.inj, h.ne⟩
theorem MatV.out (h : MatV w gm k W U M) {r : Nat} (hr : r < k) : w.cell? ⟨gm, r, none⟩ = some (.slice (some ⟨(U r).1, 0, none⟩) (W r) (U r).2) := by
  obtain ⟨C, h1, h2, h3⟩ := h.outer
  rw [cell_of h1, h3 r hr]
theorem MatV.fz (h : MatV w gm k W U M) (o : Nat) : w.frozen? ⟨gm, o, none⟩ = false := by
  obtain ⟨C, h1, h2, h3⟩ := h.outer
  exact fz_of h1 o
theorem MatV.lt (h : MatV w gm k W U M) : gm < w.heap.size := by
  obtain ⟨C, h1, h2, h3⟩ := h.outer
  exact (Array.getElem?_eq_some_iff.1 h1).1
theorem MatV.congr {W' : Nat → Nat} {M' : Nat → Nat → B} (h : MatV w gm k W U M) (hW : ∀ r, r < k → W r = W' r) (he : ∀ r j, r < k → j < W r → M r j = M' r j) : MatV w gm k W' U M' := by
  obtain ⟨C, h1, h2, h3⟩ := h.outer
  exact ⟨⟨C, h1, h2, fun r hr => by rw [h3 r hr, hW r hr]⟩, fun r hr => by rw [← hW r hr, ← rowL_congr (fun j hj => he r j hr hj)]; exact h.row r hr, h.inj, h.ne⟩
theorem MatV.kept {S : Nat → Prop} (h : MatV w gm k W U M) (hk : Kept S w w') (hS : ∀ i, matB gm k U i → ¬ S i) : MatV w' gm k W U M := by
  obtain ⟨C, h1, h2, h3⟩ := h.outer
  exact ⟨⟨C, (hk.block gm h.lt (hS gm (.inl rfl))).trans h1, h2, h3⟩, fun r hr => (h.row r hr).kept hk (hS _ (.inr ⟨r, hr, rfl⟩)), h.inj, h.ne⟩
/-- A row gives way to another: first the new row is there (w1), then its slice is stored. -/
theorem MatV.put {w1 : World} (h : MatV w gm k W U M) {j g cp wd : Nat} {f : Nat → B} (hj : j < k) {S : Nat → Prop} (hk : Kept S w w1) (hS1 : ¬ S gm) (hS2 : ∀ r, r < k → r ≠ j → ¬ S (U r).1)
    (hg : g ≠ gm) (hf : ∀ r, r < k → r ≠ j → (U r).1 ≠ g) (hr : RowC w1 g cp (rowL wd f)) :
    MatV (w1.setCell ⟨gm, j, none⟩ (.slice (some ⟨g, 0, none⟩) wd cp)) gm k (fun r => if r = j then wd else W r) (fun r => if r = j then (g, cp) else U r) (fun r => if r = j then f else M r) := by
  obtain ⟨C, h1, h2, h3⟩ := h.outer
  have h1' := (hk.block gm h.lt hS1).trans h1
  have ks := Kept.set1 w1 gm j (.slice (some ⟨g, 0, none⟩) wd cp)
  refine ⟨⟨_, heap_set h1' _, by simpa using h2, fun r hr' => ?_⟩, fun r hr' => ?_, fun r s hr' hs e => ?_, fun r hr' => ?_⟩
  · by_cases e : r = j
    · subst e; rw [Array.getElem?_setIfInBounds_self_of_lt (by omega)]; simp
    · rw [Array.getElem?_setIfInBounds_ne (fun q => e q.symm), h3 r hr']; simp [e]
  · by_cases e : r = j
    · subst e; simpa using hr.kept ks hg
    · simp only [if_neg e]
      exact ((h.row r hr').kept hk (hS2 r hr' e)).kept ks (h.ne r hr')
  · by_cases e1 : r = j <;> by_cases e2 : s = j
    · omega
    · simp only [if_pos e1, if_neg e2] at e; exact absurd e.symm (hf s hs e2)
    · simp only [if_neg e1, if_pos e2] at e; exact absurd e (hf r hr' e1)
    · simp only [if_neg e1, if_neg e2] at e; exact h.inj r s hr' hs e
  · by_cases e : r = j
    · simpa only [if_pos e] using hg
    · simp only [if_neg e]; exact h.ne r hr'
theorem MatW.rowsAt {wd c : Nat} (h : MatW w gm k wd U M) : RowsAt w (.slice (some ⟨gm, 0, none⟩) k c) ((List.range k).map fun r => rowL wd (M r)) := by
  refine ⟨some ⟨gm, 0, none⟩, c, by simp, fun _ => ⟨gm, 0, rfl, fun i hi => ?_⟩⟩
  simp at hi
  refine ⟨_, by rw [Nat.zero_add]; exact h.out hi, ?_⟩
  rw [getD_range _ _ hi]
  have := (h.row i hi).toW.toBytes (U i).2
  rw [rowL_len] at this
  exact this
end

/-- Clone of bytes. -/
theorem clone_any (w : World) (gs os n cs : Nat) (l : List B) (hn : l.length = n) (h0 : 0 < n) (hn2 : n ≤ 1000000000) (hc : ∀ i, i < n → w.cell? ⟨gs, os + i, none⟩ = some (bv (l.getD i 0))) :
    Calls Try.prog 20 #[.slice (some ⟨gs, os, none⟩) n cs] w fun e w' => ∃ g c, e = .returned (.slice (some ⟨g, 0, none⟩) n c) ∧ RowC w' g c l ∧ w.heap.size ≤ g ∧ Below w.heap.size w w' := by
  have HC := Lib.hid hc
  have lg := blt (hc 0 h0)
  clear hc
  have he := Lib.run_eql_slice_nil (P := Try.prog) w 57 5 (some ⟨gs, os, none⟩) n cs 0 0 Try.underlying57
  simp only [Option.isNone_some] at he
  have kA := Kept.alloc (fun _ => False) w (.cells #[] 5)
  have hE := Lib.hid (World.ownsRow_made w #[] (e := 5) (size := 1) 0 (Nat.le_refl _) (Nat.zero_le _) rfl)
  go_enter Try.func20, Try.ntmps20
  go_wp2_with (at_builtin; refine app_bytes 57 Try.underlying57 rfl _ _ rfl w.heap.size 0 n (.slice (some ⟨w.heap.size, 0, none⟩) 0 0) [] l rfl hn rfl (hE.out) gs os cs rfl (fun i hi => (kA.at0 (os + i) (b := gs) lg).trans (HC.out i hi)) h0 (by omega) (by simp) ?_; intro g' c' w3 hr3 hb3 hk3 hg3)
  go_ret
  refine ⟨g', c', rfl, hr3, hb3, ?_⟩
  have h1 : Below w.heap.size w (w.alloc (.cells #[] 5)) := (Below.refl _ _).alloc (Nat.le_refl _) _
  exact h1.trans (Kept.toBelow hk3 (B := w.heap.size) (by simp) (fun i h => by have := own_is h; omega))

end Go.Proofs.Ytlmpagicjgldkaa
