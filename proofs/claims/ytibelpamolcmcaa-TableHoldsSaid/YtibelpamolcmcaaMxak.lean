/-
  CodeRe: A matrix whose rows may be of unlike lengths; Clone.
  CodeRf: Walk of layer 3 (rows): Inverse.
  OwnA: Rows of bytes, each in a block of its own: no two in one.
-/
import Derived.Test.YtibelpamolcmcaaMxaj
import Derived.WalkSpells
import Derived.Test.YtibelpamolcmcaaMxaf
import Derived.Test.YtibelpamolcmcaaMxah
namespace Go.Proofs.Ytibelpamolcmcaa

section -- CodeRe
open Go.RowKit Go.Maps
set_option linter.unusedVariables false
set_option maxRecDepth 100000
set_option maxHeartbeats 2000000

structure MatV (w : World) (gm k : Nat) (W : Nat → Nat) (U : Nat → Nat × Nat) (M : Nat → Nat → B) : Prop where
  outer : ∃ C : Array Value, w.heap[gm]? = some (.cells C 32 (0, 0)) ∧ C.size = k ∧ ∀ r, r < k → C[r]? = some (.slice (some ⟨(U r).1, 0, none⟩) (W r) (U r).2)
  row : ∀ r, r < k → RowC w (U r).1 (U r).2 (rowL (W r) (M r))
  inj : ∀ r s, r < k → s < k → (U r).1 = (U s).1 → r = s
  ne : ∀ r, r < k → (U r).1 ≠ gm

section
variable {w w' : World} {gm k : Nat} {W : Nat → Nat} {U : Nat → Nat × Nat} {M : Nat → Nat → B}
theorem MatV.toW {wd : Nat} (h : MatV w gm k W U M) (hW : ∀ r, r < k → W r = wd) : MatW w gm k wd U M := by
  obtain ⟨C, h1, h2, h3⟩ := h.outer
  exact ⟨⟨C, h1, by omega, fun r hr => by rw [h3 r hr, hW r hr]⟩, fun r hr => by rw [← hW r hr]; exact h.row r hr, h.inj, h.ne⟩
theorem MatW.toV {wd : Nat} (h : MatW w gm k wd U M) {C : Array Value} (hC : w.heap[gm]? = some (.cells C 32 (0, 0))) (hCs : C.size = k) : MatV w gm k (fun _ => wd) U M := by
  obtain ⟨C', h1, h2, h3⟩ := h.outer
  have : C' = C := by rw [h1] at hC; simpa using hC
  subst this
  exact ⟨⟨C', h1, hCs, h3⟩, h.row, h.inj, h.ne⟩
theorem MatV.out (h : MatV w gm k W U M) {r : Nat} (hr : r < k) : w.cell? ⟨gm, r, none⟩ = some (.slice (some ⟨(U r).1, 0, none⟩) (W r) (U r).2) := by
  obtain ⟨C, h1, h2, h3⟩ := h.outer
  rw [cell_of h1, h3 r hr]
theorem MatV.fz (h : MatV w gm k W U M) (o : Nat) : w.frozen? ⟨gm, o, none⟩ = false := by
  obtain ⟨C, h1, h2, h3⟩ := h.outer
  exact fz_of h1 o
theorem MatV.lt (h : MatV w gm k W U M) : gm < w.heap.size := by
  obtain ⟨C, h1, h2, h3⟩ := h.outer
  exact (Array.getElem?_eq_some_iff.1 h1).1
theorem MatV.congr {W' : Nat → Nat} {M' : Nat → Nat → B} (h : MatV w gm k W U M) (hW : ∀ r, r < k → W r = W' r) (he : ∀ r j, r < k → j < W r → M r j = M' r j) : MatV w gm k W' U M' := by
  obtain ⟨C, h1, h2, h3⟩ := h.outer
  exact ⟨⟨C, h1, h2, fun r hr => by rw [h3 r hr, hW r hr]⟩, fun r hr => by rw [← hW r hr, ← rowL_congr (fun j hj => he r j hr hj)]; exact h.row r hr, h.inj, h.ne⟩
theorem MatV.kept {S : Nat → Prop} (h : MatV w gm k W U M) (hk : Kept S w w') (hS : ∀ i, matB gm k U i → ¬ S i) : MatV w' gm k W U M := by
  obtain ⟨C, h1, h2, h3⟩ := h.outer
  exact ⟨⟨C, (hk.block gm h.lt (hS gm (.inl rfl))).trans h1, h2, h3⟩, fun r hr => (h.row r hr).kept hk (hS _ (.inr ⟨r, hr, rfl⟩)), h.inj, h.ne⟩
/-- A row gives way to another: first the new row is there (w1), then its slice is stored. -/
theorem MatV.put {w1 : World} (h : MatV w gm k W U M) {j g cp wd : Nat} {f : Nat → B} (hj : j < k) {S : Nat → Prop} (hk : Kept S w w1) (hS1 : ¬ S gm) (hS2 : ∀ r, r < k → r ≠ j → ¬ S (U r).1)
    (hg : g ≠ gm) (hf : ∀ r, r < k → r ≠ j → (U r).1 ≠ g) (hr : RowC w1 g cp (rowL wd f)) :
    MatV (w1.setCell ⟨gm, j, none⟩ (.slice (some ⟨g, 0, none⟩) wd cp)) gm k (fun r => if r = j then wd else W r) (fun r => if r = j then (g, cp) else U r) (fun r => if r = j then f else M r) := by
  obtain ⟨C, h1, h2, h3⟩ := h.outer
  have h1' := (hk.block gm h.lt hS1).trans h1
  have ks := Kept.set1 w1 gm j (.slice (some ⟨g, 0, none⟩) wd cp)
  refine ⟨⟨_, heap_set h1' _, by simpa using h2, fun r hr' => ?_⟩, fun r hr' => ?_, fun r s hr' hs e => ?_, fun r hr' => ?_⟩
  · by_cases e : r = j
    · subst e; rw [Array.getElem?_setIfInBounds_self_of_lt (by omega)]; simp
    · rw [Array.getElem?_setIfInBounds_ne (fun q => e q.symm), h3 r hr']; simp [e]
  · by_cases e : r = j
    · subst e; simpa using hr.kept ks hg
    · simp only [if_neg e]
      exact ((h.row r hr').kept hk (hS2 r hr' e)).kept ks (h.ne r hr')
  · by_cases e1 : r = j <;> by_cases e2 : s = j
    · omega
    · simp only [if_pos e1, if_neg e2] at e; exact absurd e.symm (hf s hs e2)
    · simp only [if_neg e1, if_pos e2] at e; exact absurd e (hf r hr' e1)
    · simp only [if_neg e1, if_neg e2] at e; exact h.inj r s hr' hs e
  · by_cases e : r = j
    · simpa only [if_pos e] using hg
    · simp only [if_neg e]; exact h.ne r hr'
theorem MatW.rowsAt {wd c : Nat} (h : MatW w gm k wd U M) : RowsAt w (.slice (some ⟨gm, 0, none⟩) k c) ((List.range k).map fun r => rowL wd (M r)) := by
  refine ⟨some ⟨gm, 0, none⟩, c, by simp, fun _ => ⟨gm, 0, rfl, fun i hi => ?_⟩⟩
  simp at hi
  refine ⟨_, by rw [Nat.zero_add]; exact h.out hi, ?_⟩
  rw [getD_range _ _ hi]
  have := (h.row i hi).toW.toBytes (U i).2
  rw [rowL_len] at this
  exact this
end
end -- CodeRe

section -- CodeRf
open Go.RowKit Go.Maps
set_option linter.unusedVariables false
set_option linter.unusedSimpArgs false
set_option maxRecDepth 100000
set_option maxHeartbeats 4000000

/-- The unit beside a matrix. -/
def besideM (k : Nat) (A : Nat → Nat → B) (r j : Nat) : B := if j < k then A r j else if j - k = r then 1 else 0

theorem unit_len (k j : Nat) : ((List.replicate k (0 : B)).set j 1).length = k := by simp
theorem beside_row {k r : Nat} (A : Nat → Nat → B) : rowL k (A r) ++ (List.replicate k (0 : B)).set r 1 = rowL (k + k) (besideM k A r) := by
  apply List.ext_getElem
  · simp [rowL]
  · intro i h1 h2
    simp only [rowL, List.getElem_map, List.getElem_range, besideM]
    by_cases e : i < k
    · rw [if_pos e, List.getElem_append_left (by simpa [rowL] using e)]
      simp
    · rw [if_neg e, List.getElem_append_right (by simp [rowL]; omega)]
      simp only [List.length_map, List.length_range, List.getElem_set, List.getElem_replicate]
      by_cases q : r = i - k
      · rw [if_pos q, if_pos q.symm]
      · rw [if_neg q, if_neg (fun e => q e.symm)]
end -- CodeRf

section -- OwnA
open Go.RowKit Go.Maps
set_option linter.unusedVariables false

/-- A slice of bytes that owns its block. -/
def Own (w : World) (base : Nat) (v : Value) (l : List B) : Prop := w.ownsRow base 5 1 v l.length (l.map bv)

section
variable {w w' : World} {base : Nat} {v : Value} {l : List B}
theorem Own.bytes (h : Own w base v l) : BytesAt w v l := BytesAt.of_owns h
theorem Own.kept {S : Nat → Prop} (h : Own w base v l) (hk : Kept S w w') (hS : ∀ b, v.ownBlock = some b → ¬ S b) : Own w' base v l := ownsRow_keptS h hk hS
theorem Own.below (h : Own w base v l) (hb : Below w.heap.size w w') : Own w' base v l := h.kept (Kept.below hb) (fun _ _ h => h)
theorem Own.blk (h : Own w base v l) : ∀ b, v.ownBlock = some b → base ≤ b ∧ b < w.heap.size := World.ownsRow.lt h
theorem Own.weaken {base' : Nat} (h : Own w base v l) (hb : base' ≤ base) : Own w base' v l := ownsRow_weaken h hb
theorem Own.nil (w : World) (base : Nat) : Own w base (.slice none 0 0) [] := World.ownsRow_nil _ _ _ _
theorem Own.shape (h : Own w base v l) : ∃ p c, v = .slice p l.length c := h.bytes.shape
theorem Own.row (h : Own w base v l) (hl : 0 < l.length) : ∃ g c, v = .slice (some ⟨g, 0, none⟩) l.length c ∧ base ≤ g ∧ RowC w g c l := by
  have h' := h
  obtain ⟨h0, h1⟩ := h
  rcases h1 with ⟨_, hz⟩ | ⟨g, cap, cur, e, h2, h3, h4, h5, h6, h7⟩
  · omega
  · exact ⟨g, cap, e, h2, RowC.of_owns (base := base) (by rw [← e]; exact h')⟩
theorem RowF.own {g : Nat} (h : RowF w g l) (hb : base ≤ g) (hl : l.length ≤ maxLen) : Own w base (.slice (some ⟨g, 0, none⟩) l.length l.length) l := (h.toC hl).owns hb
theorem RowC.own {g c : Nat} (h : RowC w g c l) (hb : base ≤ g) : Own w base (.slice (some ⟨g, 0, none⟩) l.length c) l := h.owns hb
theorem Own.alloc (h : Own w base v l) (x : Obj) : Own (w.alloc x) base v l := h.kept (Kept.alloc (fun _ => False) w x) (fun _ _ h => h)
theorem Own.set (h : Own w base v l) {i : Nat} (hi : i < l.length) {g c : Nat} (e : v = .slice (some ⟨g, 0, none⟩) l.length c) (x : B) : Own (w.setCell ⟨g, i, none⟩ (bv x)) base v (l.set i x) := by
  subst e
  have hb := (h.blk g (by simp [Value.ownBlock])).1
  have := (RowC.of_owns h).set hi x
  have h2 := this.own hb
  rwa [List.length_set] at h2
end

/-- Rows that are owned, each one in a block that is no other's. -/
def RowsLone (w : World) (base : Nat) (v : Value) (ls : List (List B)) : Prop := ∃ us, w.ownsRow base 32 1 v ls.length us ∧
  (∀ i u, us[i]? = some u → Own w base u (ls.getD i []) ∧ ∀ b, u.ownBlock = some b → v.ownBlock ≠ some b) ∧
  ∀ (i j : Nat) (u z : Value) (b : Nat), us[i]? = some u → us[j]? = some z → u.ownBlock = some b → z.ownBlock = some b → i = j

section
variable {w w' : World} {base : Nat} {v : Value} {ls : List (List B)}
theorem RowsLone.nil (w : World) (base : Nat) : RowsLone w base (.slice none 0 0) [] := ⟨[], World.ownsRow_nil _ _ _ _, fun i u h => by simp at h, fun i j u z b h => by simp at h⟩
theorem RowsLone.own (h : RowsLone w base v ls) : RowsOwn w base v ls := by
  obtain ⟨us, h1, h2, h3⟩ := h
  exact ⟨us, h1, fun i u hi => ⟨(h2 i u hi).1.bytes, fun b hb => ⟨((h2 i u hi).1.blk b hb).2, (h2 i u hi).2 b hb⟩⟩⟩
theorem RowsLone.rows (h : RowsLone w base v ls) : RowsAt w v ls := h.own.rows
theorem RowsLone.lt (h : RowsLone w base v ls) : ∀ k, v.ownBlock = some k → base ≤ k ∧ k < w.heap.size := h.own.lt
theorem RowsLone.kept {S : Nat → Prop} (h : RowsLone w base v ls) (hk : Kept S w w') (hS : ∀ k, k < w.heap.size → base ≤ k → ¬ S k) : RowsLone w' base v ls := by
  obtain ⟨us, h1, h2, h3⟩ := h
  exact ⟨us, ownsRow_keptS h1 hk (fun g hg => hS g (h1.lt g hg).2 (h1.lt g hg).1), fun i u hi => ⟨(h2 i u hi).1.kept hk (fun b hb => hS b ((h2 i u hi).1.blk b hb).2 ((h2 i u hi).1.blk b hb).1), (h2 i u hi).2⟩, h3⟩
theorem RowsLone.below (h : RowsLone w base v ls) (hb : Below w.heap.size w w') : RowsLone w' base v ls := h.kept (Kept.below hb) (fun _ _ _ h => h)
theorem RowsLone.weaken {base' : Nat} (h : RowsLone w base v ls) (hb : base' ≤ base) : RowsLone w base' v ls := by
  obtain ⟨us, h1, h2, h3⟩ := h
  exact ⟨us, ownsRow_weaken h1 hb, fun i u hi => ⟨(h2 i u hi).1.weaken hb, (h2 i u hi).2⟩, h3⟩
end
end -- OwnA

end Go.Proofs.Ytibelpamolcmcaa
