/-
  LayO: Layer 10, walks: a layer's symbols; bodies in memory.
  LayP: Layer 10, walks: Bodies.
  LayQ: Layer 10, walks: the error of bodies that are held.
-/
import Derived.Test.YtibelpamolcmcaaMxaq
import Derived.Test.YtibelpamolcmcaaMxan
import Derived.Test.YtibelpamolcmcaaMxal
namespace Go.Proofs.Ytibelpamolcmcaa

section -- LayO
open Go.RowKit Go.Maps
set_option linter.unusedVariables false
set_option linter.unusedSimpArgs false
set_option maxRecDepth 100000
set_option maxHeartbeats 2000000

/-- Bodies that grow: rows of their own, of one block. -/
structure OutAt (w : World) (base bo n : Nat) (V : Nat → Value) (L : Nat → List B) : Prop where
  cells : ∃ C : Array Value, w.heap[bo]? = some (.cells C 32 (0, 0)) ∧ C.size = n ∧ ∀ i, i < n → C[i]? = some (V i)
  rows : ∀ i, i < n → Own w base (V i) (L i)
  ne : ∀ i, i < n → ∀ b, (V i).ownBlock = some b → b ≠ bo
  inj : ∀ i j b, i < n → j < n → (V i).ownBlock = some b → (V j).ownBlock = some b → i = j
  low : base ≤ bo
section
variable {w w' : World} {base bo n : Nat} {V : Nat → Value} {L : Nat → List B}
theorem OutAt.lt (h : OutAt w base bo n V L) : bo < w.heap.size := by
  obtain ⟨C, h1, _⟩ := h.cells
  exact (Array.getElem?_eq_some_iff.1 h1).1
theorem OutAt.cell (h : OutAt w base bo n V L) {i : Nat} (hi : i < n) : w.cell? ⟨bo, i, none⟩ = some (V i) := by
  obtain ⟨C, h1, _, h3⟩ := h.cells
  rw [cell_of h1, h3 i hi]
theorem OutAt.fz (h : OutAt w base bo n V L) (i : Nat) : w.frozen? ⟨bo, i, none⟩ = false := by
  obtain ⟨C, h1, _⟩ := h.cells
  exact fz_of h1 i
theorem OutAt.below (h : OutAt w base bo n V L) (hb : Below w.heap.size w w') : OutAt w' base bo n V L := by
  obtain ⟨C, h1, h2⟩ := h.cells
  exact ⟨⟨C, (hb.block bo h.lt).trans h1, h2⟩, fun i hi => (h.rows i hi).below hb, h.ne, h.inj, h.low⟩
theorem OutAt.congr {L' : Nat → List B} (h : OutAt w base bo n V L) (hl : ∀ i, i < n → L i = L' i) : OutAt w base bo n V L' := ⟨h.cells, fun i hi => by rw [← hl i hi]; exact h.rows i hi, h.ne, h.inj, h.low⟩
theorem OutAt.put {w6 : World} {i : Nat} {u' : Value} {l' : List B} (h : OutAt w base bo n V L) (hi : i < n) (hk : Kept (fun k => (V i).ownBlock = some k) w w6) (ho : Own w6 base u' l') (hg : ∀ b, u'.ownBlock = some b → (V i).ownBlock = some b ∨ w.heap.size ≤ b) :
    OutAt (w6.setCell ⟨bo, i, none⟩ u') base bo n (fun j => if j = i then u' else V j) (fun j => if j = i then l' else L j) := by
  have hbl := h.lt
  obtain ⟨C, h1, h2, h3⟩ := h.cells
  have c6 := (hk.block bo hbl (fun e => h.ne i hi bo e rfl)).trans h1
  have hne : ∀ b, u'.ownBlock = some b → b ≠ bo := fun b e q => by
    rcases hg b e with r | r
    · exact h.ne i hi b r q
    · omega
  have k7 := Kept.set1 w6 bo i u'
  refine ⟨⟨_, heap_set c6 u', by simp [h2], fun j hj => ?_⟩, fun j hj => ?_, fun j hj b e => ?_, fun j m b hj hm e1 e2 => ?_, h.low⟩
  · by_cases q : j = i
    · subst q
      rw [if_pos rfl, Array.getElem?_setIfInBounds_self_of_lt (by omega)]
    · rw [if_neg q, Array.getElem?_setIfInBounds_ne (fun r => q r.symm)]
      exact h3 j hj
  · by_cases q : j = i
    · subst q
      simp only [if_pos]
      exact ho.kept k7 (fun b e r => hne b e r)
    · simp only [if_neg q]
      exact ((h.rows j hj).kept hk (fun b e r => q (h.inj j i b hj hi e r))).kept k7 (fun b e r => h.ne j hj b e r)
  · by_cases q : j = i
    · subst q
      simp only [if_pos] at e
      exact hne b e
    · simp only [if_neg q] at e
      exact h.ne j hj b e
  · have old : ∀ x, x < n → (V x).ownBlock = some b → b < w.heap.size := fun x hx e => ((h.rows x hx).blk b e).2
    by_cases q1 : j = i <;> by_cases q2 : m = i
    · omega
    · subst q1
      simp only [if_pos] at e1
      simp only [if_neg q2] at e2
      rcases hg b e1 with r | r
      · exact h.inj j m b hj hm r e2
      · have := old m hm e2; omega
    · subst q2
      simp only [if_pos] at e2
      simp only [if_neg q1] at e1
      rcases hg b e2 with r | r
      · exact h.inj j m b hj hm e1 r
      · have := old j hj e1; omega
    · simp only [if_neg q1] at e1
      simp only [if_neg q2] at e2
      exact h.inj j m b hj hm e1 e2
theorem OutAt.lone (h : OutAt w base bo n V L) (hn : n ≤ 1000) : RowsLone w base (.slice (some ⟨bo, 0, none⟩) n n) ((List.range n).map L) := by
  obtain ⟨C, h1, h2, h3⟩ := h.cells
  have hC : C.toList = (List.range n).map V := by
    apply List.ext_getElem?
    intro i
    rw [Array.getElem?_toList]
    by_cases hi : i < n
    · rw [h3 i hi]; simp [hi]
    · rw [Array.getElem?_eq_none (by omega), List.getElem?_eq_none (by simp; omega)]
  have hV : ∀ i u, ((List.range n).map V)[i]? = some u → i < n ∧ u = V i := fun i u hu => by
    have hi : i < n := by
      have := (List.getElem?_eq_some_iff.1 hu).1
      simpa using this
    exact ⟨hi, by simpa [hi] using hu.symm⟩
  refine ⟨(List.range n).map V, ⟨by simp, .inr ⟨bo, n, C, by simp, h.low, h1, by simp, by unfold maxLen; omega, by rw [h2, Nat.mul_one], ?_⟩⟩, fun i u hu => ?_, fun i j u z b hu hz e1 e2 => ?_⟩
  · rw [hC, List.take_of_length_le (by simp)]
  · obtain ⟨hi, rfl⟩ := hV i u hu
    rw [getD_range _ _ hi]
    exact ⟨h.rows i hi, fun b e q => h.ne i hi b e (by have := own_is q; exact this.symm)⟩
  · obtain ⟨hi, rfl⟩ := hV i u hu
    obtain ⟨hj, rfl⟩ := hV j z hz
    exact h.inj i j b hi hj e1 e2
end
end -- LayO

section -- LayP
open Go.RowKit Go.Maps
set_option linter.unusedVariables false
set_option linter.unusedSimpArgs false
set_option maxRecDepth 100000
set_option maxHeartbeats 4000000

def bodE (n : Int) (ls : List (List B)) (ks : List Int) : Int := if ls.length = ks.length ∧ TableOk n (tabL ls ks) then 0 else 2
theorem tabL_snoc {ls : List (List B)} {ks : List Int} {j : Nat} (h : j < ks.length) : (tabL ls ks).take (j + 1) = (tabL ls ks).take j ++ [(ks.getD j 0, ((ls.getD j []).length : Int))] := by
  rw [List.take_add_one, List.getElem?_eq_getElem (by rw [tabL_len]; exact h)]
  congr 1
  have := tabL_get (ls := ls) h
  rw [List.getD_eq_getElem?_getD, List.getElem?_eq_getElem (by rw [tabL_len]; exact h)] at this
  simpa using this
end -- LayP

section -- LayQ
open Go.RowKit Go.Maps
set_option linter.unusedVariables false
set_option linter.unusedSimpArgs false
set_option maxRecDepth 100000
set_option maxHeartbeats 4000000

theorem heldE_bad {n : Int} {long : Nat} {hs : List (Int × List B)} {j : Nat} (hj : j < hs.length) (h : ¬ (0 ≤ (hs.getD j (0, [])).1 ∧ (hs.getD j (0, [])).1 < n ∧ (hs.getD j (0, [])).2.length = long)) : heldE n long hs = 2 := by
  unfold heldE
  rw [if_neg (fun h2 => h (heldE_all.1 h2 j hj))]
theorem hIdx_snocT {hs : List (Int × List B)} {j : Nat} (h : j < hs.length) : (hIdx hs).take (j + 1) = (hIdx hs).take j ++ [(hs.getD j (0, [])).1] := by
  have hl : j < (hIdx hs).length := by simpa [hIdx] using h
  rw [List.take_add_one, List.getElem?_eq_getElem hl]
  have := hIdxT_get h
  rw [List.getD_eq_getElem?_getD, List.getElem?_eq_getElem hl] at this
  simp only [Option.getD_some] at this
  rw [this]
  rfl
theorem nodup_snoc {l : List Int} {x : Int} : (l ++ [x]).Nodup ↔ l.Nodup ∧ l.count x = 0 := by
  rw [List.nodup_append, List.count_eq_zero]
  constructor
  · rintro ⟨h1, _, h3⟩
    exact ⟨h1, fun h => h3 x h x (by simp) rfl⟩
  · rintro ⟨h1, h2⟩
    refine ⟨h1, by simp, fun a ha b hb e => ?_⟩
    rw [List.mem_singleton] at hb
    subst hb
    exact h2 (e ▸ ha)
theorem count_snoc (l : List Int) (x y : Int) : (l ++ [x]).count y = l.count y + if x = y then 1 else 0 := by
  rw [List.count_append, List.count_singleton]
  by_cases h : x = y
  · subst h; simp
  · simp [h]
end -- LayQ

end Go.Proofs.Ytibelpamolcmcaa
