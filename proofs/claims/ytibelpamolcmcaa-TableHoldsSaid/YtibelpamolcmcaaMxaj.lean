/-
  CodeRb: A matrix that a call owns; walks of layer 3 (rows): steps's closure, IndexFunc.
  CodeRc: Walks of layer 3 (rows): IndexFunc, steps.
  CodeRd: Walks of layer 3 (rows): wide, Right, copied, Clone.
-/
import Derived.Test.YtibelpamolcmcaaMxai
import Derived.BigRegion
import Derived.Laws.CopyOwn
namespace Go.Proofs.Ytibelpamolcmcaa

section -- CodeRb
open Go.RowKit Go.Maps
set_option linter.unusedVariables false
set_option maxRecDepth 100000
set_option maxHeartbeats 2000000

/-- A matrix in memory: the outer block gm; row r in the block U r, of that capacity. -/
structure MatW (w : World) (gm k W : Nat) (U : Nat → Nat × Nat) (M : Nat → Nat → B) : Prop where
  outer : ∃ C : Array Value, w.heap[gm]? = some (.cells C 32 (0, 0)) ∧ C.size = k ∧ ∀ r, r < k → C[r]? = some (.slice (some ⟨(U r).1, 0, none⟩) W (U r).2)
  row : ∀ r, r < k → RowC w (U r).1 (U r).2 (rowL W (M r))
  inj : ∀ r s, r < k → s < k → (U r).1 = (U s).1 → r = s
  ne : ∀ r, r < k → (U r).1 ≠ gm

/-- The blocks of a matrix. -/
def matB (gm k : Nat) (U : Nat → Nat × Nat) (i : Nat) : Prop := i = gm ∨ ∃ r, r < k ∧ (U r).1 = i

section
variable {w w' : World} {gm k W : Nat} {U : Nat → Nat × Nat} {M : Nat → Nat → B}
theorem MatW.out (h : MatW w gm k W U M) {r : Nat} (hr : r < k) : w.cell? ⟨gm, r, none⟩ = some (.slice (some ⟨(U r).1, 0, none⟩) W (U r).2) := by
  obtain ⟨C, h1, h2, h3⟩ := h.outer
  rw [cell_of h1, h3 r hr]
theorem MatW.fz (h : MatW w gm k W U M) (o : Nat) : w.frozen? ⟨gm, o, none⟩ = false := by
  obtain ⟨C, h1, h2, h3⟩ := h.outer
  exact fz_of h1 o
theorem MatW.lt (h : MatW w gm k W U M) : gm < w.heap.size := by
  obtain ⟨C, h1, h2, h3⟩ := h.outer
  exact (Array.getElem?_eq_some_iff.1 h1).1
theorem MatW.cell (h : MatW w gm k W U M) {r j : Nat} (hr : r < k) (hj : j < W) : w.cell? ⟨(U r).1, j, none⟩ = some (bv (M r j)) := by
  have := (h.row r hr).cell (i := j) (by rw [rowL_len]; exact hj)
  rw [rowL_get _ hj] at this
  exact this
theorem MatW.kept {S : Nat → Prop} (h : MatW w gm k W U M) (hk : Kept S w w') (hS : ∀ i, matB gm k U i → ¬ S i) : MatW w' gm k W U M := by
  obtain ⟨C, h1, h2, h3⟩ := h.outer
  exact ⟨⟨C, (hk.block gm h.lt (hS gm (.inl rfl))).trans h1, h2, h3⟩, fun r hr => (h.row r hr).kept hk (hS _ (.inr ⟨r, hr, rfl⟩)), h.inj, h.ne⟩
theorem MatW.dr (h : MatW w gm k W U M) (n : Nat) : MatW (w.drewN n) gm k W U M := ⟨h.outer, h.row, h.inj, h.ne⟩
/-- A row turns. -/
theorem MatW.turn (h : MatW w gm k W U M) {r : Nat} (hr : r < k) {f : Nat → B} (hk : Kept (fun i => i = (U r).1) w w') (hR : RowC w' (U r).1 (U r).2 (rowL W f)) : MatW w' gm k W U (fun i => if i = r then f else M i) := by
  obtain ⟨C, h1, h2, h3⟩ := h.outer
  refine ⟨⟨C, (hk.block gm h.lt (fun e => h.ne r hr e.symm)).trans h1, h2, h3⟩, fun i hi => ?_, h.inj, h.ne⟩
  by_cases e : i = r
  · subst e
    have : (fun j => (if i = i then f else M i) j) = f := by simp
    simpa using hR
  · simp only [if_neg e]
    exact (h.row i hi).kept hk (fun q => e (h.inj i r hi hr q))
theorem MatW.congr {M' : Nat → Nat → B} (h : MatW w gm k W U M) (he : ∀ r j, r < k → j < W → M r j = M' r j) : MatW w gm k W U M' :=
  ⟨h.outer, fun r hr => by rw [← rowL_congr (fun j hj => he r j hr hj)]; exact h.row r hr, h.inj, h.ne⟩
/-- Two rows, one for another. -/
def swapU (U : Nat → Nat × Nat) (c p : Nat) : Nat → Nat × Nat := fun r => if r = c then U p else if r = p then U c else U r
theorem MatW.swap (h : MatW w gm k W U M) {c p : Nat} (hc : c < k) (hp : p < k) :
    MatW ((w.setCell ⟨gm, c, none⟩ (.slice (some ⟨(U p).1, 0, none⟩) W (U p).2)).setCell ⟨gm, p, none⟩ (.slice (some ⟨(U c).1, 0, none⟩) W (U c).2)) gm k W (swapU U c p) (swapM M c p) := by
  obtain ⟨C, h1, h2, h3⟩ := h.outer
  have k1 : Kept (fun i => i = gm) w ((w.setCell ⟨gm, c, none⟩ (.slice (some ⟨(U p).1, 0, none⟩) W (U p).2)).setCell ⟨gm, p, none⟩ (.slice (some ⟨(U c).1, 0, none⟩) W (U c).2)) :=
    (Kept.set1 _ _ _ _).trans (Kept.set1 _ _ _ _) (fun _ _ h => h)
  have hu : ∀ r, r < k → ∃ s, s < k ∧ swapU U c p r = U s ∧ swapM M c p r = M s ∧ (r = c → s = p) ∧ (r = p → s = c) ∧ (r ≠ c → r ≠ p → s = r) := by
    intro r hr
    unfold swapU swapM
    by_cases e1 : r = c
    · exact ⟨p, hp, by rw [if_pos e1], by rw [if_pos e1], fun _ => rfl, fun e => by omega, fun e => absurd e1 e⟩
    · by_cases e2 : r = p
      · exact ⟨c, hc, by rw [if_neg e1, if_pos e2], by rw [if_neg e1, if_pos e2], fun e => absurd e e1, fun _ => rfl, fun _ e => absurd e2 e⟩
      · exact ⟨r, hr, by rw [if_neg e1, if_neg e2], by rw [if_neg e1, if_neg e2], fun e => absurd e e1, fun e => absurd e e2, fun _ _ => rfl⟩
  refine ⟨⟨(C.setIfInBounds c _).setIfInBounds p _, heap_set (heap_set h1 _) _, by simpa using h2, fun r hr => ?_⟩, fun r hr => ?_, fun r s hr hs e => ?_, fun r hr => ?_⟩
  · unfold swapU
    by_cases e2 : r = p
    · subst e2
      rw [Array.getElem?_setIfInBounds_self_of_lt (by simp; omega)]
      by_cases e1 : r = c
      · subst e1; rw [if_pos rfl]
      · rw [if_neg e1, if_pos rfl]
    · rw [Array.getElem?_setIfInBounds_ne (fun e => e2 e.symm)]
      by_cases e1 : r = c
      · subst e1
        rw [Array.getElem?_setIfInBounds_self_of_lt (by omega), if_pos rfl]
      · rw [Array.getElem?_setIfInBounds_ne (fun e => e1 e.symm), if_neg e1, if_neg e2]
        exact h3 r hr
  · obtain ⟨s, hs, e1, e2, _⟩ := hu r hr
    rw [e1, e2]
    exact (h.row s hs).kept k1 (h.ne s hs)
  · obtain ⟨a, ha, a1, _, a3, a4, a5⟩ := hu r hr
    obtain ⟨b, hb, b1, _, b3, b4, b5⟩ := hu s hs
    rw [a1, b1] at e
    have hab := h.inj a b ha hb e
    by_cases r1 : r = c <;> by_cases r2 : r = p <;> by_cases s1 : s = c <;> by_cases s2 : s = p <;> simp_all
  · obtain ⟨s, hs, e1, _⟩ := hu r hr
    rw [e1]; exact h.ne s hs
theorem matB_swap {c p : Nat} (hc : c < k) (hp : p < k) {i : Nat} (h : matB gm k (swapU U c p) i) : matB gm k U i := by
  rcases h with h | ⟨r, hr, h⟩
  · exact .inl h
  · unfold swapU at h
    by_cases e1 : r = c
    · rw [if_pos e1] at h; exact .inr ⟨p, hp, h⟩
    · rw [if_neg e1] at h
      by_cases e2 : r = p
      · rw [if_pos e2] at h; exact .inr ⟨c, hc, h⟩
      · rw [if_neg e2] at h; exact .inr ⟨r, hr, h⟩
end
end -- CodeRb

section -- CodeRc
open Go.RowKit Go.Maps
set_option linter.unusedVariables false
set_option maxRecDepth 100000
set_option maxHeartbeats 2000000
end -- CodeRc

section -- CodeRd
open Go.RowKit Go.Maps
set_option linter.unusedVariables false
set_option maxRecDepth 100000
set_option maxHeartbeats 2000000

/-- A place, by the list. -/
def lsM (ls : List (List B)) (r c : Nat) : B := (ls.getD r []).getD c 0
theorem lsM_row {ls : List (List B)} {wd r : Nat} (h : (ls.getD r []).length = wd) : rowL wd (lsM ls r) = ls.getD r [] := by
  conv => rhs; rw [list_rowL (ls.getD r []), h]
  rfl

/-- The first rows of a matrix that is being made. -/
structure MatP (w : World) (gm k W : Nat) (U : Nat → Nat × Nat) (M : Nat → Nat → B) : Prop where
  outer : ∃ C : Array Value, w.heap[gm]? = some (.cells C 32 (0, 0)) ∧ k ≤ C.size ∧ ∀ r, r < k → C[r]? = some (.slice (some ⟨(U r).1, 0, none⟩) W (U r).2)
  row : ∀ r, r < k → RowC w (U r).1 (U r).2 (rowL W (M r))
  inj : ∀ r s, r < k → s < k → (U r).1 = (U s).1 → r = s
  ne : ∀ r, r < k → (U r).1 ≠ gm
theorem MatP.lt {w : World} {gm k W : Nat} {U : Nat → Nat × Nat} {M : Nat → Nat → B} (h : MatP w gm k W U M) : gm < w.heap.size := by
  obtain ⟨C, h1, h2, h3⟩ := h.outer
  exact (Array.getElem?_eq_some_iff.1 h1).1
theorem MatP.toW {w : World} {gm k W : Nat} {U : Nat → Nat × Nat} {M : Nat → Nat → B} (h : MatP w gm k W U M) {C : Array Value} (hC : w.heap[gm]? = some (.cells C 32 (0, 0))) (hCs : C.size = k) : MatW w gm k W U M := by
  obtain ⟨C', h1, h2, h3⟩ := h.outer
  have : C' = C := by rw [h1] at hC; simpa using hC
  subst this
  exact ⟨⟨C', h1, hCs, h3⟩, h.row, h.inj, h.ne⟩

/-- One more row. -/
theorem MatP.grow {w w5 : World} {gm j W g cp : Nat} {U : Nat → Nat × Nat} {M : Nat → Nat → B} {C : Array Value} (h : MatP w gm j W U M) (hj : j < C.size)
    (hC : w.heap[gm]? = some (.cells C 32 (0, 0))) (hC5 : w5.heap[gm]? = some (.cells (C.setIfInBounds j (.slice (some ⟨g, 0, none⟩) W cp)) 32 (0, 0)))
    (hk : Kept (fun i => i = gm ∨ i = g) w w5) (hg : g ≠ gm) (hf : ∀ r, r < j → (U r).1 ≠ g) (hr : RowC w5 g cp (rowL W (M j))) :
    MatP w5 gm (j + 1) W (fun r => if r = j then (g, cp) else U r) M := by
  obtain ⟨C', h1, h2, h3⟩ := h.outer
  have : C' = C := by rw [h1] at hC; simpa using hC
  subst this
  refine ⟨⟨_, hC5, by simp; omega, fun r hr' => ?_⟩, fun r hr' => ?_, fun r s hr' hs e => ?_, fun r hr' => ?_⟩
  · by_cases e : r = j
    · subst e; rw [Array.getElem?_setIfInBounds_self_of_lt hj]; simp
    · rw [Array.getElem?_setIfInBounds_ne (fun q => e q.symm), h3 r (by omega)]; simp [e]
  · by_cases e : r = j
    · subst e; simpa using hr
    · simp only [if_neg e]
      exact (h.row r (by omega)).kept hk (fun q => q.elim (h.ne r (by omega)) (hf r (by omega)))
  · by_cases e1 : r = j <;> by_cases e2 : s = j
    · omega
    · simp only [if_pos e1, if_neg e2] at e; exact absurd e.symm (hf s (by omega))
    · simp only [if_neg e1, if_pos e2] at e; exact absurd e (hf r (by omega))
    · simp only [if_neg e1, if_neg e2] at e; exact h.inj r s (by omega) (by omega) e
  · by_cases e : r = j
    · simpa only [if_pos e] using hg
    · simp only [if_neg e]; exact h.ne r (by omega)

theorem splice_all (z l : List Value) (h : z.length = l.length) : splice z 0 l = l := by
  unfold splice
  simp [List.drop_eq_nil_of_le (show z.length ≤ l.length by omega)]

theorem infoB1 : (Try.prog.info? 5).map (·.size) = some 1 := by kernel_rfl

/-- copy, into a block that is as long. -/
theorem run_copy_bytes {W : World} {g n c : Nat} {p : Option Addr} {cu : Nat} {z l : List B} (hz : RowF W g z) (hzn : z.length = n) (hln : l.length = n) (hs : 0 < n → ∃ gs os, p = some ⟨gs, os, none⟩ ∧ ∀ i, i < n → W.cell? ⟨gs, os + i, none⟩ = some (bv (l.getD i 0))) :
    ∃ W5, (Builtin.copy_ #[32, 32] 3 #[.slice (some ⟨g, 0, none⟩) n c, .slice p n cu]).run Try.prog W = .ok (.int .i64 (n : Int)) W5 ∧ RowF W5 g l ∧ Kept (fun i => i = g) W W5 := by
  by_cases h0 : n = 0
  · subst h0
    have : l = z := by rw [List.eq_nil_of_length_eq_zero hln, List.eq_nil_of_length_eq_zero hzn]
    exact ⟨W, run_copy_none W _ _ _ 5 _ p 0 c 0 cu Try.underlying32 infoB1 rfl, by rw [this]; exact hz, Kept.refl _ _⟩
  · obtain ⟨gs, os, rfl, hc⟩ := hs (by omega)
    have hr := run_copy_row (P := Try.prog) W 32 32 3 5 g 0 n c ⟨gs, os, none⟩ n cu (z.map bv).toArray 5 (l.map bv) Try.underlying32 infoB1 hz (by simp [hln]) (fun j v hj => by
      have hjn : j < l.length := by
        have := (List.getElem?_eq_some_iff.1 hj).1
        simpa using this
      have e : (⟨gs, os, none⟩ : Addr).add j = ⟨gs, os + j, none⟩ := by unfold Addr.add; split <;> simp_all
      rw [e, hc j (by omega)]
      rw [map_getD_bv hjn] at hj
      exact hj) (by simp [hzn, hln]) (fun v hv => by obtain ⟨x, _, rfl⟩ := List.mem_map.1 hv; rfl)
    have hd : (z.map bv).drop n = [] := List.drop_eq_nil_of_le (by simp [hzn])
    refine ⟨W.setRow g (l.map bv).toArray, by simpa [goInt, hln, hd] using hr, ?_, ⟨rfl, rfl, rfl, by simp, fun i _ hi => setRow_other _ _ _ _ hi⟩⟩
    exact setRow_heap W g _ _ _ _ hz
end -- CodeRd

end Go.Proofs.Ytibelpamolcmcaa
