/-
  Matrices over bytes: steps (Gauss, Jordan); the matrix that turns symbols to their source: plain.
-/
import Derived.Test.YtanjchpkekehgaaGreatMxaa
namespace Go.Proofs.YtanjchpkekehgaaGreat

/-- What holds of a matrix of k rows, k + k columns, when its first c columns are done: by A. -/
structure Done (k c : Nat) (A M : Nat → Nat → B) : Prop where
  unit : ∀ r j, r < k → j < c → M r j = if r = j then 1 else 0
  rel : ∀ r j, r < k → j < k → M r j = sm k (fun s => M r (k + s) * A s j)
  ker : ∀ v : Nat → B, (∀ r, r < k → sm k (fun j => M r j * v j) = 0) → ∀ j, j < k → v j = 0

/-- Two rows, one for another. -/
def swapM (M : Nat → Nat → B) (c p : Nat) : Nat → Nat → B := fun r => if r = c then M p else if r = p then M c else M r
/-- A row, times a byte. -/
def scaleM (M : Nat → Nat → B) (c : Nat) (by' : B) : Nat → Nat → B := fun r j => if r = c then M r j * by' else M r j
/-- To each other row the row number c, by what stands in its column number c. -/
def clearM (M : Nat → Nat → B) (c : Nat) : Nat → Nat → B := fun r j => if r = c then M r j else M r j + M c j * M r c

theorem Done.start {k : Nat} {A : Nat → Nat → B} (h : ∀ v : Nat → B, (∀ r, r < k → sm k (fun j => A r j * v j) = 0) → ∀ j, j < k → v j = 0)
    {M : Nat → Nat → B} (h1 : ∀ r j, r < k → j < k → M r j = A r j) (h2 : ∀ r s, r < k → s < k → M r (k + s) = if r = s then 1 else 0) : Done k 0 A M := by
  refine ⟨fun r j _ hj => by omega, fun r j hr hj => ?_, fun v hv => h v (fun r hr => ?_)⟩
  · rw [h1 r j hr hj, sm_one hr (fun i hi hne => by rw [h2 r i hr hi, if_neg (fun e => hne e.symm)]; grind), h2 r r hr hr, if_pos rfl]; grind
  · rw [← hv r hr]
    exact sm_congr (fun j hj => by rw [h1 r j hr hj])

theorem Done.pivot {k c : Nat} {A M : Nat → Nat → B} (h : Done k c A M) (hc : c < k) : ∃ p, c ≤ p ∧ p < k ∧ M p c ≠ 0 := by
  by_cases hx : ∃ p, c ≤ p ∧ p < k ∧ M p c ≠ 0
  · exact hx
  · exfalso
    have hz : ∀ p, c ≤ p → p < k → M p c = 0 := fun p h1 h2 => by
      by_cases e : M p c = 0
      · exact e
      · exact absurd ⟨p, h1, h2, e⟩ hx
    have := h.ker (fun j => if j < c then M j c else if j = c then 1 else 0) (fun r hr => ?_) c hc
    · rw [if_neg (by omega), if_pos rfl] at this
      exact B.one_ne this
    · by_cases hrc : r < c
      · -- two terms: r and c
        have e : sm k (fun j => M r j * (if j < c then M j c else if j = c then 1 else 0)) = sm k (fun j => (if j = r then M r c else 0) + (if j = c then M r c else 0)) := by
          refine sm_congr (fun j hj => ?_)
          by_cases h1 : j < c
          · rw [if_pos h1, h.unit r j hr h1, if_neg (show ¬ j = c by omega)]
            by_cases h2 : r = j
            · subst h2; rw [if_pos rfl, if_pos rfl]; grind
            · rw [if_neg h2, if_neg (fun e => h2 e.symm)]; grind
          · rw [if_neg h1, if_neg (show ¬ j = r by omega)]
            by_cases h2 : j = c
            · subst h2; rw [if_pos rfl, if_pos rfl]; grind
            · rw [if_neg h2, if_neg h2]; grind
        rw [e, sm_add, sm_one hr (fun i _ hne => by rw [if_neg hne]), sm_one hc (fun i _ hne => by rw [if_neg hne]), if_pos rfl, if_pos rfl]
        exact B.add_self _
      · refine sm_zero (fun j hj => ?_)
        by_cases h1 : j < c
        · rw [h.unit r j hr h1, if_neg (by omega)]; grind
        · by_cases h2 : j = c
          · subst h2; rw [hz r (by omega) hr]; grind
          · rw [if_neg h1, if_neg h2]; grind

theorem Done.swap {k c p : Nat} {A M : Nat → Nat → B} (h : Done k c A M) (hp : c ≤ p) (hpk : p < k) : Done k c A (swapM M c p) := by
  have hw : ∀ r, r < k → ∃ q, q < k ∧ swapM M c p r = M q ∧ (r < c → q = r) ∧ (c ≤ r → c ≤ q) := by
    intro r hr
    unfold swapM
    by_cases h1 : r = c
    · exact ⟨p, hpk, by rw [if_pos h1], fun _ => by omega, fun _ => hp⟩
    · by_cases h2 : r = p
      · exact ⟨c, by omega, by rw [if_neg h1, if_pos h2], fun _ => by omega, fun _ => by omega⟩
      · exact ⟨r, hr, by rw [if_neg h1, if_neg h2], fun _ => rfl, fun q => q⟩
  have hb : ∀ q, q < k → ∃ r, r < k ∧ swapM M c p r = M q := by
    intro q hq
    unfold swapM
    by_cases h1 : q = c
    · by_cases h2 : p = c
      · exact ⟨c, by omega, by rw [if_pos rfl, h2, h1]⟩
      · exact ⟨p, hpk, by rw [if_neg h2, if_pos rfl, h1]⟩
    · by_cases h2 : q = p
      · exact ⟨c, by omega, by rw [if_pos rfl, h2]⟩
      · exact ⟨q, hq, by rw [if_neg h1, if_neg h2]⟩
  refine ⟨fun r j hr hj => ?_, fun r j hr hj => ?_, fun v hv => h.ker v (fun q hq => ?_)⟩
  · obtain ⟨q, hq, e, h1, h2⟩ := hw r hr
    rw [e, h.unit q j hq hj]
    by_cases hrc : r < c
    · rw [h1 hrc]
    · rw [if_neg (by have := h2 (by omega); omega), if_neg (by omega)]
  · obtain ⟨q, hq, e, _, _⟩ := hw r hr
    rw [e, h.rel q j hq hj]
  · obtain ⟨r, hr, e⟩ := hb q hq
    rw [← e]; exact hv r hr

theorem Done.scale {k c : Nat} {A M : Nat → Nat → B} (h : Done k c A M) {b : B} (hb : b ≠ 0) : Done k c A (scaleM M c b) := by
  refine ⟨fun r j hr hj => ?_, fun r j hr hj => ?_, fun v hv => h.ker v (fun r hr => ?_)⟩
  · unfold scaleM
    by_cases e : r = c
    · rw [if_pos e, h.unit r j hr hj, if_neg (by omega)]; grind
    · rw [if_neg e, h.unit r j hr hj]
  · unfold scaleM
    by_cases e : r = c
    · simp only [if_pos e]
      rw [h.rel r j hr hj, B.mul_comm', ← sm_mul]
      exact sm_congr (fun s _ => by grind)
    · simp only [if_neg e]
      exact h.rel r j hr hj
  · have := hv r hr
    unfold scaleM at this
    by_cases e : r = c
    · simp only [if_pos e] at this
      have e2 : sm k (fun j => M r j * b * v j) = b * sm k (fun j => M r j * v j) := by
        rw [← sm_mul]
        exact sm_congr (fun s _ => by grind)
      rw [e2] at this
      by_cases ez : sm k (fun j => M r j * v j) = 0
      · exact ez
      · exact absurd this (B.mul_ne hb ez)
    · simpa only [if_neg e] using this

theorem Done.clear {k c : Nat} {A M : Nat → Nat → B} (h : Done k c A M) (hc : c < k) (h1 : M c c = 1) : Done k (c + 1) A (clearM M c) := by
  refine ⟨fun r j hr hj => ?_, fun r j hr hj => ?_, fun v hv => h.ker v (fun r hr => ?_)⟩
  · unfold clearM
    by_cases e : r = c
    · rw [if_pos e]
      by_cases ej : j = c
      · rw [e, ej, h1, if_pos rfl]
      · rw [h.unit r j hr (by omega)]
    · rw [if_neg e]
      by_cases ej : j = c
      · rw [ej, h1, if_neg e]
        have := B.add_self (M r c)
        grind
      · rw [h.unit r j hr (by omega), h.unit c j hc (by omega), if_neg (show ¬ c = j by omega)]; grind
  · unfold clearM
    by_cases e : r = c
    · simp only [if_pos e]; exact h.rel r j hr hj
    · simp only [if_neg e]
      rw [h.rel r j hr hj, h.rel c j hc hj, B.mul_comm' _ (M r c), ← sm_mul, ← sm_add]
      exact sm_congr (fun s _ => by grind)
  · have hcv := hv c hc
    have hrv := hv r hr
    unfold clearM at hcv hrv
    simp only [if_true] at hcv
    by_cases e : r = c
    · subst e; exact hcv
    · simp only [if_neg e] at hrv
      have e2 : sm k (fun j => (M r j + M c j * M r c) * v j) = sm k (fun j => M r j * v j) + M r c * sm k (fun j => M c j * v j) := by
        rw [← sm_mul, ← sm_add]
        exact sm_congr (fun s _ => by grind)
      rw [e2, hcv] at hrv
      grind

theorem Done.all {k : Nat} {A M C : Nat → Nat → B} (h : Done k k A M) (hC : ∀ t s, t < k → s < k → sm k (fun j => A t j * C j s) = if t = s then 1 else 0) {r s : Nat} (hr : r < k) (hs : s < k) : M r (k + s) = C r s := by
  have e1 : sm k (fun t => M r (k + t) * sm k (fun j => A t j * C j s)) = M r (k + s) := by
    rw [sm_one hs (fun i hi hne => by rw [hC i s hi hs, if_neg hne]; grind), hC s s hs hs, if_pos rfl]; grind
  have e2 : sm k (fun t => M r (k + t) * sm k (fun j => A t j * C j s)) = sm k (fun j => M r j * C j s) := by
    have : ∀ t, M r (k + t) * sm k (fun j => A t j * C j s) = sm k (fun j => M r (k + t) * (A t j * C j s)) := fun t => (sm_mul _ _ _).symm
    rw [sm_congr (fun t _ => this t), sm_swap]
    refine sm_congr (fun j hj => ?_)
    rw [h.rel r j hr hj, B.mul_comm' _ (C j s), ← sm_mul]
    exact sm_congr (fun t _ => by grind)
  rw [← e1, e2, sm_one hr (fun i hi hne => by rw [h.unit r i hr hi, if_neg (fun e => hne e.symm)]; grind), h.unit r r hr hr, if_pos rfl]
  grind

/-- By two lists of as many points: the matrices of the one's polynomials at the other's points are inverse to one another. -/
theorem lag_inverse {xs ys : List B} (hx : xs.Nodup) (hl : ys.length = xs.length) {t s : Nat} (ht : t < xs.length) (hs : s < xs.length) (hy : ys.Nodup) :
    sm xs.length (fun j => lag xs j (ys.getD t 0) * lag ys s (xs.getD j 0)) = if t = s then 1 else 0 := by
  have := exactly (xs := xs) (p := lagC ys s) hx (by rw [lagC_len (by omega), hl]; exact Nat.le_refl _) (ys.getD t 0)
  rw [lagC_ev] at this
  have e : sm xs.length (fun j => lag xs j (ys.getD t 0) * lag ys s (xs.getD j 0)) = sm xs.length (fun k => lag xs k (ys.getD t 0) * ev (lagC ys s) (xs.getD k 0)) := sm_congr (fun j _ => by rw [lagC_ev])
  rw [e, this]
  by_cases q : t = s
  · subst q; rw [if_pos rfl, lag_self hy (by omega)]
  · rw [if_neg q, lag_other (by omega) q]

/-- No vector but 0 goes to 0. -/
theorem lag_ker {xs ys : List B} (hx : xs.Nodup) (hy : ys.Nodup) (hl : ys.length = xs.length) (v : Nat → B)
    (h : ∀ r, r < xs.length → sm xs.length (fun j => lag xs j (ys.getD r 0) * v j) = 0) : ∀ j, j < xs.length → v j = 0 := by
  intro i hi
  have e1 : sm xs.length (fun r => lag ys r (xs.getD i 0) * sm xs.length (fun j => lag xs j (ys.getD r 0) * v j)) = 0 := sm_zero (fun r hr => by rw [h r hr]; grind)
  have e2 : sm xs.length (fun r => lag ys r (xs.getD i 0) * sm xs.length (fun j => lag xs j (ys.getD r 0) * v j)) = v i := by
    have : ∀ r, lag ys r (xs.getD i 0) * sm xs.length (fun j => lag xs j (ys.getD r 0) * v j) = sm xs.length (fun j => lag ys r (xs.getD i 0) * (lag xs j (ys.getD r 0) * v j)) := fun r => (sm_mul _ _ _).symm
    rw [sm_congr (fun r _ => this r), sm_swap]
    have e3 : ∀ j, j < xs.length → sm xs.length (fun r => lag ys r (xs.getD i 0) * (lag xs j (ys.getD r 0) * v j)) = (if i = j then 1 else 0) * v j := by
      intro j hj
      have := lag_inverse hy hl.symm (t := i) (s := j) (by omega) (by omega) hx
      rw [hl] at this
      rw [← this, B.mul_comm' _ (v j), ← sm_mul]
      exact sm_congr (fun r _ => by grind)
    rw [sm_congr e3, sm_one hi (fun j _ hne => by rw [if_neg (fun e => hne e.symm)]; grind), if_pos rfl]
    grind
  rw [← e2, e1]

end Go.Proofs.YtanjchpkekehgaaGreat
