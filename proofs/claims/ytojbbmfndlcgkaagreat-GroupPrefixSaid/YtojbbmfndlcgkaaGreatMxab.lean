/-
  CodeG: Polynomials over bytes, values elsewhere (Lagrange): plain.
  CodeH: Matrices over bytes: steps (Gauss, Jordan); the matrix that turns symbols to their source: plain.
-/
import Derived.Test.YtojbbmfndlcgkaaGreatMxaa
namespace Go.Proofs.YtojbbmfndlcgkaaGreat

section -- CodeG
/-- A polynomial's value: coefficients, the constant one first. -/
def ev : List B → B → B
  | [], _ => 0
  | c :: p, x => c + x * ev p x

/-- The product of the distances. -/
def pr : List B → B → B
  | [], _ => 1
  | a :: l, x => (x + a) * pr l x

theorem pr_zero : ∀ {l : List B} {x : B}, x ∈ l → pr l x = 0
  | a :: l, x, h => by
    show (x + a) * pr l x = 0
    rcases List.mem_cons.1 h with rfl | h
    · grind
    · rw [pr_zero h]; grind
theorem pr_ne : ∀ {l : List B} {x : B}, x ∉ l → pr l x ≠ 0
  | [], _, _ => B.one_ne
  | a :: l, x, h => by
    show (x + a) * pr l x ≠ 0
    refine B.mul_ne (fun e => h ?_) (pr_ne (fun e => h (List.mem_cons_of_mem _ e)))
    rw [B.add_eq_zero e]; simp

/-- Multiplied by x + a. -/
def mulX (a : B) : B → List B → List B
  | c, [] => [c]
  | c, d :: p => (c + a * d) :: mulX a d p
theorem mulX_len (a : B) : ∀ (c : B) (p : List B), (mulX a c p).length = p.length + 1
  | _, [] => rfl
  | _, d :: p => by simp [mulX, mulX_len a d p]
theorem mulX_ev (a : B) : ∀ (c : B) (p : List B) (x : B), ev (mulX a c p) x = c + (x + a) * ev p x
  | c, [], x => by simp [mulX, ev]; grind
  | c, d :: p, x => by
    show (c + a * d) + x * ev (mulX a d p) x = c + (x + a) * (d + x * ev p x)
    rw [mulX_ev a d p x]; grind
/-- The coefficients of a product of distances. -/
def prC : List B → List B
  | [] => [1]
  | a :: l => mulX a 0 (prC l)
theorem prC_len : ∀ l : List B, (prC l).length = l.length + 1
  | [] => rfl
  | a :: l => by simp [prC, mulX_len, prC_len l]
theorem prC_ev : ∀ (l : List B) (x : B), ev (prC l) x = pr l x
  | [], x => by simp [prC, ev, pr]; grind
  | a :: l, x => by
    show ev (mulX a 0 (prC l)) x = (x + a) * pr l x
    rw [mulX_ev, prC_ev l x]; grind

/-- A factor taken out. -/
theorem divX (r : B) : ∀ p : List B, ∃ q : List B, q.length = p.length - 1 ∧ ∀ x, ev p x = (x + r) * ev q x + ev p r
  | [] => ⟨[], rfl, fun x => by simp [ev]; grind⟩
  | [c] => ⟨[], rfl, fun x => by simp [ev]; grind⟩
  | c :: d :: p => by
    obtain ⟨q, hl, hq⟩ := divX r (d :: p)
    refine ⟨ev (d :: p) r :: q, by simp at hl ⊢; omega, fun x => ?_⟩
    have := hq x
    show c + x * ev (d :: p) x = (x + r) * (ev (d :: p) r + x * ev q x) + (c + r * ev (d :: p) r)
    rw [this]; grind
/-- As many roots as coefficients: it is 0 everywhere. -/
theorem roots : ∀ (xs p : List B), xs.Nodup → p.length ≤ xs.length → (∀ x ∈ xs, ev p x = 0) → ∀ x, ev p x = 0
  | [], p, _, hl, _, x => by
    have : p = [] := List.eq_nil_of_length_eq_zero (by simpa using hl)
    subst this; rfl
  | r :: xs, p, hn, hl, h0, x => by
    obtain ⟨q, hq, he⟩ := divX r p
    have hr := h0 r (by simp)
    have hn' := List.nodup_cons.1 hn
    have : ∀ y, ev q y = 0 := roots xs q hn'.2 (by rw [hq]; simp at hl; omega) (fun y hy => by
      have h1 := he y
      rw [h0 y (by simp [hy]), hr] at h1
      have hne : y + r ≠ 0 := fun e => hn'.1 (by rw [← B.add_eq_zero e]; exact hy)
      have hz : (y + r) * ev q y = 0 := by grind
      by_cases e : ev q y = 0
      · exact e
      · exact absurd hz (B.mul_ne hne e))
    rw [he x, this x, hr]; grind

/-- The sum of polynomials. -/
def addP : List B → List B → List B
  | [], q => q
  | p, [] => p
  | a :: p, b :: q => (a + b) :: addP p q
theorem addP_ev : ∀ (p q : List B) (x : B), ev (addP p q) x = ev p x + ev q x
  | [], q, x => by simp [addP, ev]; grind
  | a :: p, [], x => by simp [addP, ev]; grind
  | a :: p, b :: q, x => by
    show (a + b) + x * ev (addP p q) x = (a + x * ev p x) + (b + x * ev q x)
    rw [addP_ev p q x]; grind
theorem addP_len : ∀ (p q : List B) (n : Nat), p.length ≤ n → q.length ≤ n → (addP p q).length ≤ n
  | [], q, n, _, h => by simpa [addP] using h
  | a :: p, [], n, h, _ => by simpa [addP] using h
  | a :: p, b :: q, n, h1, h2 => by
    simp only [addP, List.length_cons] at h1 h2 ⊢
    have := addP_len p q (n - 1) (by omega) (by omega)
    omega
/-- Times a byte. -/
def scP (c : B) (p : List B) : List B := p.map (c * ·)
theorem scP_ev (c : B) : ∀ (p : List B) (x : B), ev (scP c p) x = c * ev p x
  | [], x => by simp [scP, ev]; grind
  | a :: p, x => by
    show c * a + x * ev (scP c p) x = c * (a + x * ev p x)
    rw [scP_ev c p x]; grind
theorem scP_len (c : B) (p : List B) : (scP c p).length = p.length := by simp [scP]

/-- A sum. -/
def sm (n : Nat) (f : Nat → B) : B := match n with
  | 0 => 0
  | n + 1 => sm n f + f n
theorem sm_congr {n : Nat} {f g : Nat → B} (h : ∀ i, i < n → f i = g i) : sm n f = sm n g := by
  induction n with
  | zero => rfl
  | succ n ih => show sm n f + f n = sm n g + g n; rw [ih (fun i hi => h i (by omega)), h n (by omega)]
theorem sm_zero {n : Nat} {f : Nat → B} (h : ∀ i, i < n → f i = 0) : sm n f = 0 := by
  induction n with
  | zero => rfl
  | succ n ih => show sm n f + f n = 0; rw [ih (fun i hi => h i (by omega)), h n (by omega)]; grind
theorem sm_one {n k : Nat} {f : Nat → B} (hk : k < n) (h : ∀ i, i < n → i ≠ k → f i = 0) : sm n f = f k := by
  induction n with
  | zero => omega
  | succ n ih =>
    show sm n f + f n = f k
    by_cases e : k = n
    · subst e
      rw [sm_zero (fun i hi => h i (by omega) (by omega))]; grind
    · rw [ih (by omega) (fun i hi => h i (by omega)), h n (by omega) (fun q => e q.symm)]; grind
theorem sm_add (n : Nat) (f g : Nat → B) : sm n (fun i => f i + g i) = sm n f + sm n g := by
  induction n with
  | zero => show (0 : B) = 0 + 0; grind
  | succ n ih => show sm n _ + _ = (sm n f + f n) + (sm n g + g n); rw [ih]; grind
theorem sm_mul (n : Nat) (c : B) (f : Nat → B) : sm n (fun i => c * f i) = c * sm n f := by
  induction n with
  | zero => show (0 : B) = c * 0; grind
  | succ n ih => show sm n _ + _ = c * (sm n f + f n); rw [ih]; grind
theorem sm_swap (n m : Nat) (f : Nat → Nat → B) : sm n (fun i => sm m (fun j => f i j)) = sm m (fun j => sm n (fun i => f i j)) := by
  induction n with
  | zero => show (0 : B) = _; rw [sm_zero]; intro i _; rfl
  | succ n ih =>
    show sm n _ + sm m _ = _
    rw [ih, ← sm_add]
    rfl

/-- The polynomial that is 1 at the point number k, 0 at the others: its value. -/
def lag (xs : List B) (k : Nat) (x : B) : B := pr (xs.eraseIdx k) x * (pr (xs.eraseIdx k) (xs.getD k 0)).inv
def lagC (xs : List B) (k : Nat) : List B := scP (pr (xs.eraseIdx k) (xs.getD k 0)).inv (prC (xs.eraseIdx k))
theorem lagC_ev (xs : List B) (k : Nat) (x : B) : ev (lagC xs k) x = lag xs k x := by
  unfold lagC lag
  rw [scP_ev, prC_ev]; grind
theorem lagC_len {xs : List B} {k : Nat} (hk : k < xs.length) : (lagC xs k).length = xs.length := by
  unfold lagC
  rw [scP_len, prC_len, List.length_eraseIdx]; simp [hk]; omega

theorem nodup_inj {xs : List B} (hn : xs.Nodup) {i j : Nat} (hi : i < xs.length) (hj : j < xs.length) (h : xs[i] = xs[j]) : i = j := by
  have hp := List.pairwise_iff_getElem.1 hn
  rcases Nat.lt_trichotomy i j with q | q | q
  · exact absurd h (hp i j hi hj q)
  · exact q
  · exact absurd h.symm (hp j i hj hi q)
theorem nodup_erase {xs : List B} (hn : xs.Nodup) {k : Nat} (hk : k < xs.length) : xs.getD k 0 ∉ xs.eraseIdx k := by
  intro h
  rw [List.mem_eraseIdx_iff_getElem?] at h
  obtain ⟨i, hi, he⟩ := h
  rw [List.getD_eq_getElem?_getD, List.getElem?_eq_getElem hk] at he
  obtain ⟨h1, h2⟩ := List.getElem?_eq_some_iff.1 he
  exact hi (nodup_inj hn h1 hk (by simpa using h2))
theorem lag_self {xs : List B} (hn : xs.Nodup) {k : Nat} (hk : k < xs.length) : lag xs k (xs.getD k 0) = 1 := by
  unfold lag
  exact B.mul_inv (pr_ne (nodup_erase hn hk))
theorem lag_other {xs : List B} {k j : Nat} (hj : j < xs.length) (h : j ≠ k) : lag xs k (xs.getD j 0) = 0 := by
  unfold lag
  rw [pr_zero]
  · grind
  · rw [List.mem_eraseIdx_iff_getElem?]
    refine ⟨j, h, ?_⟩
    rw [List.getD_eq_getElem?_getD, List.getElem?_eq_getElem hj]; rfl

/-- The sum of the polynomials, as coefficients. -/
def smP (n : Nat) (f : Nat → List B) : List B := match n with
  | 0 => []
  | n + 1 => addP (smP n f) (f n)
theorem smP_ev (n : Nat) (f : Nat → List B) (x : B) : ev (smP n f) x = sm n (fun i => ev (f i) x) := by
  induction n with
  | zero => rfl
  | succ n ih => show ev (addP (smP n f) (f n)) x = sm n _ + _; rw [addP_ev, ih]
theorem smP_len (n m : Nat) (f : Nat → List B) (h : ∀ i, i < n → (f i).length ≤ m) : (smP n f).length ≤ m := by
  induction n with
  | zero => simp [smP]
  | succ n ih => exact addP_len _ _ _ (ih (fun i hi => h i (by omega))) (h n (by omega))

/-- A polynomial of no more coefficients than points is told by its values at these. -/
theorem exactly {xs p : List B} (hn : xs.Nodup) (hl : p.length ≤ xs.length) (x : B) : sm xs.length (fun k => lag xs k x * ev p (xs.getD k 0)) = ev p x := by
  have h := roots xs (addP (smP xs.length (fun k => scP (ev p (xs.getD k 0)) (lagC xs k))) p) hn
    (addP_len _ _ _ (smP_len _ _ _ (fun i hi => by rw [scP_len, lagC_len hi]; exact Nat.le_refl _)) hl) (fun y hy => by
      obtain ⟨j, hj, rfl⟩ := List.mem_iff_getElem.1 hy
      have ej : xs.getD j 0 = xs[j] := by rw [List.getD_eq_getElem?_getD, List.getElem?_eq_getElem hj]; rfl
      rw [← ej, addP_ev, smP_ev, sm_one hj (fun i hi hne => by rw [scP_ev, lagC_ev, lag_other hj (fun e => hne e.symm)]; grind), scP_ev, lagC_ev, lag_self hn hj]
      grind) x
  rw [addP_ev, smP_ev] at h
  have e := B.add_eq_zero h
  rw [← e]
  exact sm_congr (fun i _ => by rw [scP_ev, lagC_ev]; grind)
end -- CodeG

section -- CodeH
/-- What holds of a matrix of k rows, k + k columns, when its first c columns are done: by A. -/
structure Done (k c : Nat) (A M : Nat → Nat → B) : Prop where
  unit : ∀ r j, r < k → j < c → M r j = if r = j then 1 else 0
  rel : ∀ r j, r < k → j < k → M r j = sm k (fun s => M r (k + s) * A s j)
  ker : ∀ v : Nat → B, (∀ r, r < k → sm k (fun j => M r j * v j) = 0) → ∀ j, j < k → v j = 0

/-- Two rows, one for another. -/
def swapM (M : Nat → Nat → B) (c p : Nat) : Nat → Nat → B := fun r => if r = c then M p else if r = p then M c else M r
/-- A row, times a byte. -/
def scaleM (M : Nat → Nat → B) (c : Nat) (by' : B) : Nat → Nat → B := fun r j => if r = c then M r j * by' else M r j
/-- To each other row the row number c, by what stands in its column number c. -/
def clearM (M : Nat → Nat → B) (c : Nat) : Nat → Nat → B := fun r j => if r = c then M r j else M r j + M c j * M r c

theorem Done.start {k : Nat} {A : Nat → Nat → B} (h : ∀ v : Nat → B, (∀ r, r < k → sm k (fun j => A r j * v j) = 0) → ∀ j, j < k → v j = 0)
    {M : Nat → Nat → B} (h1 : ∀ r j, r < k → j < k → M r j = A r j) (h2 : ∀ r s, r < k → s < k → M r (k + s) = if r = s then 1 else 0) : Done k 0 A M := by
  refine ⟨fun r j _ hj => by omega, fun r j hr hj => ?_, fun v hv => h v (fun r hr => ?_)⟩
  · rw [h1 r j hr hj, sm_one hr (fun i hi hne => by rw [h2 r i hr hi, if_neg (fun e => hne e.symm)]; grind), h2 r r hr hr, if_pos rfl]; grind
  · rw [← hv r hr]
    exact sm_congr (fun j hj => by rw [h1 r j hr hj])

theorem Done.pivot {k c : Nat} {A M : Nat → Nat → B} (h : Done k c A M) (hc : c < k) : ∃ p, c ≤ p ∧ p < k ∧ M p c ≠ 0 := by
  by_cases hx : ∃ p, c ≤ p ∧ p < k ∧ M p c ≠ 0
  · exact hx
  · exfalso
    have hz : ∀ p, c ≤ p → p < k → M p c = 0 := fun p h1 h2 => by
      by_cases e : M p c = 0
      · exact e
      · exact absurd ⟨p, h1, h2, e⟩ hx
    have := h.ker (fun j => if j < c then M j c else if j = c then 1 else 0) (fun r hr => ?_) c hc
    · rw [if_neg (by omega), if_pos rfl] at this
      exact B.one_ne this
    · by_cases hrc : r < c
      · -- two terms: r and c
        have e : sm k (fun j => M r j * (if j < c then M j c else if j = c then 1 else 0)) = sm k (fun j => (if j = r then M r c else 0) + (if j = c then M r c else 0)) := by
          refine sm_congr (fun j hj => ?_)
          by_cases h1 : j < c
          · rw [if_pos h1, h.unit r j hr h1, if_neg (show ¬ j = c by omega)]
            by_cases h2 : r = j
            · subst h2; rw [if_pos rfl, if_pos rfl]; grind
            · rw [if_neg h2, if_neg (fun e => h2 e.symm)]; grind
          · rw [if_neg h1, if_neg (show ¬ j = r by omega)]
            by_cases h2 : j = c
            · subst h2; rw [if_pos rfl, if_pos rfl]; grind
            · rw [if_neg h2, if_neg h2]; grind
        rw [e, sm_add, sm_one hr (fun i _ hne => by rw [if_neg hne]), sm_one hc (fun i _ hne => by rw [if_neg hne]), if_pos rfl, if_pos rfl]
        exact B.add_self _
      · refine sm_zero (fun j hj => ?_)
        by_cases h1 : j < c
        · rw [h.unit r j hr h1, if_neg (by omega)]; grind
        · by_cases h2 : j = c
          · subst h2; rw [hz r (by omega) hr]; grind
          · rw [if_neg h1, if_neg h2]; grind

theorem Done.swap {k c p : Nat} {A M : Nat → Nat → B} (h : Done k c A M) (hp : c ≤ p) (hpk : p < k) : Done k c A (swapM M c p) := by
  have hw : ∀ r, r < k → ∃ q, q < k ∧ swapM M c p r = M q ∧ (r < c → q = r) ∧ (c ≤ r → c ≤ q) := by
    intro r hr
    unfold swapM
    by_cases h1 : r = c
    · exact ⟨p, hpk, by rw [if_pos h1], fun _ => by omega, fun _ => hp⟩
    · by_cases h2 : r = p
      · exact ⟨c, by omega, by rw [if_neg h1, if_pos h2], fun _ => by omega, fun _ => by omega⟩
      · exact ⟨r, hr, by rw [if_neg h1, if_neg h2], fun _ => rfl, fun q => q⟩
  have hb : ∀ q, q < k → ∃ r, r < k ∧ swapM M c p r = M q := by
    intro q hq
    unfold swapM
    by_cases h1 : q = c
    · by_cases h2 : p = c
      · exact ⟨c, by omega, by rw [if_pos rfl, h2, h1]⟩
      · exact ⟨p, hpk, by rw [if_neg h2, if_pos rfl, h1]⟩
    · by_cases h2 : q = p
      · exact ⟨c, by omega, by rw [if_pos rfl, h2]⟩
      · exact ⟨q, hq, by rw [if_neg h1, if_neg h2]⟩
  refine ⟨fun r j hr hj => ?_, fun r j hr hj => ?_, fun v hv => h.ker v (fun q hq => ?_)⟩
  · obtain ⟨q, hq, e, h1, h2⟩ := hw r hr
    rw [e, h.unit q j hq hj]
    by_cases hrc : r < c
    · rw [h1 hrc]
    · rw [if_neg (by have := h2 (by omega); omega), if_neg (by omega)]
  · obtain ⟨q, hq, e, _, _⟩ := hw r hr
    rw [e, h.rel q j hq hj]
  · obtain ⟨r, hr, e⟩ := hb q hq
    rw [← e]; exact hv r hr

theorem Done.scale {k c : Nat} {A M : Nat → Nat → B} (h : Done k c A M) {b : B} (hb : b ≠ 0) : Done k c A (scaleM M c b) := by
  refine ⟨fun r j hr hj => ?_, fun r j hr hj => ?_, fun v hv => h.ker v (fun r hr => ?_)⟩
  · unfold scaleM
    by_cases e : r = c
    · rw [if_pos e, h.unit r j hr hj, if_neg (by omega)]; grind
    · rw [if_neg e, h.unit r j hr hj]
  · unfold scaleM
    by_cases e : r = c
    · simp only [if_pos e]
      rw [h.rel r j hr hj, B.mul_comm', ← sm_mul]
      exact sm_congr (fun s _ => by grind)
    · simp only [if_neg e]
      exact h.rel r j hr hj
  · have := hv r hr
    unfold scaleM at this
    by_cases e : r = c
    · simp only [if_pos e] at this
      have e2 : sm k (fun j => M r j * b * v j) = b * sm k (fun j => M r j * v j) := by
        rw [← sm_mul]
        exact sm_congr (fun s _ => by grind)
      rw [e2] at this
      by_cases ez : sm k (fun j => M r j * v j) = 0
      · exact ez
      · exact absurd this (B.mul_ne hb ez)
    · simpa only [if_neg e] using this

theorem Done.clear {k c : Nat} {A M : Nat → Nat → B} (h : Done k c A M) (hc : c < k) (h1 : M c c = 1) : Done k (c + 1) A (clearM M c) := by
  refine ⟨fun r j hr hj => ?_, fun r j hr hj => ?_, fun v hv => h.ker v (fun r hr => ?_)⟩
  · unfold clearM
    by_cases e : r = c
    · rw [if_pos e]
      by_cases ej : j = c
      · rw [e, ej, h1, if_pos rfl]
      · rw [h.unit r j hr (by omega)]
    · rw [if_neg e]
      by_cases ej : j = c
      · rw [ej, h1, if_neg e]
        have := B.add_self (M r c)
        grind
      · rw [h.unit r j hr (by omega), h.unit c j hc (by omega), if_neg (show ¬ c = j by omega)]; grind
  · unfold clearM
    by_cases e : r = c
    · simp only [if_pos e]; exact h.rel r j hr hj
    · simp only [if_neg e]
      rw [h.rel r j hr hj, h.rel c j hc hj, B.mul_comm' _ (M r c), ← sm_mul, ← sm_add]
      exact sm_congr (fun s _ => by grind)
  · have hcv := hv c hc
    have hrv := hv r hr
    unfold clearM at hcv hrv
    simp only [if_true] at hcv
    by_cases e : r = c
    · subst e; exact hcv
    · simp only [if_neg e] at hrv
      have e2 : sm k (fun j => (M r j + M c j * M r c) * v j) = sm k (fun j => M r j * v j) + M r c * sm k (fun j => M c j * v j) := by
        rw [← sm_mul, ← sm_add]
        exact sm_congr (fun s _ => by grind)
      rw [e2, hcv] at hrv
      grind

theorem Done.all {k : Nat} {A M C : Nat → Nat → B} (h : Done k k A M) (hC : ∀ t s, t < k → s < k → sm k (fun j => A t j * C j s) = if t = s then 1 else 0) {r s : Nat} (hr : r < k) (hs : s < k) : M r (k + s) = C r s := by
  have e1 : sm k (fun t => M r (k + t) * sm k (fun j => A t j * C j s)) = M r (k + s) := by
    rw [sm_one hs (fun i hi hne => by rw [hC i s hi hs, if_neg hne]; grind), hC s s hs hs, if_pos rfl]; grind
  have e2 : sm k (fun t => M r (k + t) * sm k (fun j => A t j * C j s)) = sm k (fun j => M r j * C j s) := by
    have : ∀ t, M r (k + t) * sm k (fun j => A t j * C j s) = sm k (fun j => M r (k + t) * (A t j * C j s)) := fun t => (sm_mul _ _ _).symm
    rw [sm_congr (fun t _ => this t), sm_swap]
    refine sm_congr (fun j hj => ?_)
    rw [h.rel r j hr hj, B.mul_comm' _ (C j s), ← sm_mul]
    exact sm_congr (fun t _ => by grind)
  rw [← e1, e2, sm_one hr (fun i hi hne => by rw [h.unit r i hr hi, if_neg (fun e => hne e.symm)]; grind), h.unit r r hr hr, if_pos rfl]
  grind

/-- By two lists of as many points: the matrices of the one's polynomials at the other's points are inverse to one another. -/
theorem lag_inverse {xs ys : List B} (hx : xs.Nodup) (hl : ys.length = xs.length) {t s : Nat} (ht : t < xs.length) (hs : s < xs.length) (hy : ys.Nodup) :
    sm xs.length (fun j => lag xs j (ys.getD t 0) * lag ys s (xs.getD j 0)) = if t = s then 1 else 0 := by
  have := exactly (xs := xs) (p := lagC ys s) hx (by rw [lagC_len (by omega), hl]; exact Nat.le_refl _) (ys.getD t 0)
  rw [lagC_ev] at this
  have e : sm xs.length (fun j => lag xs j (ys.getD t 0) * lag ys s (xs.getD j 0)) = sm xs.length (fun k => lag xs k (ys.getD t 0) * ev (lagC ys s) (xs.getD k 0)) := sm_congr (fun j _ => by rw [lagC_ev])
  rw [e, this]
  by_cases q : t = s
  · subst q; rw [if_pos rfl, lag_self hy (by omega)]
  · rw [if_neg q, lag_other (by omega) q]

/-- No vector but 0 goes to 0. -/
theorem lag_ker {xs ys : List B} (hx : xs.Nodup) (hy : ys.Nodup) (hl : ys.length = xs.length) (v : Nat → B)
    (h : ∀ r, r < xs.length → sm xs.length (fun j => lag xs j (ys.getD r 0) * v j) = 0) : ∀ j, j < xs.length → v j = 0 := by
  intro i hi
  have e1 : sm xs.length (fun r => lag ys r (xs.getD i 0) * sm xs.length (fun j => lag xs j (ys.getD r 0) * v j)) = 0 := sm_zero (fun r hr => by rw [h r hr]; grind)
  have e2 : sm xs.length (fun r => lag ys r (xs.getD i 0) * sm xs.length (fun j => lag xs j (ys.getD r 0) * v j)) = v i := by
    have : ∀ r, lag ys r (xs.getD i 0) * sm xs.length (fun j => lag xs j (ys.getD r 0) * v j) = sm xs.length (fun j => lag ys r (xs.getD i 0) * (lag xs j (ys.getD r 0) * v j)) := fun r => (sm_mul _ _ _).symm
    rw [sm_congr (fun r _ => this r), sm_swap]
    have e3 : ∀ j, j < xs.length → sm xs.length (fun r => lag ys r (xs.getD i 0) * (lag xs j (ys.getD r 0) * v j)) = (if i = j then 1 else 0) * v j := by
      intro j hj
      have := lag_inverse hy hl.symm (t := i) (s := j) (by omega) (by omega) hx
      rw [hl] at this
      rw [← this, B.mul_comm' _ (v j), ← sm_mul]
      exact sm_congr (fun r _ => by grind)
    rw [sm_congr e3, sm_one hi (fun j _ hne => by rw [if_neg (fun e => hne e.symm)]; grind), if_pos rfl]
    grind
  rw [← e2, e1]
end -- CodeH

end Go.Proofs.YtojbbmfndlcgkaaGreat
