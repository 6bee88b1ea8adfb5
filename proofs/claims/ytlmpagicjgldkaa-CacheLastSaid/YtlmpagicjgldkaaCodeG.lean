/-
  Polynomials over bytes, values elsewhere (Lagrange): plain.
-/
import Derived.Test.YtlmpagicjgldkaaCodeF
namespace Go.Proofs.Ytlmpagicjgldkaa

/-- A polynomial's value: coefficients, the constant one first. -/
def ev : List B → B → B
  | [], _ => 0
  | c :: p, x => c + x * ev p x

/-- The product of the distances. -/
def pr : List B → B → B
  | [], _ => 1
  | a :: l, x => (x + a) * pr l x

theorem pr_zero : ∀ {l : List B} {x : B}, x ∈ l → pr l x = 0
  | a :: l, x, h => by
    show (x + a) * pr l x = 0
    rcases List.mem_cons.1 h with rfl | h
    · grind
    · rw [pr_zero h]; grind
theorem pr_ne : ∀ {l : List B} {x : B}, x ∉ l → pr l x ≠ 0
  | [], _, _ => B.one_ne
  | a :: l, x, h => by
    show (x + a) * pr l x ≠ 0
    refine B.mul_ne (fun e => h ?_) (pr_ne (fun e => h (List.mem_cons_of_mem _ e)))
    rw [B.add_eq_zero e]; simp

/-- Multiplied by x + a. -/
def mulX (a : B) : B → List B → List B
  | c, [] => [c]
  | c, d :: p => (c + a * d) :: mulX a d p
theorem mulX_len (a : B) : ∀ (c : B) (p : List B), (mulX a c p).length = p.length + 1
  | _, [] => rfl
  | _, d :: p => by simp [mulX, mulX_len a d p]
theorem mulX_ev (a : B) : ∀ (c : B) (p : List B) (x : B), ev (mulX a c p) x = c + (x + a) * ev p x
  | c, [], x => by simp [mulX, ev]; grind
  | c, d :: p, x => by
    show (c + a * d) + x * ev (mulX a d p) x = c + (x + a) * (d + x * ev p x)
    rw [mulX_ev a d p x]; grind
/-- The coefficients of a product of distances. -/
def prC : List B → List B
  | [] => [1]
  | a :: l => mulX a 0 (prC l)
theorem prC_len : ∀ l : List B, (prC l).length = l.length + 1
  | [] => rfl
  | a :: l => by simp [prC, mulX_len, prC_len l]
theorem prC_ev : ∀ (l : List B) (x : B), ev (prC l) x = pr l x
  | [], x => by simp [prC, ev, pr]; grind
  | a :: l, x => by
    show ev (mulX a 0 (prC l)) x = (x + a) * pr l x
    rw [mulX_ev, prC_ev l x]; grind

/-- A factor taken out. -/
theorem divX (r : B) : ∀ p : List B, ∃ q : List B, q.length = p.length - 1 ∧ ∀ x, ev p x = (x + r) * ev q x + ev p r
  | [] => ⟨[], rfl, fun x => by simp [ev]; grind⟩
  | [c] => ⟨[], rfl, fun x => by simp [ev]; grind⟩
  | c :: d :: p => by
    obtain ⟨q, hl, hq⟩ := divX r (d :: p)
    refine ⟨ev (d :: p) r :: q, by simp at hl ⊢; omega, fun x => ?_⟩
    have := hq x
    show c + x * ev (d :: p) x = (x + r) * (ev (d :: p) r + x * ev q x) + (c + r * ev (d :: p) r)
    rw [this]; grind
/-- As many roots as coefficients: it is 0 everywhere. -/
theorem roots : ∀ (xs p : List B), xs.Nodup → p.length ≤ xs.length → (∀ x ∈ xs, ev p x = 0) → ∀ x, ev p x = 0
  | [], p, _, hl, _, x => by
    have : p = [] := List.eq_nil_of_length_eq_zero (by simpa using hl)
    subst this; rfl
  | r :: xs, p, hn, hl, h0, x => by
    obtain ⟨q, hq, he⟩ := divX r p
    have hr := h0 r (by simp)
    have hn' := List.nodup_cons.1 hn
    have : ∀ y, ev q y = 0 := roots xs q hn'.2 (by rw [hq]; simp at hl; omega) (fun y hy => by
      have h1 := he y
      rw [h0 y (by simp [hy]), hr] at h1
      have hne : y + r ≠ 0 := fun e => hn'.1 (by rw [← B.add_eq_zero e]; exact hy)
      have hz : (y + r) * ev q y = 0 := by grind
      by_cases e : ev q y = 0
      · exact e
      · exact absurd hz (B.mul_ne hne e))
    rw [he x, this x, hr]; grind

/-- The sum of polynomials. -/
def addP : List B → List B → List B
  | [], q => q
  | p, [] => p
  | a :: p, b :: q => (a + b) :: addP p q
theorem addP_ev : ∀ (p q : List B) (x : B), ev (addP p q) x = ev p x + ev q x
  | [], q, x => by simp [addP, ev]; grind
  | a :: p, [], x => by simp [addP, ev]; grind
  | a :: p, b :: q, x => by
    show (a + b) + x * ev (addP p q) x = (a + x * ev p x) + (b + x * ev q x)
    rw [addP_ev p q x]; grind
theorem addP_len : ∀ (p q : List B) (n : Nat), p.length ≤ n → q.length ≤ n → (addP p q).length ≤ n
  | [], q, n, _, h => by simpa [addP] using h
  | a :: p, [], n, h, _ => by simpa [addP] using h
  | a :: p, b :: q, n, h1, h2 => by
    simp only [addP, List.length_cons] at h1 h2 ⊢
    have := addP_len p q (n - 1) (by omega) (by omega)
    omega
/-- Times a byte. -/
def scP (c : B) (p : List B) : List B := p.map (c * ·)
theorem scP_ev (c : B) : ∀ (p : List B) (x : B), ev (scP c p) x = c * ev p x
  | [], x => by simp [scP, ev]; grind
  | a :: p, x => by
    show c * a + x * ev (scP c p) x = c * (a + x * ev p x)
    rw [scP_ev c p x]; grind
theorem scP_len (c : B) (p : List B) : (scP c p).length = p.length := by simp [scP]

/-- A sum. -/
def sm (n : Nat) (f : Nat → B) : B := match n with
  | 0 => 0
  | n + 1 => sm n f + f n
theorem sm_congr {n : Nat} {f g : Nat → B} (h : ∀ i, i < n → f i = g i) : sm n f = sm n g := by
  induction n with
  | zero => rfl
  | succ n ih => show sm n f + f n = sm n g + g n; rw [ih (fun i hi => h i (by omega)), h n (by omega)]
theorem sm_zero {n : Nat} {f : Nat → B} (h : ∀ i, i < n → f i = 0) : sm n f = 0 := by
  induction n with
  | zero => rfl
  | succ n ih => show sm n f + f n = 0; rw [ih (fun i hi => h i (by omega)), h n (by omega)]; grind
theorem sm_one {n k : Nat} {f : Nat → B} (hk : k < n) (h : ∀ i, i < n → i ≠ k → f i = 0) : sm n f = f k := by
  induction n with
  | zero => omega
  | succ n ih =>
    show sm n f + f n = f k
    by_cases e : k = n
    · subst e
      rw [sm_zero (fun i hi => h i (by omega) (by omega))]; grind
    · rw [ih (by omega) (fun i hi => h i (by omega)), h n (by omega) (fun q => e q.symm)]; grind
theorem sm_add (n : Nat) (f g : Nat → B) : sm n (fun i => f i + g i) = sm n f + sm n g := by
  induction n with
  | zero => show (0 : B) = 0 + 0; grind
  | succ n ih => show sm n _ + _ = (sm n f + f n) + (sm n g + g n); rw [ih]; grind
theorem sm_mul (n : Nat) (c : B) (f : Nat → B) : sm n (fun i => c * f i) = c * sm n f := by
  induction n with
  | zero => show (0 : B) = c * 0; grind
  | succ n ih => show sm n _ + _ = c * (sm n f + f n); rw [ih]; grind
theorem sm_swap (n m : Nat) (f : Nat → Nat → B) : sm n (fun i => sm m (fun j => f i j)) = sm m (fun j => sm n (fun i => f i j)) := by
  induction n with
  | zero => show (0 : B) = _; rw [sm_zero]; intro i _; rfl
  | succ n ih =>
    show sm n _ + sm m _ = _
    rw [ih, ← sm_add]
    rfl

/-- The polynomial that is 1 at the point number k, 0 at the others: its value. -/
def lag (xs : List B) (k : Nat) (x : B) : B := pr (xs.eraseIdx k) x * (pr (xs.eraseIdx k) (xs.getD k 0)).inv
def lagC (xs : List B) (k : Nat) : List B := scP (pr (xs.eraseIdx k) (xs.getD k 0)).inv (prC (xs.eraseIdx k))
theorem lagC_ev (xs : List B) (k : Nat) (x : B) : ev (lagC xs k) x = lag xs k x := by
  unfold lagC lag
  rw [scP_ev, prC_ev]; grind
theorem lagC_len {xs : List B} {k : Nat} (hk : k < xs.length) : (lagC xs k).length = xs.length := by
  unfold lagC
  rw [scP_len, prC_len, List.length_eraseIdx]; simp [hk]; omega

theorem nodup_inj {xs : List B} (hn : xs.Nodup) {i j : Nat} (hi : i < xs.length) (hj : j < xs.length) (h : xs[i] = xs[j]) : i = j := by
  have hp := List.pairwise_iff_getElem.1 hn
  rcases Nat.lt_trichotomy i j with q | q | q
  · exact absurd h (hp i j hi hj q)
  · exact q
  · exact absurd h.symm (hp j i hj hi q)
theorem nodup_erase {xs : List B} (hn : xs.Nodup) {k : Nat} (hk : k < xs.length) : xs.getD k 0 ∉ xs.eraseIdx k := by
  intro h
  rw [List.mem_eraseIdx_iff_getElem?] at h
  obtain ⟨i, hi, he⟩ := h
  rw [List.getD_eq_getElem?_getD, List.getElem?_eq_getElem hk] at he
  obtain ⟨h1, h2⟩ := List.getElem?_eq_some_iff.1 he
  exact hi (nodup_inj hn h1 hk (by simpa using h2))
theorem lag_self {xs : List B} (hn : xs.Nodup) {k : Nat} (hk : k < xs.length) : lag xs k (xs.getD k 0) = 1 := by
  unfold lag
  exact B.mul_inv (pr_ne (nodup_erase hn hk))
theorem lag_other {xs : List B} {k j : Nat} (hj : j < xs.length) (h : j ≠ k) : lag xs k (xs.getD j 0) = 0 := by
  unfold lag
  rw [pr_zero]
  · grind
  · rw [List.mem_eraseIdx_iff_getElem?]
    refine ⟨j, h, ?_⟩
    rw [List.getD_eq_getElem?_getD, List.getElem?_eq_getElem hj]; rfl

/-- The sum of the polynomials, as coefficients. -/
def smP (n : Nat) (f : Nat → List B) : List B := match n with
  | 0 => []
  | n + 1 => addP (smP n f) (f n)
theorem smP_ev (n : Nat) (f : Nat → List B) (x : B) : ev (smP n f) x = sm n (fun i => ev (f i) x) := by
  induction n with
  | zero => rfl
  | succ n ih => show ev (addP (smP n f) (f n)) x = sm n _ + _; rw [addP_ev, ih]
theorem smP_len (n m : Nat) (f : Nat → List B) (h : ∀ i, i < n → (f i).length ≤ m) : (smP n f).length ≤ m := by
  induction n with
  | zero => simp [smP]
  | succ n ih => exact addP_len _ _ _ (ih (fun i hi => h i (by omega))) (h n (by omega))

/-- A polynomial of no more coefficients than points is told by its values at these. -/
theorem exactly {xs p : List B} (hn : xs.Nodup) (hl : p.length ≤ xs.length) (x : B) : sm xs.length (fun k => lag xs k x * ev p (xs.getD k 0)) = ev p x := by
  have h := roots xs (addP (smP xs.length (fun k => scP (ev p (xs.getD k 0)) (lagC xs k))) p) hn
    (addP_len _ _ _ (smP_len _ _ _ (fun i hi => by rw [scP_len, lagC_len hi]; exact Nat.le_refl _)) hl) (fun y hy => by
      obtain ⟨j, hj, rfl⟩ := List.mem_iff_getElem.1 hy
      have ej : xs.getD j 0 = xs[j] := by rw [List.getD_eq_getElem?_getD, List.getElem?_eq_getElem hj]; rfl
      rw [← ej, addP_ev, smP_ev, sm_one hj (fun i hi hne => by rw [scP_ev, lagC_ev, lag_other hj (fun e => hne e.symm)]; grind), scP_ev, lagC_ev, lag_self hn hj]
      grind) x
  rw [addP_ev, smP_ev] at h
  have e := B.add_eq_zero h
  rw [← e]
  exact sm_congr (fun i _ => by rw [scP_ev, lagC_ev]; grind)

end Go.Proofs.Ytlmpagicjgldkaa
