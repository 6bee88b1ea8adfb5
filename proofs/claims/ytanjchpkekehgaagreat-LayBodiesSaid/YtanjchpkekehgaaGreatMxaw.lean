/-
  RefA: Polynomials as the reference makes them (plain): what each step does to the value.
  CodeWa: The reference's product of bytes (plain): it is the field's.
-/
import Derived.Test.YtanjchpkekehgaaGreatMxad
import Derived.Test.YtanjchpkekehgaaGreatMxaa
namespace Go.Proofs.YtanjchpkekehgaaGreat

section -- RefA
set_option linter.unusedVariables false

/-- A power. -/
def pw (x : B) : Nat → B
  | 0 => 1
  | i + 1 => pw x i * x

theorem ev_snoc : ∀ (p : List B) (a x : B), ev (p ++ [a]) x = ev p x + a * pw x p.length
  | [], a, x => by show a + x * 0 = 0 + a * 1; grind
  | b :: p, a, x => by
    show b + x * ev (p ++ [a]) x = b + x * ev p x + a * (pw x p.length * x)
    rw [ev_snoc p a x]; grind
theorem ev_take {p : List B} {i : Nat} (h : i < p.length) (x : B) : ev (p.take (i + 1)) x = ev (p.take i) x + p.getD i 0 * pw x i := by
  rw [take_snocD h, ev_snoc]
  simp only [List.length_take]
  rw [Nat.min_eq_left (by omega)]
theorem ev_zero : ∀ (n : Nat) (x : B), ev (List.replicate n 0) x = 0
  | 0, x => rfl
  | n + 1, x => by
    rw [List.replicate_succ]
    show 0 + x * ev (List.replicate n 0) x = 0
    rw [ev_zero n x]; grind
theorem ev_set : ∀ (o : List B) (j : Nat) (c x : B), j < o.length → ev (o.set j (o.getD j 0 + c)) x = ev o x + c * pw x j
  | [], j, c, x, h => absurd h (by simp)
  | a :: o, 0, c, x, h => by
    show (a + c) + x * ev o x = a + x * ev o x + c * 1
    grind
  | a :: o, j + 1, c, x, h => by
    have := ev_set o j c x (by simpa using h)
    show a + x * ev (o.set j (o.getD j 0 + c)) x = a + x * ev o x + c * (pw x j * x)
    rw [this]; grind
theorem ev_set0 {o : List B} {j : Nat} (c x : B) (h : j < o.length) (hz : o.getD j 0 = 0) : ev (o.set j c) x = ev o x + c * pw x j := by
  have := ev_set o j c x h
  rw [hz] at this
  rw [← this]
  congr 2
  grind
theorem pw_add (x : B) (i : Nat) : ∀ k, pw x (i + k) = pw x i * pw x k
  | 0 => by show pw x i = pw x i * 1; grind
  | k + 1 => by
    show pw x (i + k) * x = pw x i * (pw x k * x)
    rw [pw_add x i k]; grind
theorem getD_set_ne {o : List B} {i j : Nat} {c : B} (h : i ≠ j) : (o.set i c).getD j 0 = o.getD j 0 := by
  rw [List.getD_eq_getElem?_getD, List.getD_eq_getElem?_getD, List.getElem?_set_ne h]
/-- A coefficient of nothing goes. -/
theorem ev_drop {p : List B} {i : Nat} (h : i < p.length) (hz : p.getD i 0 = 0) (x : B) : ev (p.take (i + 1)) x = ev (p.take i) x := by
  rw [ev_take h, hz]; grind
theorem ev_two (a x : B) : ev [a, 1] x = x + a := by
  show a + x * (1 + x * 0) = x + a
  grind
theorem ev_one (a x : B) : ev [a] x = a := by
  show a + x * 0 = a
  grind
end -- RefA

section -- CodeWa
set_option maxRecDepth 100000

def rmS (p c j : Nat) : Nat := if p.testBit j then p ^^^ c else p
/-- The first i terms. -/
def rmA (a b : Nat) : Nat → Nat
  | 0 => 0
  | i + 1 => if b.testBit i then rmA a b i ^^^ (a <<< i) else rmA a b i
/-- What is left, behind t steps. -/
def rmB (p : Nat) : Nat → Nat
  | 0 => p
  | t + 1 => rmS (rmB p t) (285 <<< (7 - t)) (15 - t)

theorem rmS_lin (p q c j : Nat) : rmS (p ^^^ q) c j = rmS p c j ^^^ rmS q c j := by
  unfold rmS
  rw [Nat.testBit_xor]
  cases p.testBit j <;> cases q.testBit j
  · simp
  · simp [Nat.xor_assoc]
  · simp only [Bool.xor_false, if_true]
    rw [Nat.xor_assoc, Nat.xor_comm q c, ← Nat.xor_assoc]
    simp
  · simp only [Bool.xor_self, if_true]
    rw [show p ^^^ c ^^^ (q ^^^ c) = p ^^^ q ^^^ (c ^^^ c) by
      rw [Nat.xor_assoc, Nat.xor_assoc, ← Nat.xor_assoc c q c, Nat.xor_comm c q, Nat.xor_assoc q c c], Nat.xor_self]
    simp
theorem rmB_lin (p q t : Nat) : rmB (p ^^^ q) t = rmB p t ^^^ rmB q t := by
  induction t with
  | zero => rfl
  | succ t ih => simp only [rmB, ih, rmS_lin]
theorem rmB_one : ((List.range 256).all fun a => (List.range 8).all fun i => rmB (a <<< i) 8 == mulN a (2 ^ i)) = true := by decide +kernel

theorem bits_all : ((List.range 256).all fun b => (List.range 8).all fun i => (b % 2 ^ (i + 1)) == (if b.testBit i then (b % 2 ^ i) ^^^ 2 ^ i else b % 2 ^ i)) = true := by decide +kernel
theorem mulN_xor {a x y : Nat} (ha : a < 256) (hx : x < 256) (hy : y < 256) : mulN a (x ^^^ y) = mulN a x ^^^ mulN a y := by
  have h : (⟨a, ha⟩ : B) * (⟨x, hx⟩ + ⟨y, hy⟩) = ⟨a, ha⟩ * ⟨x, hx⟩ + ⟨a, ha⟩ * ⟨y, hy⟩ := by grind
  exact congrArg B.v h
theorem rm_part {a b : Nat} (ha : a < 256) (hb : b < 256) {i : Nat} (hi : i ≤ 8) : rmB (rmA a b i) 8 = mulN a (b % 2 ^ i) := by
  induction i with
  | zero => 
    show rmB 0 8 = mulN a (b % 1)
    rw [Nat.mod_one]
    have h : rmB 0 8 = 0 := by decide
    rw [h]
    unfold mulN
    rw [if_pos (.inr rfl)]
  | succ i ih =>
    have hb2 := beq_iff_eq.1 (List.all_eq_true.1 (List.all_eq_true.1 bits_all b (List.mem_range.2 hb)) i (List.mem_range.2 (by omega)))
    have h1 := beq_iff_eq.1 (List.all_eq_true.1 (List.all_eq_true.1 rmB_one a (List.mem_range.2 ha)) i (List.mem_range.2 (by omega)))
    have hp : 2 ^ i < 256 := Nat.lt_of_lt_of_le (Nat.pow_lt_pow_right (by omega) (show i < 8 by omega)) (by decide)
    have hm : b % 2 ^ i < 256 := Nat.lt_of_le_of_lt (Nat.mod_le _ _) hb
    rw [hb2]
    simp only [rmA]
    by_cases q : b.testBit i = true
    · rw [if_pos q, if_pos q, rmB_lin, ih (by omega), h1, mulN_xor ha hm hp]
    · rw [if_neg q, if_neg q, ih (by omega)]
theorem rm_mul {a b : Nat} (ha : a < 256) (hb : b < 256) : rmB (rmA a b 8) 8 = mulN a b := by
  rw [rm_part ha hb (Nat.le_refl _), Nat.mod_eq_of_lt hb]
end -- CodeWa

end Go.Proofs.YtanjchpkekehgaaGreat
