/-
  CodeWa: The reference's product of bytes (plain): it is the field's.
  RefB: Walks of the reference, layer 1 (field): Mul, Inv, Div.
-/
import Derived.Test.YtanjchpkekehgaaMxaa
import Derived.Test.YtanjchpkekehgaaMxad
import Derived.Test.YtanjchpkekehgaaMxag
namespace Go.Proofs.Ytanjchpkekehgaa

section -- CodeWa
set_option maxRecDepth 100000

def rmS (p c j : Nat) : Nat := if p.testBit j then p ^^^ c else p
/-- The first i terms. -/
def rmA (a b : Nat) : Nat → Nat
  | 0 => 0
  | i + 1 => if b.testBit i then rmA a b i ^^^ (a <<< i) else rmA a b i
/-- What is left, behind t steps. -/
def rmB (p : Nat) : Nat → Nat
  | 0 => p
  | t + 1 => rmS (rmB p t) (285 <<< (7 - t)) (15 - t)

theorem rmS_lin (p q c j : Nat) : rmS (p ^^^ q) c j = rmS p c j ^^^ rmS q c j := by
  unfold rmS
  rw [Nat.testBit_xor]
  cases p.testBit j <;> cases q.testBit j
  · simp
  · simp [Nat.xor_assoc]
  · simp only [Bool.xor_false, if_true]
    rw [Nat.xor_assoc, Nat.xor_comm q c, ← Nat.xor_assoc]
    simp
  · simp only [Bool.xor_self, if_true]
    rw [show p ^^^ c ^^^ (q ^^^ c) = p ^^^ q ^^^ (c ^^^ c) by
      rw [Nat.xor_assoc, Nat.xor_assoc, ← Nat.xor_assoc c q c, Nat.xor_comm c q, Nat.xor_assoc q c c], Nat.xor_self]
    simp
theorem rmB_lin (p q t : Nat) : rmB (p ^^^ q) t = rmB p t ^^^ rmB q t := by
  induction t with
  | zero => rfl
  | succ t ih => simp only [rmB, ih, rmS_lin]
theorem rmB_one : ((List.range 256).all fun a => (List.range 8).all fun i => rmB (a <<< i) 8 == mulN a (2 ^ i)) = true := by decide +kernel

theorem bits_all : ((List.range 256).all fun b => (List.range 8).all fun i => (b % 2 ^ (i + 1)) == (if b.testBit i then (b % 2 ^ i) ^^^ 2 ^ i else b % 2 ^ i)) = true := by decide +kernel
theorem mulN_xor {a x y : Nat} (ha : a < 256) (hx : x < 256) (hy : y < 256) : mulN a (x ^^^ y) = mulN a x ^^^ mulN a y := by
  have h : (⟨a, ha⟩ : B) * (⟨x, hx⟩ + ⟨y, hy⟩) = ⟨a, ha⟩ * ⟨x, hx⟩ + ⟨a, ha⟩ * ⟨y, hy⟩ := by grind
  exact congrArg B.v h
theorem rm_part {a b : Nat} (ha : a < 256) (hb : b < 256) {i : Nat} (hi : i ≤ 8) : rmB (rmA a b i) 8 = mulN a (b % 2 ^ i) := by
  induction i with
  | zero => 
    show rmB 0 8 = mulN a (b % 1)
    rw [Nat.mod_one]
    have h : rmB 0 8 = 0 := by decide
    rw [h]
    unfold mulN
    rw [if_pos (.inr rfl)]
  | succ i ih =>
    have hb2 := beq_iff_eq.1 (List.all_eq_true.1 (List.all_eq_true.1 bits_all b (List.mem_range.2 hb)) i (List.mem_range.2 (by omega)))
    have h1 := beq_iff_eq.1 (List.all_eq_true.1 (List.all_eq_true.1 rmB_one a (List.mem_range.2 ha)) i (List.mem_range.2 (by omega)))
    have hp : 2 ^ i < 256 := Nat.lt_of_lt_of_le (Nat.pow_lt_pow_right (by omega) (show i < 8 by omega)) (by decide)
    have hm : b % 2 ^ i < 256 := Nat.lt_of_le_of_lt (Nat.mod_le _ _) hb
    rw [hb2]
    simp only [rmA]
    by_cases q : b.testBit i = true
    · rw [if_pos q, if_pos q, rmB_lin, ih (by omega), h1, mulN_xor ha hm hp]
    · rw [if_neg q, if_neg q, ih (by omega)]
theorem rm_mul {a b : Nat} (ha : a < 256) (hb : b < 256) : rmB (rmA a b 8) 8 = mulN a b := by
  rw [rm_part ha hb (Nat.le_refl _), Nat.mod_eq_of_lt hb]
end -- CodeWa

section -- RefB
open Go.RowKit Go.Maps
set_option linter.unusedVariables false
set_option maxRecDepth 100000
set_option maxHeartbeats 2000000

theorem rmA_lt {a b : Nat} (ha : a < 256) : ∀ i, i ≤ 8 → rmA a b i < 2 ^ 16
  | 0, _ => by simp [rmA]
  | i + 1, h => by
    have ih := rmA_lt (b := b) ha i (by omega)
    simp only [rmA]
    split
    · refine Nat.xor_lt_two_pow ih ?_
      rw [Nat.shiftLeft_eq]
      have : 2 ^ i ≤ 2 ^ 7 := Nat.pow_le_pow_right (by omega) (by omega)
      have := Nat.mul_le_mul (show a ≤ 255 by omega) this
      omega
    · exact ih
theorem rmB_lt {p : Nat} (hp : p < 2 ^ 16) : ∀ t, t ≤ 8 → rmB p t < 2 ^ 16
  | 0, _ => hp
  | t + 1, h => by
    have ih := rmB_lt hp t (by omega)
    simp only [rmB, rmS]
    split
    · refine Nat.xor_lt_two_pow ih ?_
      rw [Nat.shiftLeft_eq]
      have : 2 ^ (7 - t) ≤ 2 ^ 7 := Nat.pow_le_pow_right (by omega) (by omega)
      have := Nat.mul_le_mul (show 285 ≤ 285 by omega) this
      omega
    · exact ih

theorem i64_and_nat' (a b : Nat) (ha : a < 4611686018427387904) (hb : b < 4611686018427387904) : bits .and .i64 (a : Int) (b : Int) = ((a &&& b : Nat) : Int) := by
  have hx : a &&& b < 2 ^ 62 := Nat.and_lt_two_pow _ (by omega)
  show IntKind.i64.wrap ((BitVec.ofInt 64 (a : Int) &&& BitVec.ofInt 64 (b : Int)).toNat : Int) = _
  rw [BitVec.toNat_and, ofInt_u64 a (by omega), ofInt_u64 b (by omega)]
  exact IntWalk.i64_in ((a &&& b : Nat) : Int) (by omega)

theorem bit_u8 (b k : Nat) (hb : b < 256) : bits .and .u8 ((b : Int) / 2 ^ k) 1 = if b.testBit k then 1 else 0 := by
  have e : (b : Int) / 2 ^ k = ((b / 2 ^ k : Nat) : Int) := by simp
  have h1 : b / 2 ^ k ≤ b := Nat.div_le_self _ _
  have h := u8_and_nat (b / 2 ^ k) 1 (by omega) (by omega)
  rw [e, show (1 : Int) = ((1 : Nat) : Int) from rfl, h, Nat.and_one_is_mod, Nat.testBit_eq_decide_div_mod_eq]
  have : b / 2 ^ k % 2 = 0 ∨ b / 2 ^ k % 2 = 1 := by omega
  rcases this with q | q <;> simp [q]
theorem bit_i64 (b k : Nat) (hb : b < 65536) : bits .and .i64 ((b : Int) / 2 ^ k) 1 = if b.testBit k then 1 else 0 := by
  have e : (b : Int) / 2 ^ k = ((b / 2 ^ k : Nat) : Int) := by simp
  have h1 : b / 2 ^ k ≤ b := Nat.div_le_self _ _
  have h := i64_and_nat' (b / 2 ^ k) 1 (by omega) (by omega)
  rw [e, show (1 : Int) = ((1 : Nat) : Int) from rfl, h, Nat.and_one_is_mod, Nat.testBit_eq_decide_div_mod_eq]
  have : b / 2 ^ k % 2 = 0 ∨ b / 2 ^ k % 2 = 1 := by omega
  rcases this with q | q <;> simp [q]
theorem shl_i64 (a k : Nat) (ha : a < 512) (hk : k < 8) : wrap64 ((a : Int) * 2 ^ k) = ((a <<< k : Nat) : Int) := by
  have e : (a : Int) * 2 ^ k = ((a * 2 ^ k : Nat) : Int) := by simp
  have h1 : 2 ^ k ≤ 2 ^ 7 := Nat.pow_le_pow_right (by omega) (by omega)
  have h2 := Nat.mul_le_mul (show a ≤ 511 by omega) h1
  rw [e, Nat.shiftLeft_eq]
  unfold wrap64
  omega
end -- RefB

end Go.Proofs.Ytanjchpkekehgaa
