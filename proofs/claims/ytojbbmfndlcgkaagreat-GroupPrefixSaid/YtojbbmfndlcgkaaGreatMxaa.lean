/-
  Bytes as a field: plain (no program in sight).
-/
namespace Go.Proofs.YtojbbmfndlcgkaaGreat

set_option maxRecDepth 100000

/-- Times 2. -/
def xt (x : Nat) : Nat := if 255 < 2 * x then (2 * x) ^^^ 285 else 2 * x
def expL : List Nat := [1, 2, 4, 8, 16, 32, 64, 128, 29, 58, 116, 232, 205, 135, 19, 38, 76, 152, 45, 90, 180, 117, 234, 201, 143, 3, 6, 12, 24, 48, 96, 192, 157, 39, 78, 156, 37, 74, 148, 53, 106, 212, 181, 119, 238, 193, 159, 35, 70, 140, 5, 10, 20, 40, 80, 160, 93, 186, 105, 210, 185, 111, 222, 161, 95, 190, 97, 194, 153, 47, 94, 188, 101, 202, 137, 15, 30, 60, 120, 240, 253, 231, 211, 187, 107, 214, 177, 127, 254, 225, 223, 163, 91, 182, 113, 226, 217, 175, 67, 134, 17, 34, 68, 136, 13, 26, 52, 104, 208, 189, 103, 206, 129, 31, 62, 124, 248, 237, 199, 147, 59, 118, 236, 197, 151, 51, 102, 204, 133, 23, 46, 92, 184, 109, 218, 169, 79, 158, 33, 66, 132, 21, 42, 84, 168, 77, 154, 41, 82, 164, 85, 170, 73, 146, 57, 114, 228, 213, 183, 115, 230, 209, 191, 99, 198, 145, 63, 126, 252, 229, 215, 179, 123, 246, 241, 255, 227, 219, 171, 75, 150, 49, 98, 196, 149, 55, 110, 220, 165, 87, 174, 65, 130, 25, 50, 100, 200, 141, 7, 14, 28, 56, 112, 224, 221, 167, 83, 166, 81, 162, 89, 178, 121, 242, 249, 239, 195, 155, 43, 86, 172, 69, 138, 9, 18, 36, 72, 144, 61, 122, 244, 245, 247, 243, 251, 235, 203, 139, 11, 22, 44, 88, 176, 125, 250, 233, 207, 131, 27, 54, 108, 216, 173, 71, 142]
def logL : List Nat := [0, 0, 1, 25, 2, 50, 26, 198, 3, 223, 51, 238, 27, 104, 199, 75, 4, 100, 224, 14, 52, 141, 239, 129, 28, 193, 105, 248, 200, 8, 76, 113, 5, 138, 101, 47, 225, 36, 15, 33, 53, 147, 142, 218, 240, 18, 130, 69, 29, 181, 194, 125, 106, 39, 249, 185, 201, 154, 9, 120, 77, 228, 114, 166, 6, 191, 139, 98, 102, 221, 48, 253, 226, 152, 37, 179, 16, 145, 34, 136, 54, 208, 148, 206, 143, 150, 219, 189, 241, 210, 19, 92, 131, 56, 70, 64, 30, 66, 182, 163, 195, 72, 126, 110, 107, 58, 40, 84, 250, 133, 186, 61, 202, 94, 155, 159, 10, 21, 121, 43, 78, 212, 229, 172, 115, 243, 167, 87, 7, 112, 192, 247, 140, 128, 99, 13, 103, 74, 222, 237, 49, 197, 254, 24, 227, 165, 153, 119, 38, 184, 180, 124, 17, 68, 146, 217, 35, 32, 137, 46, 55, 63, 209, 91, 149, 188, 207, 205, 144, 135, 151, 178, 220, 252, 190, 97, 242, 86, 211, 171, 20, 42, 93, 158, 132, 60, 57, 83, 71, 109, 65, 162, 31, 45, 67, 216, 183, 123, 164, 118, 196, 23, 73, 236, 127, 12, 111, 246, 108, 161, 59, 82, 41, 157, 85, 170, 251, 96, 134, 177, 187, 204, 62, 90, 203, 89, 95, 176, 156, 169, 160, 81, 11, 245, 22, 235, 122, 117, 44, 215, 79, 174, 213, 233, 230, 231, 173, 232, 116, 214, 244, 234, 168, 80, 88, 175]

/-- A byte. -/
structure B where
  v : Nat
  lt : v < 256
deriving DecidableEq

theorem B.ext {a b : B} (h : a.v = b.v) : a = b := by
  cases a; cases b; simp at h; subst h; rfl

def expN (i : Nat) : Nat := expL.getD i 1
def logN (a : Nat) : Nat := logL.getD a 0

theorem exp_all : ((List.range 255).all fun i => decide (0 < expN i) && decide (expN i < 256) && (logN (expN i) == i) && (xt (expN i) == expN ((i + 1) % 255))) = true := by decide +kernel
theorem log_all : ((List.range 256).all fun a => (a == 0) || (decide (logN a < 255) && (expN (logN a) == a))) = true := by decide +kernel

theorem exp_facts {i : Nat} (h : i < 255) : 0 < expN i ∧ expN i < 256 ∧ logN (expN i) = i ∧ xt (expN i) = expN ((i + 1) % 255) := by
  have := List.all_eq_true.1 exp_all i (by simpa using h)
  simp only [Bool.and_eq_true, decide_eq_true_eq, beq_iff_eq] at this
  exact ⟨this.1.1.1, this.1.1.2, this.1.2, this.2⟩
theorem log_facts {a : Nat} (h0 : 0 < a) (h : a < 256) : logN a < 255 ∧ expN (logN a) = a := by
  have := List.all_eq_true.1 log_all a (by simpa using h)
  simp only [Bool.or_eq_true, Bool.and_eq_true, decide_eq_true_eq, beq_iff_eq] at this
  rcases this with h1 | h1
  · omega
  · exact h1

/-- The product by the tables. -/
def mulN (a b : Nat) : Nat := if a = 0 ∨ b = 0 then 0 else expN ((logN a + logN b) % 255)
def invN (a : Nat) : Nat := expN ((255 - logN a) % 255)

theorem mulN_lt (a b : Nat) : mulN a b < 256 := by
  unfold mulN
  split
  · omega
  · exact (exp_facts (Nat.mod_lt _ (by omega))).2.1
theorem invN_lt (a : Nat) : invN a < 256 := (exp_facts (Nat.mod_lt _ (by omega))).2.1

theorem mulN_comm (a b : Nat) : mulN a b = mulN b a := by
  unfold mulN
  by_cases h : a = 0 ∨ b = 0
  · rw [if_pos h, if_pos h.symm]
  · rw [if_neg h, if_neg (fun q => h q.symm), Nat.add_comm]
theorem mulN_zero (a : Nat) : mulN a 0 = 0 := by simp [mulN]
theorem zero_mulN (a : Nat) : mulN 0 a = 0 := by simp [mulN]
theorem mulN_exp {i j : Nat} (hi : i < 255) (hj : j < 255) : mulN (expN i) (expN j) = expN ((i + j) % 255) := by
  have h1 := exp_facts hi
  have h2 := exp_facts hj
  unfold mulN
  rw [if_neg (by omega), h1.2.2.1, h2.2.2.1]
theorem asExp {a : Nat} (h0 : a ≠ 0) (h : a < 256) : ∃ i, i < 255 ∧ a = expN i := ⟨logN a, (log_facts (by omega) h).1, (log_facts (by omega) h).2.symm⟩
theorem expN_zero : expN 0 = 1 := by decide

theorem mulN_assoc {a b c : Nat} (ha : a < 256) (hb : b < 256) (hc : c < 256) : mulN (mulN a b) c = mulN a (mulN b c) := by
  by_cases a0 : a = 0
  · subst a0; simp [zero_mulN]
  by_cases b0 : b = 0
  · subst b0; simp [zero_mulN, mulN_zero]
  by_cases c0 : c = 0
  · subst c0; simp [mulN_zero]
  obtain ⟨i, hi, rfl⟩ := asExp a0 ha
  obtain ⟨j, hj, rfl⟩ := asExp b0 hb
  obtain ⟨k, hk, rfl⟩ := asExp c0 hc
  rw [mulN_exp hi hj, mulN_exp hj hk, mulN_exp (Nat.mod_lt _ (by omega)) hk, mulN_exp hi (Nat.mod_lt _ (by omega))]
  congr 1
  omega
theorem mulN_one {a : Nat} (ha : a < 256) : mulN a 1 = a := by
  by_cases a0 : a = 0
  · subst a0; simp [zero_mulN]
  obtain ⟨i, hi, rfl⟩ := asExp a0 ha
  rw [← expN_zero, mulN_exp hi (by omega)]
  congr 1
  omega
theorem mulN_inv {a : Nat} (a0 : a ≠ 0) (ha : a < 256) : mulN a (invN a) = 1 := by
  obtain ⟨i, hi, rfl⟩ := asExp a0 ha
  unfold invN
  rw [(exp_facts hi).2.2.1, mulN_exp hi (Nat.mod_lt _ (by omega)), ← expN_zero]
  congr 1
  omega
theorem mulN_ne {a b : Nat} (a0 : a ≠ 0) (b0 : b ≠ 0) : mulN a b ≠ 0 := by
  unfold mulN
  rw [if_neg (by simp [a0, b0])]
  have := (exp_facts (i := (logN a + logN b) % 255) (Nat.mod_lt _ (by omega))).1
  omega

/-- Times 2 is additive. -/
theorem xt_all : ((List.range 256).all fun a => (List.range 256).all fun b => xt (a ^^^ b) == (xt a ^^^ xt b)) = true := by decide +kernel
theorem xt_add {a b : Nat} (ha : a < 256) (hb : b < 256) : xt (a ^^^ b) = xt a ^^^ xt b := by
  have := List.all_eq_true.1 (List.all_eq_true.1 xt_all a (by simpa using ha)) b (by simpa using hb)
  simpa using this
theorem xt_lt {a : Nat} (ha : a < 256) : xt a < 256 := by
  unfold xt
  split
  · have : 2 * a ^^^ 285 < 2 ^ 9 := Nat.xor_lt_two_pow (by omega) (by omega)
    have h8 : (2 * a ^^^ 285).testBit 8 = false := by
      rw [Nat.testBit_xor]
      have : (2 * a).testBit 8 = true := by
        rw [show 2 * a = 2 ^ 8 + (2 * a - 256) from by omega, Nat.testBit_two_pow_add_eq, Nat.testBit_lt_two_pow (by omega)]
        rfl
      rw [this]; decide
    by_cases hh : 2 * a ^^^ 285 < 256
    · exact hh
    · exfalso
      have : (2 * a ^^^ 285).testBit 8 = true := by
        rw [show (2 * a ^^^ 285) = 2 ^ 8 + ((2 * a ^^^ 285) - 256) from by omega, Nat.testBit_two_pow_add_eq, Nat.testBit_lt_two_pow (by omega)]
        rfl
      rw [h8] at this; cases this
  · omega
def xts : Nat → Nat → Nat
  | 0, x => x
  | k + 1, x => xts k (xt x)
theorem xts_add : ∀ (k : Nat) {a b : Nat}, a < 256 → b < 256 → xts k (a ^^^ b) = xts k a ^^^ xts k b
  | 0, _, _, _, _ => rfl
  | k + 1, a, b, ha, hb => by
    show xts k (xt (a ^^^ b)) = _
    rw [xt_add ha hb]
    exact xts_add k (xt_lt ha) (xt_lt hb)
theorem xts_zero : ∀ k, xts k 0 = 0
  | 0 => rfl
  | k + 1 => by show xts k (xt 0) = 0; exact xts_zero k
theorem xts_exp : ∀ (k : Nat) {i : Nat}, i < 255 → xts k (expN i) = expN ((i + k) % 255)
  | 0, i, hi => by show expN i = _; congr 1; omega
  | k + 1, i, hi => by
    show xts k (xt (expN i)) = _
    rw [(exp_facts hi).2.2.2, xts_exp k (Nat.mod_lt _ (by omega))]
    congr 1
    omega
theorem mulN_xts {a k : Nat} (ha : a < 256) (hk : k < 255) : mulN a (expN k) = xts k a := by
  by_cases a0 : a = 0
  · subst a0; rw [zero_mulN, xts_zero]
  obtain ⟨i, hi, rfl⟩ := asExp a0 ha
  rw [mulN_exp hi hk, xts_exp k hi]
theorem xor_lt {a b : Nat} (ha : a < 256) (hb : b < 256) : a ^^^ b < 256 := Nat.xor_lt_two_pow (n := 8) ha hb
theorem mulN_add {a b c : Nat} (ha : a < 256) (hb : b < 256) (hc : c < 256) : mulN (a ^^^ b) c = mulN a c ^^^ mulN b c := by
  by_cases c0 : c = 0
  · subst c0; simp [mulN_zero]
  obtain ⟨k, hk, rfl⟩ := asExp c0 hc
  rw [mulN_xts (xor_lt ha hb) hk, mulN_xts ha hk, mulN_xts hb hk, xts_add k ha hb]

instance : Add B := ⟨fun a b => ⟨a.v ^^^ b.v, xor_lt a.lt b.lt⟩⟩
instance : Mul B := ⟨fun a b => ⟨mulN a.v b.v, mulN_lt _ _⟩⟩
def B.ofN (n : Nat) : B := if n % 2 = 0 then ⟨0, by omega⟩ else ⟨1, by omega⟩
instance (n : Nat) : OfNat B n := ⟨B.ofN n⟩
instance : NatCast B := ⟨B.ofN⟩
instance : IntCast B := ⟨fun i => B.ofN (i % 2).toNat⟩
instance : Inhabited B := ⟨0⟩
instance : Neg B := ⟨fun a => a⟩
instance : Sub B := ⟨fun a b => a + b⟩
def B.pow (a : B) : Nat → B
  | 0 => 1
  | n + 1 => B.pow a n * a
instance : HPow B Nat B := ⟨B.pow⟩
def B.inv (a : B) : B := if a.v = 0 then 0 else ⟨invN a.v, invN_lt _⟩
theorem B.add_v (a b : B) : (a + b).v = a.v ^^^ b.v := rfl
theorem B.mul_v (a b : B) : (a * b).v = mulN a.v b.v := rfl
theorem B.zero_v : (0 : B).v = 0 := rfl
theorem B.one_v : (1 : B).v = 1 := rfl
theorem B.sub_eq (a b : B) : a - b = a + b := rfl
theorem B.neg_eq (a : B) : -a = a := rfl
theorem B.add_self (a : B) : a + a = 0 := B.ext (by rw [B.add_v, Nat.xor_self, B.zero_v])
theorem B.add_zero' (a : B) : a + 0 = a := B.ext (by rw [B.add_v, B.zero_v, Nat.xor_zero])
theorem B.add_comm' (a b : B) : a + b = b + a := B.ext (by rw [B.add_v, B.add_v, Nat.xor_comm])
theorem B.mul_comm' (a b : B) : a * b = b * a := B.ext (by rw [B.mul_v, B.mul_v, mulN_comm])
theorem B.ofN_succ (n : Nat) : B.ofN (n + 1) = B.ofN n + 1 := by
  unfold B.ofN
  by_cases h : n % 2 = 0
  · rw [if_neg (by omega), if_pos h]; rfl
  · rw [if_pos (by omega), if_neg h]; rfl

instance : Lean.Grind.CommRing B where
  nsmul := ⟨fun n a => (n : B) * a⟩
  zsmul := ⟨fun i a => (i : B) * a⟩
  add_zero := B.add_zero'
  add_comm := B.add_comm'
  add_assoc a b c := B.ext (by simp only [B.add_v, Nat.xor_assoc])
  mul_assoc a b c := B.ext (by simp only [B.mul_v]; exact mulN_assoc a.lt b.lt c.lt)
  mul_one a := B.ext (by rw [B.mul_v, B.one_v, mulN_one a.lt])
  one_mul a := B.ext (by rw [B.mul_v, B.one_v, mulN_comm, mulN_one a.lt])
  left_distrib a b c := B.ext (by rw [B.mul_comm' a, B.mul_comm' a, B.mul_comm' a]; simp only [B.mul_v, B.add_v]; exact mulN_add b.lt c.lt a.lt)
  right_distrib a b c := B.ext (by simp only [B.mul_v, B.add_v]; exact mulN_add a.lt b.lt c.lt)
  zero_mul a := B.ext (by rw [B.mul_v, B.zero_v, zero_mulN])
  mul_zero a := B.ext (by rw [B.mul_v, B.zero_v, mulN_zero])
  pow_zero a := rfl
  pow_succ a n := rfl
  ofNat_succ n := B.ofN_succ n
  ofNat_eq_natCast n := rfl
  nsmul_eq_natCast_mul n a := rfl
  neg_add_cancel a := B.add_self a
  sub_eq_add_neg a b := rfl
  neg_zsmul i a := by
    show ((-i : Int) : B) * a = -((i : B) * a)
    have : ((-i : Int) : B) = (i : B) := by
      show B.ofN _ = B.ofN _
      congr 1
      omega
    rw [this]; rfl
  zsmul_natCast_eq_nsmul n a := by
    show ((n : Int) : B) * a = (n : B) * a
    have : ((n : Int) : B) = (n : B) := by
      show B.ofN ((n : Int) % 2).toNat = B.ofN n
      unfold B.ofN
      have : ((n : Int) % 2).toNat % 2 = n % 2 := by omega
      rw [this]
    rw [this]
  intCast_ofNat n := by
    show B.ofN ((n : Int) % 2).toNat = B.ofN n
    unfold B.ofN
    have : ((n : Int) % 2).toNat % 2 = n % 2 := by omega
    rw [this]
  intCast_neg i := by
    show B.ofN _ = B.ofN _
    congr 1
    omega
  mul_comm := B.mul_comm'

instance : Lean.Grind.IsCharP B 2 where
  ofNat_ext_iff := by
    intro x y
    show B.ofN x = B.ofN y ↔ _
    unfold B.ofN
    constructor
    · intro h
      split at h <;> split at h
      · omega
      · exact absurd (congrArg B.v h) (by decide)
      · exact absurd (congrArg B.v h) (by decide)
      · omega
    · intro h
      rw [h]

theorem B.mul_inv {a : B} (h : a ≠ 0) : a * a.inv = 1 := by
  have h0 : a.v ≠ 0 := fun e => h (B.ext e)
  refine B.ext ?_
  unfold B.inv
  rw [if_neg h0]
  exact mulN_inv h0 a.lt
theorem B.mul_ne {a b : B} (ha : a ≠ 0) (hb : b ≠ 0) : a * b ≠ 0 := fun e =>
  mulN_ne (fun q => ha (B.ext q)) (fun q => hb (B.ext q)) (congrArg B.v e)
theorem B.one_ne : (1 : B) ≠ 0 := fun e => absurd (congrArg B.v e) (by decide)
theorem B.add_eq_zero {a b : B} (h : a + b = 0) : a = b := by grind



end Go.Proofs.YtojbbmfndlcgkaaGreat
