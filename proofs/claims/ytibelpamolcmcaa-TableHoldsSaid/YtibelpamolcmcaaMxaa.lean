/-
  CodeF: Bytes as a field: plain (no program in sight).
  CodeG: Polynomials over bytes, values elsewhere (Lagrange): plain.
  CodeH: Matrices over bytes: steps (Gauss, Jordan); the matrix that turns symbols to their source: plain.
-/

namespace Go.Proofs.Ytibelpamolcmcaa

section -- CodeF
set_option maxRecDepth 100000

/-- Times 2. -/
def xt (x : Nat) : Nat := if 255 < 2 * x then (2 * x) ^^^ 285 else 2 * x
def expL : List Nat := [1, 2, 4, 8, 16, 32, 64, 128, 29, 58, 116, 232, 205, 135, 19, 38, 76, 152, 45, 90, 180, 117, 234, 201, 143, 3, 6, 12, 24, 48, 96, 192, 157, 39, 78, 156, 37, 74, 148, 53, 106, 212, 181, 119, 238, 193, 159, 35, 70, 140, 5, 10, 20, 40, 80, 160, 93, 186, 105, 210, 185, 111, 222, 161, 95, 190, 97, 194, 153, 47, 94, 188, 101, 202, 137, 15, 30, 60, 120, 240, 253, 231, 211, 187, 107, 214, 177, 127, 254, 225, 223, 163, 91, 182, 113, 226, 217, 175, 67, 134, 17, 34, 68, 136, 13, 26, 52, 104, 208, 189, 103, 206, 129, 31, 62, 124, 248, 237, 199, 147, 59, 118, 236, 197, 151, 51, 102, 204, 133, 23, 46, 92, 184, 109, 218, 169, 79, 158, 33, 66, 132, 21, 42, 84, 168, 77, 154, 41, 82, 164, 85, 170, 73, 146, 57, 114, 228, 213, 183, 115, 230, 209, 191, 99, 198, 145, 63, 126, 252, 229, 215, 179, 123, 246, 241, 255, 227, 219, 171, 75, 150, 49, 98, 196, 149, 55, 110, 220, 165, 87, 174, 65, 130, 25, 50, 100, 200, 141, 7, 14, 28, 56, 112, 224, 221, 167, 83, 166, 81, 162, 89, 178, 121, 242, 249, 239, 195, 155, 43, 86, 172, 69, 138, 9, 18, 36, 72, 144, 61, 122, 244, 245, 247, 243, 251, 235, 203, 139, 11, 22, 44, 88, 176, 125, 250, 233, 207, 131, 27, 54, 108, 216, 173, 71, 142]
def logL : List Nat := [0, 0, 1, 25, 2, 50, 26, 198, 3, 223, 51, 238, 27, 104, 199, 75, 4, 100, 224, 14, 52, 141, 239, 129, 28, 193, 105, 248, 200, 8, 76, 113, 5, 138, 101, 47, 225, 36, 15, 33, 53, 147, 142, 218, 240, 18, 130, 69, 29, 181, 194, 125, 106, 39, 249, 185, 201, 154, 9, 120, 77, 228, 114, 166, 6, 191, 139, 98, 102, 221, 48, 253, 226, 152, 37, 179, 16, 145, 34, 136, 54, 208, 148, 206, 143, 150, 219, 189, 241, 210, 19, 92, 131, 56, 70, 64, 30, 66, 182, 163, 195, 72, 126, 110, 107, 58, 40, 84, 250, 133, 186, 61, 202, 94, 155, 159, 10, 21, 121, 43, 78, 212, 229, 172, 115, 243, 167, 87, 7, 112, 192, 247, 140, 128, 99, 13, 103, 74, 222, 237, 49, 197, 254, 24, 227, 165, 153, 119, 38, 184, 180, 124, 17, 68, 146, 217, 35, 32, 137, 46, 55, 63, 209, 91, 149, 188, 207, 205, 144, 135, 151, 178, 220, 252, 190, 97, 242, 86, 211, 171, 20, 42, 93, 158, 132, 60, 57, 83, 71, 109, 65, 162, 31, 45, 67, 216, 183, 123, 164, 118, 196, 23, 73, 236, 127, 12, 111, 246, 108, 161, 59, 82, 41, 157, 85, 170, 251, 96, 134, 177, 187, 204, 62, 90, 203, 89, 95, 176, 156, 169, 160, 81, 11, 245, 22, 235, 122, 117, 44, 215, 79, 174, 213, 233, 230, 231, 173, 232, 116, 214, 244, 234, 168, 80, 88, 175]

/-- A byte. -/
structure B where
  v : Nat
  lt : v < 256
deriving DecidableEq

theorem B.ext {a b : B} (h : a.v = b.v) : a = b := by
  cases a; cases b; simp at h; subst h; rfl

def expN (i : Nat) : Nat := expL.getD i 1
def logN (a : Nat) : Nat := logL.getD a 0

theorem exp_all : ((List.range 255).all fun i => decide (0 < expN i) && decide (expN i < 256) && (logN (expN i) == i) && (xt (expN i) == expN ((i + 1) % 255))) = true := by decide +kernel
theorem log_all : ((List.range 256).all fun a => (a == 0) || (decide (logN a < 255) && (expN (logN a) == a))) = true := by decide +kernel

theorem exp_facts {i : Nat} (h : i < 255) : 0 < expN i ∧ expN i < 256 ∧ logN (expN i) = i ∧ xt (expN i) = expN ((i + 1) % 255) := by
  have := List.all_eq_true.1 exp_all i (by simpa using h)
  simp only [Bool.and_eq_true, decide_eq_true_eq, beq_iff_eq] at this
  exact ⟨this.1.1.1, this.1.1.2, this.1.2, this.2⟩
theorem log_facts {a : Nat} (h0 : 0 < a) (h : a < 256) : logN a < 255 ∧ expN (logN a) = a := by
  have := List.all_eq_true.1 log_all a (by simpa using h)
  simp only [Bool.or_eq_true, Bool.and_eq_true, decide_eq_true_eq, beq_iff_eq] at this
  rcases this with h1 | h1
  · omega
  · exact h1

/-- The product by the tables. -/
def mulN (a b : Nat) : Nat := if a = 0 ∨ b = 0 then 0 else expN ((logN a + logN b) % 255)
def invN (a : Nat) : Nat := expN ((255 - logN a) % 255)

theorem mulN_lt (a b : Nat) : mulN a b < 256 := by
  unfold mulN
  split
  · omega
  · exact (exp_facts (Nat.mod_lt _ (by omega))).2.1
theorem invN_lt (a : Nat) : invN a < 256 := (exp_facts (Nat.mod_lt _ (by omega))).2.1

theorem mulN_comm (a b : Nat) : mulN a b = mulN b a := by
  unfold mulN
  by_cases h : a = 0 ∨ b = 0
  · rw [if_pos h, if_pos h.symm]
  · rw [if_neg h, if_neg (fun q => h q.symm), Nat.add_comm]
theorem mulN_zero (a : Nat) : mulN a 0 = 0 := by simp [mulN]
theorem zero_mulN (a : Nat) : mulN 0 a = 0 := by simp [mulN]
theorem mulN_exp {i j : Nat} (hi : i < 255) (hj : j < 255) : mulN (expN i) (expN j) = expN ((i + j) % 255) := by
  have h1 := exp_facts hi
  have h2 := exp_facts hj
  unfold mulN
  rw [if_neg (by omega), h1.2.2.1, h2.2.2.1]
theorem asExp {a : Nat} (h0 : a ≠ 0) (h : a < 256) : ∃ i, i < 255 ∧ a = expN i := ⟨logN a, (log_facts (by omega) h).1, (log_facts (by omega) h).2.symm⟩
theorem expN_zero : expN 0 = 1 := by decide

theorem mulN_assoc {a b c : Nat} (ha : a < 256) (hb : b < 256) (hc : c < 256) : mulN (mulN a b) c = mulN a (mulN b c) := by
  by_cases a0 : a = 0
  · subst a0; simp [zero_mulN]
  by_cases b0 : b = 0
  · subst b0; simp [zero_mulN, mulN_zero]
  by_cases c0 : c = 0
  · subst c0; simp [mulN_zero]
  obtain ⟨i, hi, rfl⟩ := asExp a0 ha
  obtain ⟨j, hj, rfl⟩ := asExp b0 hb
  obtain ⟨k, hk, rfl⟩ := asExp c0 hc
  rw [mulN_exp hi hj, mulN_exp hj hk, mulN_exp (Nat.mod_lt _ (by omega)) hk, mulN_exp hi (Nat.mod_lt _ (by omega))]
  congr 1
  omega
theorem mulN_one {a : Nat} (ha : a < 256) : mulN a 1 = a := by
  by_cases a0 : a = 0
  · subst a0; simp [zero_mulN]
  obtain ⟨i, hi, rfl⟩ := asExp a0 ha
  rw [← expN_zero, mulN_exp hi (by omega)]
  congr 1
  omega
theorem mulN_inv {a : Nat} (a0 : a ≠ 0) (ha : a < 256) : mulN a (invN a) = 1 := by
  obtain ⟨i, hi, rfl⟩ := asExp a0 ha
  unfold invN
  rw [(exp_facts hi).2.2.1, mulN_exp hi (Nat.mod_lt _ (by omega)), ← expN_zero]
  congr 1
  omega
theorem mulN_ne {a b : Nat} (a0 : a ≠ 0) (b0 : b ≠ 0) : mulN a b ≠ 0 := by
  unfold mulN
  rw [if_neg (by simp [a0, b0])]
  have := (exp_facts (i := (logN a + logN b) % 255) (Nat.mod_lt _ (by omega))).1
  omega

/-- Times 2 is additive. -/
theorem xt_all : ((List.range 256).all fun a => (List.range 256).all fun b => xt (a ^^^ b) == (xt a ^^^ xt b)) = true := by decide +kernel
theorem xt_add {a b : Nat} (ha : a < 256) (hb : b < 256) : xt (a ^^^ b) = xt a ^^^ xt b := by
  have := List.all_eq_true.1 (List.all_eq_true.1 xt_all a (by simpa using ha)) b (by simpa using hb)
  simpa using this
theorem xt_lt {a : Nat} (ha : a < 256) : xt a < 256 := by
  unfold xt
  split
  · have : 2 * a ^^^ 285 < 2 ^ 9 := Nat.xor_lt_two_pow (by omega) (by omega)
    have h8 : (2 * a ^^^ 285).testBit 8 = false := by
      rw [Nat.testBit_xor]
      have : (2 * a).testBit 8 = true := by
        rw [show 2 * a = 2 ^ 8 + (2 * a - 256) from by omega, Nat.testBit_two_pow_add_eq, Nat.testBit_lt_two_pow (by omega)]
        rfl
      rw [this]; decide
    by_cases hh : 2 * a ^^^ 285 < 256
    · exact hh
    · exfalso
      have : (2 * a ^^^ 285).testBit 8 = true := by
        rw [show (2 * a ^^^ 285) = 2 ^ 8 + ((2 * a ^^^ 285) - 256) from by omega, Nat.testBit_two_pow_add_eq, Nat.testBit_lt_two_pow (by omega)]
        rfl
      rw [h8] at this; cases this
  · omega
def xts : Nat → Nat → Nat
  | 0, x => x
  | k + 1, x => xts k (xt x)
theorem xts_add : ∀ (k : Nat) {a b : Nat}, a < 256 → b < 256 → xts k (a ^^^ b) = xts k a ^^^ xts k b
  | 0, _, _, _, _ => rfl
  | k + 1, a, b, ha, hb => by
    show xts k (xt (a ^^^ b)) = _
    rw [xt_add ha hb]
    exact xts_add k (xt_lt ha) (xt_lt hb)
theorem xts_zero : ∀ k, xts k 0 = 0
  | 0 => rfl
  | k + 1 => by show xts k (xt 0) = 0; exact xts_zero k
theorem xts_exp : ∀ (k : Nat) {i : Nat}, i < 255 → xts k (expN i) = expN ((i + k) % 255)
  | 0, i, hi => by show expN i = _; congr 1; omega
  | k + 1, i, hi => by
    show xts k (xt (expN i)) = _
    rw [(exp_facts hi).2.2.2, xts_exp k (Nat.mod_lt _ (by omega))]
    congr 1
    omega
theorem mulN_xts {a k : Nat} (ha : a < 256) (hk : k < 255) : mulN a (expN k) = xts k a := by
  by_cases a0 : a = 0
  · subst a0; rw [zero_mulN, xts_zero]
  obtain ⟨i, hi, rfl⟩ := asExp a0 ha
  rw [mulN_exp hi hk, xts_exp k hi]
theorem xor_lt {a b : Nat} (ha : a < 256) (hb : b < 256) : a ^^^ b < 256 := Nat.xor_lt_two_pow (n := 8) ha hb
theorem mulN_add {a b c : Nat} (ha : a < 256) (hb : b < 256) (hc : c < 256) : mulN (a ^^^ b) c = mulN a c ^^^ mulN b c := by
  by_cases c0 : c = 0
  · subst c0; simp [mulN_zero]
  obtain ⟨k, hk, rfl⟩ := asExp c0 hc
  rw [mulN_xts (xor_lt ha hb) hk, mulN_xts ha hk, mulN_xts hb hk, xts_add k ha hb]

instance : Add B := ⟨fun a b => ⟨a.v ^^^ b.v, xor_lt a.lt b.lt⟩⟩
instance : Mul B := ⟨fun a b => ⟨mulN a.v b.v, mulN_lt _ _⟩⟩
def B.ofN (n : Nat) : B := if n % 2 = 0 then ⟨0, by omega⟩ else ⟨1, by omega⟩
instance (n : Nat) : OfNat B n := ⟨B.ofN n⟩
instance : NatCast B := ⟨B.ofN⟩
instance : IntCast B := ⟨fun i => B.ofN (i % 2).toNat⟩
instance : Inhabited B := ⟨0⟩
instance : Neg B := ⟨fun a => a⟩
instance : Sub B := ⟨fun a b => a + b⟩
def B.pow (a : B) : Nat → B
  | 0 => 1
  | n + 1 => B.pow a n * a
instance : HPow B Nat B := ⟨B.pow⟩
def B.inv (a : B) : B := if a.v = 0 then 0 else ⟨invN a.v, invN_lt _⟩
theorem B.add_v (a b : B) : (a + b).v = a.v ^^^ b.v := rfl
theorem B.mul_v (a b : B) : (a * b).v = mulN a.v b.v := rfl
theorem B.zero_v : (0 : B).v = 0 := rfl
theorem B.one_v : (1 : B).v = 1 := rfl
theorem B.sub_eq (a b : B) : a - b = a + b := rfl
theorem B.neg_eq (a : B) : -a = a := rfl
theorem B.add_self (a : B) : a + a = 0 := B.ext (by rw [B.add_v, Nat.xor_self, B.zero_v])
theorem B.add_zero' (a : B) : a + 0 = a := B.ext (by rw [B.add_v, B.zero_v, Nat.xor_zero])
theorem B.add_comm' (a b : B) : a + b = b + a := B.ext (by rw [B.add_v, B.add_v, Nat.xor_comm])
theorem B.mul_comm' (a b : B) : a * b = b * a := B.ext (by rw [B.mul_v, B.mul_v, mulN_comm])
theorem B.ofN_succ (n : Nat) : B.ofN (n + 1) = B.ofN n + 1 := by
  unfold B.ofN
  by_cases h : n % 2 = 0
  · rw [if_neg (by omega), if_pos h]; rfl
  · rw [if_pos (by omega), if_neg h]; rfl

instance : Lean.Grind.CommRing B where
  nsmul := ⟨fun n a => (n : B) * a⟩
  zsmul := ⟨fun i a => (i : B) * a⟩
  add_zero := B.add_zero'
  add_comm := B.add_comm'
  add_assoc a b c := B.ext (by simp only [B.add_v, Nat.xor_assoc])
  mul_assoc a b c := B.ext (by simp only [B.mul_v]; exact mulN_assoc a.lt b.lt c.lt)
  mul_one a := B.ext (by rw [B.mul_v, B.one_v, mulN_one a.lt])
  one_mul a := B.ext (by rw [B.mul_v, B.one_v, mulN_comm, mulN_one a.lt])
  left_distrib a b c := B.ext (by rw [B.mul_comm' a, B.mul_comm' a, B.mul_comm' a]; simp only [B.mul_v, B.add_v]; exact mulN_add b.lt c.lt a.lt)
  right_distrib a b c := B.ext (by simp only [B.mul_v, B.add_v]; exact mulN_add a.lt b.lt c.lt)
  zero_mul a := B.ext (by rw [B.mul_v, B.zero_v, zero_mulN])
  mul_zero a := B.ext (by rw [B.mul_v, B.zero_v, mulN_zero])
  pow_zero a := rfl
  pow_succ a n := rfl
  ofNat_succ n := B.ofN_succ n
  ofNat_eq_natCast n := rfl
  nsmul_eq_natCast_mul n a := rfl
  neg_add_cancel a := B.add_self a
  sub_eq_add_neg a b := rfl
  neg_zsmul i a := by
    show ((-i : Int) : B) * a = -((i : B) * a)
    have : ((-i : Int) : B) = (i : B) := by
      show B.ofN _ = B.ofN _
      congr 1
      omega
    rw [this]; rfl
  zsmul_natCast_eq_nsmul n a := by
    show ((n : Int) : B) * a = (n : B) * a
    have : ((n : Int) : B) = (n : B) := by
      show B.ofN ((n : Int) % 2).toNat = B.ofN n
      unfold B.ofN
      have : ((n : Int) % 2).toNat % 2 = n % 2 := by omega
      rw [this]
    rw [this]
  intCast_ofNat n := by
    show B.ofN ((n : Int) % 2).toNat = B.ofN n
    unfold B.ofN
    have : ((n : Int) % 2).toNat % 2 = n % 2 := by omega
    rw [this]
  intCast_neg i := by
    show B.ofN _ = B.ofN _
    congr 1
    omega
  mul_comm := B.mul_comm'

instance : Lean.Grind.IsCharP B 2 where
  ofNat_ext_iff := by
    intro x y
    show B.ofN x = B.ofN y ↔ _
    unfold B.ofN
    constructor
    · intro h
      split at h <;> split at h
      · omega
      · exact absurd (congrArg B.v h) (by decide)
      · exact absurd (congrArg B.v h) (by decide)
      · omega
    · intro h
      rw [h]

theorem B.mul_inv {a : B} (h : a ≠ 0) : a * a.inv = 1 := by
  have h0 : a.v ≠ 0 := fun e => h (B.ext e)
  refine B.ext ?_
  unfold B.inv
  rw [if_neg h0]
  exact mulN_inv h0 a.lt
theorem B.mul_ne {a b : B} (ha : a ≠ 0) (hb : b ≠ 0) : a * b ≠ 0 := fun e =>
  mulN_ne (fun q => ha (B.ext q)) (fun q => hb (B.ext q)) (congrArg B.v e)
theorem B.one_ne : (1 : B) ≠ 0 := fun e => absurd (congrArg B.v e) (by decide)
theorem B.add_eq_zero {a b : B} (h : a + b = 0) : a = b := by grind
end -- CodeF

section -- CodeG
/-- A polynomial's value: coefficients, the constant one first. -/
def ev : List B → B → B
  | [], _ => 0
  | c :: p, x => c + x * ev p x

/-- The product of the distances. -/
def pr : List B → B → B
  | [], _ => 1
  | a :: l, x => (x + a) * pr l x

theorem pr_zero : ∀ {l : List B} {x : B}, x ∈ l → pr l x = 0
  | a :: l, x, h => by
    show (x + a) * pr l x = 0
    rcases List.mem_cons.1 h with rfl | h
    · grind
    · rw [pr_zero h]; grind
theorem pr_ne : ∀ {l : List B} {x : B}, x ∉ l → pr l x ≠ 0
  | [], _, _ => B.one_ne
  | a :: l, x, h => by
    show (x + a) * pr l x ≠ 0
    refine B.mul_ne (fun e => h ?_) (pr_ne (fun e => h (List.mem_cons_of_mem _ e)))
    rw [B.add_eq_zero e]; simp

/-- Multiplied by x + a. -/
def mulX (a : B) : B → List B → List B
  | c, [] => [c]
  | c, d :: p => (c + a * d) :: mulX a d p
theorem mulX_len (a : B) : ∀ (c : B) (p : List B), (mulX a c p).length = p.length + 1
  | _, [] => rfl
  | _, d :: p => by simp [mulX, mulX_len a d p]
theorem mulX_ev (a : B) : ∀ (c : B) (p : List B) (x : B), ev (mulX a c p) x = c + (x + a) * ev p x
  | c, [], x => by simp [mulX, ev]; grind
  | c, d :: p, x => by
    show (c + a * d) + x * ev (mulX a d p) x = c + (x + a) * (d + x * ev p x)
    rw [mulX_ev a d p x]; grind
/-- The coefficients of a product of distances. -/
def prC : List B → List B
  | [] => [1]
  | a :: l => mulX a 0 (prC l)
theorem prC_len : ∀ l : List B, (prC l).length = l.length + 1
  | [] => rfl
  | a :: l => by simp [prC, mulX_len, prC_len l]
theorem prC_ev : ∀ (l : List B) (x : B), ev (prC l) x = pr l x
  | [], x => by simp [prC, ev, pr]; grind
  | a :: l, x => by
    show ev (mulX a 0 (prC l)) x = (x + a) * pr l x
    rw [mulX_ev, prC_ev l x]; grind

/-- A factor taken out. -/
theorem divX (r : B) : ∀ p : List B, ∃ q : List B, q.length = p.length - 1 ∧ ∀ x, ev p x = (x + r) * ev q x + ev p r
  | [] => ⟨[], rfl, fun x => by simp [ev]; grind⟩
  | [c] => ⟨[], rfl, fun x => by simp [ev]; grind⟩
  | c :: d :: p => by
    obtain ⟨q, hl, hq⟩ := divX r (d :: p)
    refine ⟨ev (d :: p) r :: q, by simp at hl ⊢; omega, fun x => ?_⟩
    have := hq x
    show c + x * ev (d :: p) x = (x + r) * (ev (d :: p) r + x * ev q x) + (c + r * ev (d :: p) r)
    rw [this]; grind
/-- As many roots as coefficients: it is 0 everywhere. -/
theorem roots : ∀ (xs p : List B), xs.Nodup → p.length ≤ xs.length → (∀ x ∈ xs, ev p x = 0) → ∀ x, ev p x = 0
  | [], p, _, hl, _, x => by
    have : p = [] := List.eq_nil_of_length_eq_zero (by simpa using hl)
    subst this; rfl
  | r :: xs, p, hn, hl, h0, x => by
    obtain ⟨q, hq, he⟩ := divX r p
    have hr := h0 r (by simp)
    have hn' := List.nodup_cons.1 hn
    have : ∀ y, ev q y = 0 := roots xs q hn'.2 (by rw [hq]; simp at hl; omega) (fun y hy => by
      have h1 := he y
      rw [h0 y (by simp [hy]), hr] at h1
      have hne : y + r ≠ 0 := fun e => hn'.1 (by rw [← B.add_eq_zero e]; exact hy)
      have hz : (y + r) * ev q y = 0 := by grind
      by_cases e : ev q y = 0
      · exact e
      · exact absurd hz (B.mul_ne hne e))
    rw [he x, this x, hr]; grind

/-- The sum of polynomials. -/
def addP : List B → List B → List B
  | [], q => q
  | p, [] => p
  | a :: p, b :: q => (a + b) :: addP p q
theorem addP_ev : ∀ (p q : List B) (x : B), ev (addP p q) x = ev p x + ev q x
  | [], q, x => by simp [addP, ev]; grind
  | a :: p, [], x => by simp [addP, ev]; grind
  | a :: p, b :: q, x => by
    show (a + b) + x * ev (addP p q) x = (a + x * ev p x) + (b + x * ev q x)
    rw [addP_ev p q x]; grind
theorem addP_len : ∀ (p q : List B) (n : Nat), p.length ≤ n → q.length ≤ n → (addP p q).length ≤ n
  | [], q, n, _, h => by simpa [addP] using h
  | a :: p, [], n, h, _ => by simpa [addP] using h
  | a :: p, b :: q, n, h1, h2 => by
    simp only [addP, List.length_cons] at h1 h2 ⊢
    have := addP_len p q (n - 1) (by omega) (by omega)
    omega
/-- Times a byte. -/
def scP (c : B) (p : List B) : List B := p.map (c * ·)
theorem scP_ev (c : B) : ∀ (p : List B) (x : B), ev (scP c p) x = c * ev p x
  | [], x => by simp [scP, ev]; grind
  | a :: p, x => by
    show c * a + x * ev (scP c p) x = c * (a + x * ev p x)
    rw [scP_ev c p x]; grind
theorem scP_len (c : B) (p : List B) : (scP c p).length = p.length := by simp [scP]

/-- A sum. -/
def sm (n : Nat) (f : Nat → B) : B := match n with
  | 0 => 0
  | n + 1 => sm n f + f n
theorem sm_congr {n : Nat} {f g : Nat → B} (h : ∀ i, i < n → f i = g i) : sm n f = sm n g := by
  induction n with
  | zero => rfl
  | succ n ih => show sm n f + f n = sm n g + g n; rw [ih (fun i hi => h i (by omega)), h n (by omega)]
theorem sm_zero {n : Nat} {f : Nat → B} (h : ∀ i, i < n → f i = 0) : sm n f = 0 := by
  induction n with
  | zero => rfl
  | succ n ih => show sm n f + f n = 0; rw [ih (fun i hi => h i (by omega)), h n (by omega)]; grind
theorem sm_one {n k : Nat} {f : Nat → B} (hk : k < n) (h : ∀ i, i < n → i ≠ k → f i = 0) : sm n f = f k := by
  induction n with
  | zero => omega
  | succ n ih =>
    show sm n f + f n = f k
    by_cases e : k = n
    · subst e
      rw [sm_zero (fun i hi => h i (by omega) (by omega))]; grind
    · rw [ih (by omega) (fun i hi => h i (by omega)), h n (by omega) (fun q => e q.symm)]; grind
theorem sm_add (n : Nat) (f g : Nat → B) : sm n (fun i => f i + g i) = sm n f + sm n g := by
  induction n with
  | zero => show (0 : B) = 0 + 0; grind
  | succ n ih => show sm n _ + _ = (sm n f + f n) + (sm n g + g n); rw [ih]; grind
theorem sm_mul (n : Nat) (c : B) (f : Nat → B) : sm n (fun i => c * f i) = c * sm n f := by
  induction n with
  | zero => show (0 : B) = c * 0; grind
  | succ n ih => show sm n _ + _ = c * (sm n f + f n); rw [ih]; grind
theorem sm_swap (n m : Nat) (f : Nat → Nat → B) : sm n (fun i => sm m (fun j => f i j)) = sm m (fun j => sm n (fun i => f i j)) := by
  induction n with
  | zero => show (0 : B) = _; rw [sm_zero]; intro i _; rfl
  | succ n ih =>
    show sm n _ + sm m _ = _
    rw [ih, ← sm_add]
    rfl

/-- The polynomial that is 1 at the point number k, 0 at the others: its value. -/
def lag (xs : List B) (k : Nat) (x : B) : B := pr (xs.eraseIdx k) x * (pr (xs.eraseIdx k) (xs.getD k 0)).inv
def lagC (xs : List B) (k : Nat) : List B := scP (pr (xs.eraseIdx k) (xs.getD k 0)).inv (prC (xs.eraseIdx k))
theorem lagC_ev (xs : List B) (k : Nat) (x : B) : ev (lagC xs k) x = lag xs k x := by
  unfold lagC lag
  rw [scP_ev, prC_ev]; grind
theorem lagC_len {xs : List B} {k : Nat} (hk : k < xs.length) : (lagC xs k).length = xs.length := by
  unfold lagC
  rw [scP_len, prC_len, List.length_eraseIdx]; simp [hk]; omega

theorem nodup_inj {xs : List B} (hn : xs.Nodup) {i j : Nat} (hi : i < xs.length) (hj : j < xs.length) (h : xs[i] = xs[j]) : i = j := by
  have hp := List.pairwise_iff_getElem.1 hn
  rcases Nat.lt_trichotomy i j with q | q | q
  · exact absurd h (hp i j hi hj q)
  · exact q
  · exact absurd h.symm (hp j i hj hi q)
theorem nodup_erase {xs : List B} (hn : xs.Nodup) {k : Nat} (hk : k < xs.length) : xs.getD k 0 ∉ xs.eraseIdx k := by
  intro h
  rw [List.mem_eraseIdx_iff_getElem?] at h
  obtain ⟨i, hi, he⟩ := h
  rw [List.getD_eq_getElem?_getD, List.getElem?_eq_getElem hk] at he
  obtain ⟨h1, h2⟩ := List.getElem?_eq_some_iff.1 he
  exact hi (nodup_inj hn h1 hk (by simpa using h2))
theorem lag_self {xs : List B} (hn : xs.Nodup) {k : Nat} (hk : k < xs.length) : lag xs k (xs.getD k 0) = 1 := by
  unfold lag
  exact B.mul_inv (pr_ne (nodup_erase hn hk))
theorem lag_other {xs : List B} {k j : Nat} (hj : j < xs.length) (h : j ≠ k) : lag xs k (xs.getD j 0) = 0 := by
  unfold lag
  rw [pr_zero]
  · grind
  · rw [List.mem_eraseIdx_iff_getElem?]
    refine ⟨j, h, ?_⟩
    rw [List.getD_eq_getElem?_getD, List.getElem?_eq_getElem hj]; rfl

/-- The sum of the polynomials, as coefficients. -/
def smP (n : Nat) (f : Nat → List B) : List B := match n with
  | 0 => []
  | n + 1 => addP (smP n f) (f n)
theorem smP_ev (n : Nat) (f : Nat → List B) (x : B) : ev (smP n f) x = sm n (fun i => ev (f i) x) := by
  induction n with
  | zero => rfl
  | succ n ih => show ev (addP (smP n f) (f n)) x = sm n _ + _; rw [addP_ev, ih]
theorem smP_len (n m : Nat) (f : Nat → List B) (h : ∀ i, i < n → (f i).length ≤ m) : (smP n f).length ≤ m := by
  induction n with
  | zero => simp [smP]
  | succ n ih => exact addP_len _ _ _ (ih (fun i hi => h i (by omega))) (h n (by omega))

/-- A polynomial of no more coefficients than points is told by its values at these. -/
theorem exactly {xs p : List B} (hn : xs.Nodup) (hl : p.length ≤ xs.length) (x : B) : sm xs.length (fun k => lag xs k x * ev p (xs.getD k 0)) = ev p x := by
  have h := roots xs (addP (smP xs.length (fun k => scP (ev p (xs.getD k 0)) (lagC xs k))) p) hn
    (addP_len _ _ _ (smP_len _ _ _ (fun i hi => by rw [scP_len, lagC_len hi]; exact Nat.le_refl _)) hl) (fun y hy => by
      obtain ⟨j, hj, rfl⟩ := List.mem_iff_getElem.1 hy
      have ej : xs.getD j 0 = xs[j] := by rw [List.getD_eq_getElem?_getD, List.getElem?_eq_getElem hj]; rfl
      rw [← ej, addP_ev, smP_ev, sm_one hj (fun i hi hne => by rw [scP_ev, lagC_ev, lag_other hj (fun e => hne e.symm)]; grind), scP_ev, lagC_ev, lag_self hn hj]
      grind) x
  rw [addP_ev, smP_ev] at h
  have e := B.add_eq_zero h
  rw [← e]
  exact sm_congr (fun i _ => by rw [scP_ev, lagC_ev]; grind)
end -- CodeG

section -- CodeH
/-- What holds of a matrix of k rows, k + k columns, when its first c columns are done: by A. -/
structure Done (k c : Nat) (A M : Nat → Nat → B) : Prop where
  unit : ∀ r j, r < k → j < c → M r j = if r = j then 1 else 0
  rel : ∀ r j, r < k → j < k → M r j = sm k (fun s => M r (k + s) * A s j)
  ker : ∀ v : Nat → B, (∀ r, r < k → sm k (fun j => M r j * v j) = 0) → ∀ j, j < k → v j = 0

/-- Two rows, one for another. -/
def swapM (M : Nat → Nat → B) (c p : Nat) : Nat → Nat → B := fun r => if r = c then M p else if r = p then M c else M r
/-- A row, times a byte. -/
def scaleM (M : Nat → Nat → B) (c : Nat) (by' : B) : Nat → Nat → B := fun r j => if r = c then M r j * by' else M r j
/-- To each other row the row number c, by what stands in its column number c. -/
def clearM (M : Nat → Nat → B) (c : Nat) : Nat → Nat → B := fun r j => if r = c then M r j else M r j + M c j * M r c

theorem Done.start {k : Nat} {A : Nat → Nat → B} (h : ∀ v : Nat → B, (∀ r, r < k → sm k (fun j => A r j * v j) = 0) → ∀ j, j < k → v j = 0)
    {M : Nat → Nat → B} (h1 : ∀ r j, r < k → j < k → M r j = A r j) (h2 : ∀ r s, r < k → s < k → M r (k + s) = if r = s then 1 else 0) : Done k 0 A M := by
  refine ⟨fun r j _ hj => by omega, fun r j hr hj => ?_, fun v hv => h v (fun r hr => ?_)⟩
  · rw [h1 r j hr hj, sm_one hr (fun i hi hne => by rw [h2 r i hr hi, if_neg (fun e => hne e.symm)]; grind), h2 r r hr hr, if_pos rfl]; grind
  · rw [← hv r hr]
    exact sm_congr (fun j hj => by rw [h1 r j hr hj])

theorem Done.pivot {k c : Nat} {A M : Nat → Nat → B} (h : Done k c A M) (hc : c < k) : ∃ p, c ≤ p ∧ p < k ∧ M p c ≠ 0 := by
  by_cases hx : ∃ p, c ≤ p ∧ p < k ∧ M p c ≠ 0
  · exact hx
  · exfalso
    have hz : ∀ p, c ≤ p → p < k → M p c = 0 := fun p h1 h2 => by
      by_cases e : M p c = 0
      · exact e
      · exact absurd ⟨p, h1, h2, e⟩ hx
    have := h.ker (fun j => if j < c then M j c else if j = c then 1 else 0) (fun r hr => ?_) c hc
    · rw [if_neg (by omega), if_pos rfl] at this
      exact B.one_ne this
    · by_cases hrc : r < c
      · -- two terms: r and c
        have e : sm k (fun j => M r j * (if j < c then M j c else if j = c then 1 else 0)) = sm k (fun j => (if j = r then M r c else 0) + (if j = c then M r c else 0)) := by
          refine sm_congr (fun j hj => ?_)
          by_cases h1 : j < c
          · rw [if_pos h1, h.unit r j hr h1, if_neg (show ¬ j = c by omega)]
            by_cases h2 : r = j
            · subst h2; rw [if_pos rfl, if_pos rfl]; grind
            · rw [if_neg h2, if_neg (fun e => h2 e.symm)]; grind
          · rw [if_neg h1, if_neg (show ¬ j = r by omega)]
            by_cases h2 : j = c
            · subst h2; rw [if_pos rfl, if_pos rfl]; grind
            · rw [if_neg h2, if_neg h2]; grind
        rw [e, sm_add, sm_one hr (fun i _ hne => by rw [if_neg hne]), sm_one hc (fun i _ hne => by rw [if_neg hne]), if_pos rfl, if_pos rfl]
        exact B.add_self _
      · refine sm_zero (fun j hj => ?_)
        by_cases h1 : j < c
        · rw [h.unit r j hr h1, if_neg (by omega)]; grind
        · by_cases h2 : j = c
          · subst h2; rw [hz r (by omega) hr]; grind
          · rw [if_neg h1, if_neg h2]; grind

theorem Done.swap {k c p : Nat} {A M : Nat → Nat → B} (h : Done k c A M) (hp : c ≤ p) (hpk : p < k) : Done k c A (swapM M c p) := by
  have hw : ∀ r, r < k → ∃ q, q < k ∧ swapM M c p r = M q ∧ (r < c → q = r) ∧ (c ≤ r → c ≤ q) := by
    intro r hr
    unfold swapM
    by_cases h1 : r = c
    · exact ⟨p, hpk, by rw [if_pos h1], fun _ => by omega, fun _ => hp⟩
    · by_cases h2 : r = p
      · exact ⟨c, by omega, by rw [if_neg h1, if_pos h2], fun _ => by omega, fun _ => by omega⟩
      · exact ⟨r, hr, by rw [if_neg h1, if_neg h2], fun _ => rfl, fun q => q⟩
  have hb : ∀ q, q < k → ∃ r, r < k ∧ swapM M c p r = M q := by
    intro q hq
    unfold swapM
    by_cases h1 : q = c
    · by_cases h2 : p = c
      · exact ⟨c, by omega, by rw [if_pos rfl, h2, h1]⟩
      · exact ⟨p, hpk, by rw [if_neg h2, if_pos rfl, h1]⟩
    · by_cases h2 : q = p
      · exact ⟨c, by omega, by rw [if_pos rfl, h2]⟩
      · exact ⟨q, hq, by rw [if_neg h1, if_neg h2]⟩
  refine ⟨fun r j hr hj => ?_, fun r j hr hj => ?_, fun v hv => h.ker v (fun q hq => ?_)⟩
  · obtain ⟨q, hq, e, h1, h2⟩ := hw r hr
    rw [e, h.unit q j hq hj]
    by_cases hrc : r < c
    · rw [h1 hrc]
    · rw [if_neg (by have := h2 (by omega); omega), if_neg (by omega)]
  · obtain ⟨q, hq, e, _, _⟩ := hw r hr
    rw [e, h.rel q j hq hj]
  · obtain ⟨r, hr, e⟩ := hb q hq
    rw [← e]; exact hv r hr

theorem Done.scale {k c : Nat} {A M : Nat → Nat → B} (h : Done k c A M) {b : B} (hb : b ≠ 0) : Done k c A (scaleM M c b) := by
  refine ⟨fun r j hr hj => ?_, fun r j hr hj => ?_, fun v hv => h.ker v (fun r hr => ?_)⟩
  · unfold scaleM
    by_cases e : r = c
    · rw [if_pos e, h.unit r j hr hj, if_neg (by omega)]; grind
    · rw [if_neg e, h.unit r j hr hj]
  · unfold scaleM
    by_cases e : r = c
    · simp only [if_pos e]
      rw [h.rel r j hr hj, B.mul_comm', ← sm_mul]
      exact sm_congr (fun s _ => by grind)
    · simp only [if_neg e]
      exact h.rel r j hr hj
  · have := hv r hr
    unfold scaleM at this
    by_cases e : r = c
    · simp only [if_pos e] at this
      have e2 : sm k (fun j => M r j * b * v j) = b * sm k (fun j => M r j * v j) := by
        rw [← sm_mul]
        exact sm_congr (fun s _ => by grind)
      rw [e2] at this
      by_cases ez : sm k (fun j => M r j * v j) = 0
      · exact ez
      · exact absurd this (B.mul_ne hb ez)
    · simpa only [if_neg e] using this

theorem Done.clear {k c : Nat} {A M : Nat → Nat → B} (h : Done k c A M) (hc : c < k) (h1 : M c c = 1) : Done k (c + 1) A (clearM M c) := by
  refine ⟨fun r j hr hj => ?_, fun r j hr hj => ?_, fun v hv => h.ker v (fun r hr => ?_)⟩
  · unfold clearM
    by_cases e : r = c
    · rw [if_pos e]
      by_cases ej : j = c
      · rw [e, ej, h1, if_pos rfl]
      · rw [h.unit r j hr (by omega)]
    · rw [if_neg e]
      by_cases ej : j = c
      · rw [ej, h1, if_neg e]
        have := B.add_self (M r c)
        grind
      · rw [h.unit r j hr (by omega), h.unit c j hc (by omega), if_neg (show ¬ c = j by omega)]; grind
  · unfold clearM
    by_cases e : r = c
    · simp only [if_pos e]; exact h.rel r j hr hj
    · simp only [if_neg e]
      rw [h.rel r j hr hj, h.rel c j hc hj, B.mul_comm' _ (M r c), ← sm_mul, ← sm_add]
      exact sm_congr (fun s _ => by grind)
  · have hcv := hv c hc
    have hrv := hv r hr
    unfold clearM at hcv hrv
    simp only [if_true] at hcv
    by_cases e : r = c
    · subst e; exact hcv
    · simp only [if_neg e] at hrv
      have e2 : sm k (fun j => (M r j + M c j * M r c) * v j) = sm k (fun j => M r j * v j) + M r c * sm k (fun j => M c j * v j) := by
        rw [← sm_mul, ← sm_add]
        exact sm_congr (fun s _ => by grind)
      rw [e2, hcv] at hrv
      grind

theorem Done.all {k : Nat} {A M C : Nat → Nat → B} (h : Done k k A M) (hC : ∀ t s, t < k → s < k → sm k (fun j => A t j * C j s) = if t = s then 1 else 0) {r s : Nat} (hr : r < k) (hs : s < k) : M r (k + s) = C r s := by
  have e1 : sm k (fun t => M r (k + t) * sm k (fun j => A t j * C j s)) = M r (k + s) := by
    rw [sm_one hs (fun i hi hne => by rw [hC i s hi hs, if_neg hne]; grind), hC s s hs hs, if_pos rfl]; grind
  have e2 : sm k (fun t => M r (k + t) * sm k (fun j => A t j * C j s)) = sm k (fun j => M r j * C j s) := by
    have : ∀ t, M r (k + t) * sm k (fun j => A t j * C j s) = sm k (fun j => M r (k + t) * (A t j * C j s)) := fun t => (sm_mul _ _ _).symm
    rw [sm_congr (fun t _ => this t), sm_swap]
    refine sm_congr (fun j hj => ?_)
    rw [h.rel r j hr hj, B.mul_comm' _ (C j s), ← sm_mul]
    exact sm_congr (fun t _ => by grind)
  rw [← e1, e2, sm_one hr (fun i hi hne => by rw [h.unit r i hr hi, if_neg (fun e => hne e.symm)]; grind), h.unit r r hr hr, if_pos rfl]
  grind

/-- By two lists of as many points: the matrices of the one's polynomials at the other's points are inverse to one another. -/
theorem lag_inverse {xs ys : List B} (hx : xs.Nodup) (hl : ys.length = xs.length) {t s : Nat} (ht : t < xs.length) (hs : s < xs.length) (hy : ys.Nodup) :
    sm xs.length (fun j => lag xs j (ys.getD t 0) * lag ys s (xs.getD j 0)) = if t = s then 1 else 0 := by
  have := exactly (xs := xs) (p := lagC ys s) hx (by rw [lagC_len (by omega), hl]; exact Nat.le_refl _) (ys.getD t 0)
  rw [lagC_ev] at this
  have e : sm xs.length (fun j => lag xs j (ys.getD t 0) * lag ys s (xs.getD j 0)) = sm xs.length (fun k => lag xs k (ys.getD t 0) * ev (lagC ys s) (xs.getD k 0)) := sm_congr (fun j _ => by rw [lagC_ev])
  rw [e, this]
  by_cases q : t = s
  · subst q; rw [if_pos rfl, lag_self hy (by omega)]
  · rw [if_neg q, lag_other (by omega) q]

/-- No vector but 0 goes to 0. -/
theorem lag_ker {xs ys : List B} (hx : xs.Nodup) (hy : ys.Nodup) (hl : ys.length = xs.length) (v : Nat → B)
    (h : ∀ r, r < xs.length → sm xs.length (fun j => lag xs j (ys.getD r 0) * v j) = 0) : ∀ j, j < xs.length → v j = 0 := by
  intro i hi
  have e1 : sm xs.length (fun r => lag ys r (xs.getD i 0) * sm xs.length (fun j => lag xs j (ys.getD r 0) * v j)) = 0 := sm_zero (fun r hr => by rw [h r hr]; grind)
  have e2 : sm xs.length (fun r => lag ys r (xs.getD i 0) * sm xs.length (fun j => lag xs j (ys.getD r 0) * v j)) = v i := by
    have : ∀ r, lag ys r (xs.getD i 0) * sm xs.length (fun j => lag xs j (ys.getD r 0) * v j) = sm xs.length (fun j => lag ys r (xs.getD i 0) * (lag xs j (ys.getD r 0) * v j)) := fun r => (sm_mul _ _ _).symm
    rw [sm_congr (fun r _ => this r), sm_swap]
    have e3 : ∀ j, j < xs.length → sm xs.length (fun r => lag ys r (xs.getD i 0) * (lag xs j (ys.getD r 0) * v j)) = (if i = j then 1 else 0) * v j := by
      intro j hj
      have := lag_inverse hy hl.symm (t := i) (s := j) (by omega) (by omega) hx
      rw [hl] at this
      rw [← this, B.mul_comm' _ (v j), ← sm_mul]
      exact sm_congr (fun r _ => by grind)
    rw [sm_congr e3, sm_one hi (fun j _ hne => by rw [if_neg (fun e => hne e.symm)]; grind), if_pos rfl]
    grind
  rw [← e2, e1]
end -- CodeH

end Go.Proofs.Ytibelpamolcmcaa
