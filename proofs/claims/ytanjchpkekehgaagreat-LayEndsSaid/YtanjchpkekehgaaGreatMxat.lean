/-
  RefA: Polynomials as the reference makes them (plain): what each step does to the value.
  CodeWa: The reference's product of bytes (plain): it is the field's.
  RefB: Walks of the reference, layer 1 (field): Mul, Inv, Div.
-/
import Derived.Test.YtanjchpkekehgaaGreatMxac
import Derived.Test.YtanjchpkekehgaaGreatMxaa
import Derived.Test.YtanjchpkekehgaaGreatMxae
namespace Go.Proofs.YtanjchpkekehgaaGreat

section -- RefA
set_option linter.unusedVariables false

/-- A power. -/
def pw (x : B) : Nat → B
  | 0 => 1
  | i + 1 => pw x i * x

theorem ev_snoc : ∀ (p : List B) (a x : B), ev (p ++ [a]) x = ev p x + a * pw x p.length
  | [], a, x => by show a + x * 0 = 0 + a * 1; grind
  | b :: p, a, x => by
    show b + x * ev (p ++ [a]) x = b + x * ev p x + a * (pw x p.length * x)
    rw [ev_snoc p a x]; grind
theorem ev_take {p : List B} {i : Nat} (h : i < p.length) (x : B) : ev (p.take (i + 1)) x = ev (p.take i) x + p.getD i 0 * pw x i := by
  rw [take_snocD h, ev_snoc]
  simp only [List.length_take]
  rw [Nat.min_eq_left (by omega)]
theorem ev_zero : ∀ (n : Nat) (x : B), ev (List.replicate n 0) x = 0
  | 0, x => rfl
  | n + 1, x => by
    rw [List.replicate_succ]
    show 0 + x * ev (List.replicate n 0) x = 0
    rw [ev_zero n x]; grind
theorem ev_set : ∀ (o : List B) (j : Nat) (c x : B), j < o.length → ev (o.set j (o.getD j 0 + c)) x = ev o x + c * pw x j
  | [], j, c, x, h => absurd h (by simp)
  | a :: o, 0, c, x, h => by
    show (a + c) + x * ev o x = a + x * ev o x + c * 1
    grind
  | a :: o, j + 1, c, x, h => by
    have := ev_set o j c x (by simpa using h)
    show a + x * ev (o.set j (o.getD j 0 + c)) x = a + x * ev o x + c * (pw x j * x)
    rw [this]; grind
theorem ev_set0 {o : List B} {j : Nat} (c x : B) (h : j < o.length) (hz : o.getD j 0 = 0) : ev (o.set j c) x = ev o x + c * pw x j := by
  have := ev_set o j c x h
  rw [hz] at this
  rw [← this]
  congr 2
  grind
theorem pw_add (x : B) (i : Nat) : ∀ k, pw x (i + k) = pw x i * pw x k
  | 0 => by show pw x i = pw x i * 1; grind
  | k + 1 => by
    show pw x (i + k) * x = pw x i * (pw x k * x)
    rw [pw_add x i k]; grind
theorem getD_set_ne {o : List B} {i j : Nat} {c : B} (h : i ≠ j) : (o.set i c).getD j 0 = o.getD j 0 := by
  rw [List.getD_eq_getElem?_getD, List.getD_eq_getElem?_getD, List.getElem?_set_ne h]
/-- A coefficient of nothing goes. -/
theorem ev_drop {p : List B} {i : Nat} (h : i < p.length) (hz : p.getD i 0 = 0) (x : B) : ev (p.take (i + 1)) x = ev (p.take i) x := by
  rw [ev_take h, hz]; grind
theorem ev_two (a x : B) : ev [a, 1] x = x + a := by
  show a + x * (1 + x * 0) = x + a
  grind
theorem ev_one (a x : B) : ev [a] x = a := by
  show a + x * 0 = a
  grind
end -- RefA

section -- CodeWa
set_option maxRecDepth 100000

def rmS (p c j : Nat) : Nat := if p.testBit j then p ^^^ c else p
/-- The first i terms. -/
def rmA (a b : Nat) : Nat → Nat
  | 0 => 0
  | i + 1 => if b.testBit i then rmA a b i ^^^ (a <<< i) else rmA a b i
/-- What is left, behind t steps. -/
def rmB (p : Nat) : Nat → Nat
  | 0 => p
  | t + 1 => rmS (rmB p t) (285 <<< (7 - t)) (15 - t)

theorem rmS_lin (p q c j : Nat) : rmS (p ^^^ q) c j = rmS p c j ^^^ rmS q c j := by
  unfold rmS
  rw [Nat.testBit_xor]
  cases p.testBit j <;> cases q.testBit j
  · simp
  · simp [Nat.xor_assoc]
  · simp only [Bool.xor_false, if_true]
    rw [Nat.xor_assoc, Nat.xor_comm q c, ← Nat.xor_assoc]
    simp
  · simp only [Bool.xor_self, if_true]
    rw [show p ^^^ c ^^^ (q ^^^ c) = p ^^^ q ^^^ (c ^^^ c) by
      rw [Nat.xor_assoc, Nat.xor_assoc, ← Nat.xor_assoc c q c, Nat.xor_comm c q, Nat.xor_assoc q c c], Nat.xor_self]
    simp
theorem rmB_lin (p q t : Nat) : rmB (p ^^^ q) t = rmB p t ^^^ rmB q t := by
  induction t with
  | zero => rfl
  | succ t ih => simp only [rmB, ih, rmS_lin]
theorem rmB_one : ((List.range 256).all fun a => (List.range 8).all fun i => rmB (a <<< i) 8 == mulN a (2 ^ i)) = true := by decide +kernel

theorem bits_all : ((List.range 256).all fun b => (List.range 8).all fun i => (b % 2 ^ (i + 1)) == (if b.testBit i then (b % 2 ^ i) ^^^ 2 ^ i else b % 2 ^ i)) = true := by decide +kernel
theorem mulN_xor {a x y : Nat} (ha : a < 256) (hx : x < 256) (hy : y < 256) : mulN a (x ^^^ y) = mulN a x ^^^ mulN a y := by
  have h : (⟨a, ha⟩ : B) * (⟨x, hx⟩ + ⟨y, hy⟩) = ⟨a, ha⟩ * ⟨x, hx⟩ + ⟨a, ha⟩ * ⟨y, hy⟩ := by grind
  exact congrArg B.v h
theorem rm_part {a b : Nat} (ha : a < 256) (hb : b < 256) {i : Nat} (hi : i ≤ 8) : rmB (rmA a b i) 8 = mulN a (b % 2 ^ i) := by
  induction i with
  | zero => 
    show rmB 0 8 = mulN a (b % 1)
    rw [Nat.mod_one]
    have h : rmB 0 8 = 0 := by decide
    rw [h]
    unfold mulN
    rw [if_pos (.inr rfl)]
  | succ i ih =>
    have hb2 := beq_iff_eq.1 (List.all_eq_true.1 (List.all_eq_true.1 bits_all b (List.mem_range.2 hb)) i (List.mem_range.2 (by omega)))
    have h1 := beq_iff_eq.1 (List.all_eq_true.1 (List.all_eq_true.1 rmB_one a (List.mem_range.2 ha)) i (List.mem_range.2 (by omega)))
    have hp : 2 ^ i < 256 := Nat.lt_of_lt_of_le (Nat.pow_lt_pow_right (by omega) (show i < 8 by omega)) (by decide)
    have hm : b % 2 ^ i < 256 := Nat.lt_of_le_of_lt (Nat.mod_le _ _) hb
    rw [hb2]
    simp only [rmA]
    by_cases q : b.testBit i = true
    · rw [if_pos q, if_pos q, rmB_lin, ih (by omega), h1, mulN_xor ha hm hp]
    · rw [if_neg q, if_neg q, ih (by omega)]
theorem rm_mul {a b : Nat} (ha : a < 256) (hb : b < 256) : rmB (rmA a b 8) 8 = mulN a b := by
  rw [rm_part ha hb (Nat.le_refl _), Nat.mod_eq_of_lt hb]
end -- CodeWa

section -- RefB
open Go.RowKit Go.Maps
set_option linter.unusedVariables false
set_option maxRecDepth 100000
set_option maxHeartbeats 2000000

theorem rmA_lt {a b : Nat} (ha : a < 256) : ∀ i, i ≤ 8 → rmA a b i < 2 ^ 16
  | 0, _ => by simp [rmA]
  | i + 1, h => by
    have ih := rmA_lt (b := b) ha i (by omega)
    simp only [rmA]
    split
    · refine Nat.xor_lt_two_pow ih ?_
      rw [Nat.shiftLeft_eq]
      have : 2 ^ i ≤ 2 ^ 7 := Nat.pow_le_pow_right (by omega) (by omega)
      have := Nat.mul_le_mul (show a ≤ 255 by omega) this
      omega
    · exact ih
theorem rmB_lt {p : Nat} (hp : p < 2 ^ 16) : ∀ t, t ≤ 8 → rmB p t < 2 ^ 16
  | 0, _ => hp
  | t + 1, h => by
    have ih := rmB_lt hp t (by omega)
    simp only [rmB, rmS]
    split
    · refine Nat.xor_lt_two_pow ih ?_
      rw [Nat.shiftLeft_eq]
      have : 2 ^ (7 - t) ≤ 2 ^ 7 := Nat.pow_le_pow_right (by omega) (by omega)
      have := Nat.mul_le_mul (show 285 ≤ 285 by omega) this
      omega
    · exact ih

theorem i64_and_nat' (a b : Nat) (ha : a < 4611686018427387904) (hb : b < 4611686018427387904) : bits .and .i64 (a : Int) (b : Int) = ((a &&& b : Nat) : Int) := by
  have hx : a &&& b < 2 ^ 62 := Nat.and_lt_two_pow _ (by omega)
  show IntKind.i64.wrap ((BitVec.ofInt 64 (a : Int) &&& BitVec.ofInt 64 (b : Int)).toNat : Int) = _
  rw [BitVec.toNat_and, ofInt_u64 a (by omega), ofInt_u64 b (by omega)]
  exact IntWalk.i64_in ((a &&& b : Nat) : Int) (by omega)

theorem bit_u8 (b k : Nat) (hb : b < 256) : bits .and .u8 ((b : Int) / 2 ^ k) 1 = if b.testBit k then 1 else 0 := by
  have e : (b : Int) / 2 ^ k = ((b / 2 ^ k : Nat) : Int) := by simp
  have h1 : b / 2 ^ k ≤ b := Nat.div_le_self _ _
  have h := u8_and_nat (b / 2 ^ k) 1 (by omega) (by omega)
  rw [e, show (1 : Int) = ((1 : Nat) : Int) from rfl, h, Nat.and_one_is_mod, Nat.testBit_eq_decide_div_mod_eq]
  have : b / 2 ^ k % 2 = 0 ∨ b / 2 ^ k % 2 = 1 := by omega
  rcases this with q | q <;> simp [q]
theorem bit_i64 (b k : Nat) (hb : b < 65536) : bits .and .i64 ((b : Int) / 2 ^ k) 1 = if b.testBit k then 1 else 0 := by
  have e : (b : Int) / 2 ^ k = ((b / 2 ^ k : Nat) : Int) := by simp
  have h1 : b / 2 ^ k ≤ b := Nat.div_le_self _ _
  have h := i64_and_nat' (b / 2 ^ k) 1 (by omega) (by omega)
  rw [e, show (1 : Int) = ((1 : Nat) : Int) from rfl, h, Nat.and_one_is_mod, Nat.testBit_eq_decide_div_mod_eq]
  have : b / 2 ^ k % 2 = 0 ∨ b / 2 ^ k % 2 = 1 := by omega
  rcases this with q | q <;> simp [q]
theorem shl_i64 (a k : Nat) (ha : a < 512) (hk : k < 8) : wrap64 ((a : Int) * 2 ^ k) = ((a <<< k : Nat) : Int) := by
  have e : (a : Int) * 2 ^ k = ((a * 2 ^ k : Nat) : Int) := by simp
  have h1 : 2 ^ k ≤ 2 ^ 7 := Nat.pow_le_pow_right (by omega) (by omega)
  have h2 := Nat.mul_le_mul (show a ≤ 511 by omega) h1
  rw [e, Nat.shiftLeft_eq]
  unfold wrap64
  omega

theorem rmul_any (w : World) (x y : B) :
    Calls Tryz.prog 117 #[bv x, bv y] w fun e w' => e = .returned (bv (x * y)) ∧ w = w' := by
  have HX := Lib.hid (show rmB (rmA x.v y.v 8) 8 = (x * y).v by rw [rm_mul x.lt y.lt, B.mul_v])
  have hx := x.lt
  have hy := y.lt
  have HL := Lib.hid (fun i (hi : i ≤ 8) => rmA_lt (b := y.v) hx i hi)
  have hz := (x * y).lt
  unfold bv
  generalize (x * y).v = z at *
  generalize x.v = a at *
  generalize y.v = b at *
  go_enter Tryz.func117, Tryz.ntmps117
  go_wp2
  go_loop [5, 6] (fun p i => ∃ k : Nat, k ≤ 8 ∧ i = .int .i64 (k : Int) ∧ p = .int .i64 ((rmA a b k : Nat) : Int)) (fun _ i => 8 - (intOf i).toNat)
  case atStart => exact ⟨0, Nat.zero_le _, rfl, rfl⟩
  case round =>
    obtain ⟨k, hk, rfl, rfl⟩ := hrel
    by_cases hlt : k < 8
    · have hb := bit_u8 b k hy
      have hs := shl_i64 a k (by omega) hlt
      have hxr := i64_xor_nat (rmA a b k) (a <<< k) (by have := HL.out k hk; omega) (by
        have h1 : 2 ^ k ≤ 2 ^ 7 := Nat.pow_le_pow_right (by omega) (by omega)
        have h2 := Nat.mul_le_mul (show a ≤ 255 by omega) h1
        rw [Nat.shiftLeft_eq]; omega)
      have HXR := Lib.hid (show bits .xor .i64 ((rmA a b k : Nat) : Int) (wrap64 ((a : Int) * 2 ^ k)) = ((rmA a b k ^^^ (a <<< k) : Nat) : Int) by rw [hs]; exact hxr)
      clear hs hxr
      have HS := Lib.hid (show rmA a b (k + 1) = if b.testBit k then rmA a b k ^^^ (a <<< k) else rmA a b k from rfl)
      by_cases q : b.testBit k = true
      · rw [if_pos q] at hb
        have hs1 := HS.out
        rw [if_pos q] at hs1
        have HS1 := Lib.hid hs1
        clear hs1 q
        go_wp2
        go_round
        case rel =>
          exact ⟨k + 1, by omega, by go_num, by rw [HS1.out, HXR.out]⟩
        case measure => simp [intOf]; omega
      · rw [if_neg q] at hb
        have hs1 := HS.out
        rw [if_neg q] at hs1
        have HS1 := Lib.hid hs1
        clear hs1 q
        go_wp2
        go_round
        case rel =>
          exact ⟨k + 1, by omega, by go_num, by rw [HS1.out]⟩
        case measure => simp [intOf]; omega
    · obtain rfl : k = 8 := by omega
      have hP := HL.out 8 (Nat.le_refl _)
      generalize rmA a b 8 = P at *
      have HB := Lib.hid (fun t ht => rmB_lt hP t ht)
      go_wp2
      go_loop [5, 7] (fun p i => ∃ j : Nat, 7 ≤ j ∧ j ≤ 15 ∧ i = .int .i64 (j : Int) ∧ p = .int .i64 ((rmB P (15 - j) : Nat) : Int)) (fun _ i => (intOf i).toNat)
      case atStart => exact ⟨15, by omega, by omega, rfl, rfl⟩
      case round =>
        obtain ⟨j, hj1, hj2, rfl, rfl⟩ := hrel
        by_cases hlt : 8 ≤ j
        · have hlt2 := HB.out (15 - j) (by omega)
          have hS : rmB P (15 - (j - 1)) = rmS (rmB P (15 - j)) (285 <<< (7 - (15 - j))) (15 - (15 - j)) := by
            rw [show 15 - (j - 1) = (15 - j) + 1 by omega]; rfl
          rw [show 15 - (15 - j) = j by omega, show 7 - (15 - j) = j - 8 by omega] at hS
          unfold rmS at hS
          generalize rmB P (15 - j) = r at *
          have hb := bit_i64 r j hlt2
          have hs := shl_i64 285 (j - 8) (by omega) (by omega)
          have hxr := i64_xor_nat r (285 <<< (j - 8)) (by omega) (by
            have h1 : 2 ^ (j - 8) ≤ 2 ^ 7 := Nat.pow_le_pow_right (by omega) (by omega)
            have h2 := Nat.mul_le_mul (show 285 ≤ 285 by omega) h1
            rw [Nat.shiftLeft_eq]; omega)
          have HXR := Lib.hid (show bits .xor .i64 (r : Int) (wrap64 (285 * 2 ^ (j - 8))) = ((r ^^^ 285 <<< (j - 8) : Nat) : Int) by rw [show wrap64 (285 * 2 ^ (j - 8)) = _ from hs]; exact hxr)
          have HS := Lib.hid hS
          clear hS hs hxr
          by_cases q : r.testBit j = true
          · rw [if_pos q] at hb
            have hs1 := HS.out
            rw [if_pos q] at hs1
            have HS1 := Lib.hid hs1
            clear hs1 q
            go_wp2
            go_round
            case rel =>
              exact ⟨j - 1, by omega, by omega, by go_num, by rw [HS1.out, HXR.out]⟩
            case measure => simp [intOf]; omega
          · rw [if_neg q] at hb
            have hs1 := HS.out
            rw [if_neg q] at hs1
            have HS1 := Lib.hid hs1
            clear hs1 q
            go_wp2
            go_round
            case rel =>
              exact ⟨j - 1, by omega, by omega, by go_num, by rw [HS1.out]⟩
            case measure => simp [intOf]; omega
        · obtain rfl : j = 7 := by omega
          have HE := Lib.hid (show rmB P (15 - 7) = z from HX.out)
          rw [HE.out]
          go_wp2
          go_ret
          exact ⟨rfl, rfl⟩

theorem rinv_any (w : World) (x : B) (hx0 : x ≠ 0) :
    Calls Tryz.prog 129 #[bv x] w fun e w' => e = .returned (.tuple #[bv x.inv, .int .i64 0]) ∧ w = w' := by
  have h1 : x * x.inv = 1 := B.mul_inv hx0
  have h2 : x.inv ≠ 0 := fun e => by
    rw [e] at h1
    exact B.one_ne (by grind)
  have h3 : x.inv.v ≠ 0 := fun e => h2 (B.ext e)
  have HU := Lib.hid (fun (k : Nat) (hk : k < 256) (hne : k ≠ x.inv.v) => (show (x * (⟨k, hk⟩ : B)).v ≠ 1 from fun e => hne (by
    have e1 : x * (⟨k, hk⟩ : B) = 1 := B.ext e
    have e2 : (⟨k, hk⟩ : B) = x.inv := by grind
    rw [← e2])))
  have HI := Lib.hid (show (x * (⟨x.inv.v, x.inv.lt⟩ : B)).v = 1 from congrArg B.v h1)
  have hl := x.inv.lt
  obtain ⟨m, hm⟩ : ∃ m, x.inv.v = m := ⟨_, rfl⟩
  unfold bv
  simp only [hm] at *
  clear h1 h2 hm
  go_enter Tryz.func129, Tryz.ntmps129
  go_wp2
  go_loop [4] (fun i => ∃ k : Nat, 1 ≤ k ∧ k ≤ m ∧ i = .int .i64 (k : Int)) (fun i => 256 - (intOf i).toNat)
  case atStart => exact ⟨1, by omega, by omega, rfl⟩
  case round =>
    obtain ⟨k, hk1, hk2, rfl⟩ := hrel
    by_cases e : k = m
    · subst e
      have hi := HI.out
      go_wp2_with fail
      refine (rmul_any w x ⟨k, hl⟩).mono ?_
      rintro e w' ⟨rfl, rfl⟩
      unfold bv
      rw [hi]
      go_wp2
      go_ret2
      exact ⟨rfl, rfl⟩
    · have hne := HU.out k (by omega) e
      have hk3 : k < 256 := by omega
      have hne2 : (((x * (⟨k, hk3⟩ : B)).v : Int) == 1) = false := by simp; omega
      go_wp2_with fail
      refine (rmul_any w x ⟨k, hk3⟩).mono ?_
      rintro e w' ⟨rfl, rfl⟩
      unfold bv
      generalize (x * (⟨k, hk3⟩ : B)).v = r at *
      go_wp2
      go_round
      case rel => exact ⟨k + 1, by omega, by omega, by go_num⟩
      case measure => simp [intOf]; omega

theorem rdiv_any (w : World) (x y : B) (hy0 : y ≠ 0) :
    Calls Tryz.prog 114 #[bv x, bv y] w fun e w' => e = .returned (.tuple #[bv (x * y.inv), .int .i64 0]) ∧ w = w' := by
  have HY := Lib.hid hy0
  clear hy0
  go_enter Tryz.func114, Tryz.ntmps114
  go_wp2_with fail
  refine (rinv_any w y HY.out).mono ?_
  rintro e w' ⟨rfl, rfl⟩
  go_wp2_with fail
  refine (rmul_any w x y.inv).mono ?_
  rintro e w' ⟨rfl, rfl⟩
  go_wp2
  go_ret2
  exact ⟨rfl, rfl⟩
end -- RefB

end Go.Proofs.YtanjchpkekehgaaGreat
