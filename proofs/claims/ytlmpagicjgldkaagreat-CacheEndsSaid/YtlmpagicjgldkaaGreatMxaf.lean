/-
  CodeWa: The reference's product of bytes (plain): it is the field's.
  RefB: Walks of the reference, layer 1 (field): Mul, Inv, Div.
  CodeM: Slices of bytes, rows of bytes: what they read as; rows that are written.
-/
import Derived.Test.YtlmpagicjgldkaaGreatMxab
import Derived.Test.YtlmpagicjgldkaaGreatMxad
import Derived.Test.YtlmpagicjgldkaaGreatCodeK
import Derived.Laws.MakeOwn
import Derived.Laws.AppendOwn
namespace Go.Proofs.YtlmpagicjgldkaaGreat

section -- CodeWa
set_option maxRecDepth 100000

def rmS (p c j : Nat) : Nat := if p.testBit j then p ^^^ c else p
/-- The first i terms. -/
def rmA (a b : Nat) : Nat → Nat
  | 0 => 0
  | i + 1 => if b.testBit i then rmA a b i ^^^ (a <<< i) else rmA a b i
/-- What is left, behind t steps. -/
def rmB (p : Nat) : Nat → Nat
  | 0 => p
  | t + 1 => rmS (rmB p t) (285 <<< (7 - t)) (15 - t)

theorem rmS_lin (p q c j : Nat) : rmS (p ^^^ q) c j = rmS p c j ^^^ rmS q c j := by
  unfold rmS
  rw [Nat.testBit_xor]
  cases p.testBit j <;> cases q.testBit j
  · simp
  · simp [Nat.xor_assoc]
  · simp only [Bool.xor_false, if_true]
    rw [Nat.xor_assoc, Nat.xor_comm q c, ← Nat.xor_assoc]
    simp
  · simp only [Bool.xor_self, if_true]
    rw [show p ^^^ c ^^^ (q ^^^ c) = p ^^^ q ^^^ (c ^^^ c) by
      rw [Nat.xor_assoc, Nat.xor_assoc, ← Nat.xor_assoc c q c, Nat.xor_comm c q, Nat.xor_assoc q c c], Nat.xor_self]
    simp
theorem rmB_lin (p q t : Nat) : rmB (p ^^^ q) t = rmB p t ^^^ rmB q t := by
  induction t with
  | zero => rfl
  | succ t ih => simp only [rmB, ih, rmS_lin]
theorem rmB_one : ((List.range 256).all fun a => (List.range 8).all fun i => rmB (a <<< i) 8 == mulN a (2 ^ i)) = true := by decide +kernel

theorem bits_all : ((List.range 256).all fun b => (List.range 8).all fun i => (b % 2 ^ (i + 1)) == (if b.testBit i then (b % 2 ^ i) ^^^ 2 ^ i else b % 2 ^ i)) = true := by decide +kernel
theorem mulN_xor {a x y : Nat} (ha : a < 256) (hx : x < 256) (hy : y < 256) : mulN a (x ^^^ y) = mulN a x ^^^ mulN a y := by
  have h : (⟨a, ha⟩ : B) * (⟨x, hx⟩ + ⟨y, hy⟩) = ⟨a, ha⟩ * ⟨x, hx⟩ + ⟨a, ha⟩ * ⟨y, hy⟩ := by grind
  exact congrArg B.v h
theorem rm_part {a b : Nat} (ha : a < 256) (hb : b < 256) {i : Nat} (hi : i ≤ 8) : rmB (rmA a b i) 8 = mulN a (b % 2 ^ i) := by
  induction i with
  | zero => 
    show rmB 0 8 = mulN a (b % 1)
    rw [Nat.mod_one]
    have h : rmB 0 8 = 0 := by decide
    rw [h]
    unfold mulN
    rw [if_pos (.inr rfl)]
  | succ i ih =>
    have hb2 := beq_iff_eq.1 (List.all_eq_true.1 (List.all_eq_true.1 bits_all b (List.mem_range.2 hb)) i (List.mem_range.2 (by omega)))
    have h1 := beq_iff_eq.1 (List.all_eq_true.1 (List.all_eq_true.1 rmB_one a (List.mem_range.2 ha)) i (List.mem_range.2 (by omega)))
    have hp : 2 ^ i < 256 := Nat.lt_of_lt_of_le (Nat.pow_lt_pow_right (by omega) (show i < 8 by omega)) (by decide)
    have hm : b % 2 ^ i < 256 := Nat.lt_of_le_of_lt (Nat.mod_le _ _) hb
    rw [hb2]
    simp only [rmA]
    by_cases q : b.testBit i = true
    · rw [if_pos q, if_pos q, rmB_lin, ih (by omega), h1, mulN_xor ha hm hp]
    · rw [if_neg q, if_neg q, ih (by omega)]
theorem rm_mul {a b : Nat} (ha : a < 256) (hb : b < 256) : rmB (rmA a b 8) 8 = mulN a b := by
  rw [rm_part ha hb (Nat.le_refl _), Nat.mod_eq_of_lt hb]
end -- CodeWa

section -- RefB
open Go.RowKit Go.Maps
set_option linter.unusedVariables false
set_option maxRecDepth 100000
set_option maxHeartbeats 2000000

theorem rmA_lt {a b : Nat} (ha : a < 256) : ∀ i, i ≤ 8 → rmA a b i < 2 ^ 16
  | 0, _ => by simp [rmA]
  | i + 1, h => by
    have ih := rmA_lt (b := b) ha i (by omega)
    simp only [rmA]
    split
    · refine Nat.xor_lt_two_pow ih ?_
      rw [Nat.shiftLeft_eq]
      have : 2 ^ i ≤ 2 ^ 7 := Nat.pow_le_pow_right (by omega) (by omega)
      have := Nat.mul_le_mul (show a ≤ 255 by omega) this
      omega
    · exact ih
theorem rmB_lt {p : Nat} (hp : p < 2 ^ 16) : ∀ t, t ≤ 8 → rmB p t < 2 ^ 16
  | 0, _ => hp
  | t + 1, h => by
    have ih := rmB_lt hp t (by omega)
    simp only [rmB, rmS]
    split
    · refine Nat.xor_lt_two_pow ih ?_
      rw [Nat.shiftLeft_eq]
      have : 2 ^ (7 - t) ≤ 2 ^ 7 := Nat.pow_le_pow_right (by omega) (by omega)
      have := Nat.mul_le_mul (show 285 ≤ 285 by omega) this
      omega
    · exact ih

theorem i64_and_nat' (a b : Nat) (ha : a < 4611686018427387904) (hb : b < 4611686018427387904) : bits .and .i64 (a : Int) (b : Int) = ((a &&& b : Nat) : Int) := by
  have hx : a &&& b < 2 ^ 62 := Nat.and_lt_two_pow _ (by omega)
  show IntKind.i64.wrap ((BitVec.ofInt 64 (a : Int) &&& BitVec.ofInt 64 (b : Int)).toNat : Int) = _
  rw [BitVec.toNat_and, ofInt_u64 a (by omega), ofInt_u64 b (by omega)]
  exact IntWalk.i64_in ((a &&& b : Nat) : Int) (by omega)

theorem bit_u8 (b k : Nat) (hb : b < 256) : bits .and .u8 ((b : Int) / 2 ^ k) 1 = if b.testBit k then 1 else 0 := by
  have e : (b : Int) / 2 ^ k = ((b / 2 ^ k : Nat) : Int) := by simp
  have h1 : b / 2 ^ k ≤ b := Nat.div_le_self _ _
  have h := u8_and_nat (b / 2 ^ k) 1 (by omega) (by omega)
  rw [e, show (1 : Int) = ((1 : Nat) : Int) from rfl, h, Nat.and_one_is_mod, Nat.testBit_eq_decide_div_mod_eq]
  have : b / 2 ^ k % 2 = 0 ∨ b / 2 ^ k % 2 = 1 := by omega
  rcases this with q | q <;> simp [q]
theorem bit_i64 (b k : Nat) (hb : b < 65536) : bits .and .i64 ((b : Int) / 2 ^ k) 1 = if b.testBit k then 1 else 0 := by
  have e : (b : Int) / 2 ^ k = ((b / 2 ^ k : Nat) : Int) := by simp
  have h1 : b / 2 ^ k ≤ b := Nat.div_le_self _ _
  have h := i64_and_nat' (b / 2 ^ k) 1 (by omega) (by omega)
  rw [e, show (1 : Int) = ((1 : Nat) : Int) from rfl, h, Nat.and_one_is_mod, Nat.testBit_eq_decide_div_mod_eq]
  have : b / 2 ^ k % 2 = 0 ∨ b / 2 ^ k % 2 = 1 := by omega
  rcases this with q | q <;> simp [q]
theorem shl_i64 (a k : Nat) (ha : a < 512) (hk : k < 8) : wrap64 ((a : Int) * 2 ^ k) = ((a <<< k : Nat) : Int) := by
  have e : (a : Int) * 2 ^ k = ((a * 2 ^ k : Nat) : Int) := by simp
  have h1 : 2 ^ k ≤ 2 ^ 7 := Nat.pow_le_pow_right (by omega) (by omega)
  have h2 := Nat.mul_le_mul (show a ≤ 511 by omega) h1
  rw [e, Nat.shiftLeft_eq]
  unfold wrap64
  omega

theorem rmul_any (w : World) (x y : B) :
    Calls Tryz.prog 89 #[bv x, bv y] w fun e w' => e = .returned (bv (x * y)) ∧ w = w' := by
  have HX := Lib.hid (show rmB (rmA x.v y.v 8) 8 = (x * y).v by rw [rm_mul x.lt y.lt, B.mul_v])
  have hx := x.lt
  have hy := y.lt
  have HL := Lib.hid (fun i (hi : i ≤ 8) => rmA_lt (b := y.v) hx i hi)
  have hz := (x * y).lt
  unfold bv
  generalize (x * y).v = z at *
  generalize x.v = a at *
  generalize y.v = b at *
  go_enter Tryz.func89, Tryz.ntmps89
  go_wp2
  go_loop [5, 6] (fun p i => ∃ k : Nat, k ≤ 8 ∧ i = .int .i64 (k : Int) ∧ p = .int .i64 ((rmA a b k : Nat) : Int)) (fun _ i => 8 - (intOf i).toNat)
  case atStart => exact ⟨0, Nat.zero_le _, rfl, rfl⟩
  case round =>
    obtain ⟨k, hk, rfl, rfl⟩ := hrel
    by_cases hlt : k < 8
    · have hb := bit_u8 b k hy
      have hs := shl_i64 a k (by omega) hlt
      have hxr := i64_xor_nat (rmA a b k) (a <<< k) (by have := HL.out k hk; omega) (by
        have h1 : 2 ^ k ≤ 2 ^ 7 := Nat.pow_le_pow_right (by omega) (by omega)
        have h2 := Nat.mul_le_mul (show a ≤ 255 by omega) h1
        rw [Nat.shiftLeft_eq]; omega)
      have HXR := Lib.hid (show bits .xor .i64 ((rmA a b k : Nat) : Int) (wrap64 ((a : Int) * 2 ^ k)) = ((rmA a b k ^^^ (a <<< k) : Nat) : Int) by rw [hs]; exact hxr)
      clear hs hxr
      have HS := Lib.hid (show rmA a b (k + 1) = if b.testBit k then rmA a b k ^^^ (a <<< k) else rmA a b k from rfl)
      by_cases q : b.testBit k = true
      · rw [if_pos q] at hb
        have hs1 := HS.out
        rw [if_pos q] at hs1
        have HS1 := Lib.hid hs1
        clear hs1 q
        go_wp2
        go_round
        case rel =>
          exact ⟨k + 1, by omega, by go_num, by rw [HS1.out, HXR.out]⟩
        case measure => simp [intOf]; omega
      · rw [if_neg q] at hb
        have hs1 := HS.out
        rw [if_neg q] at hs1
        have HS1 := Lib.hid hs1
        clear hs1 q
        go_wp2
        go_round
        case rel =>
          exact ⟨k + 1, by omega, by go_num, by rw [HS1.out]⟩
        case measure => simp [intOf]; omega
    · obtain rfl : k = 8 := by omega
      have hP := HL.out 8 (Nat.le_refl _)
      generalize rmA a b 8 = P at *
      have HB := Lib.hid (fun t ht => rmB_lt hP t ht)
      go_wp2
      go_loop [5, 7] (fun p i => ∃ j : Nat, 7 ≤ j ∧ j ≤ 15 ∧ i = .int .i64 (j : Int) ∧ p = .int .i64 ((rmB P (15 - j) : Nat) : Int)) (fun _ i => (intOf i).toNat)
      case atStart => exact ⟨15, by omega, by omega, rfl, rfl⟩
      case round =>
        obtain ⟨j, hj1, hj2, rfl, rfl⟩ := hrel
        by_cases hlt : 8 ≤ j
        · have hlt2 := HB.out (15 - j) (by omega)
          have hS : rmB P (15 - (j - 1)) = rmS (rmB P (15 - j)) (285 <<< (7 - (15 - j))) (15 - (15 - j)) := by
            rw [show 15 - (j - 1) = (15 - j) + 1 by omega]; rfl
          rw [show 15 - (15 - j) = j by omega, show 7 - (15 - j) = j - 8 by omega] at hS
          unfold rmS at hS
          generalize rmB P (15 - j) = r at *
          have hb := bit_i64 r j hlt2
          have hs := shl_i64 285 (j - 8) (by omega) (by omega)
          have hxr := i64_xor_nat r (285 <<< (j - 8)) (by omega) (by
            have h1 : 2 ^ (j - 8) ≤ 2 ^ 7 := Nat.pow_le_pow_right (by omega) (by omega)
            have h2 := Nat.mul_le_mul (show 285 ≤ 285 by omega) h1
            rw [Nat.shiftLeft_eq]; omega)
          have HXR := Lib.hid (show bits .xor .i64 (r : Int) (wrap64 (285 * 2 ^ (j - 8))) = ((r ^^^ 285 <<< (j - 8) : Nat) : Int) by rw [show wrap64 (285 * 2 ^ (j - 8)) = _ from hs]; exact hxr)
          have HS := Lib.hid hS
          clear hS hs hxr
          by_cases q : r.testBit j = true
          · rw [if_pos q] at hb
            have hs1 := HS.out
            rw [if_pos q] at hs1
            have HS1 := Lib.hid hs1
            clear hs1 q
            go_wp2
            go_round
            case rel =>
              exact ⟨j - 1, by omega, by omega, by go_num, by rw [HS1.out, HXR.out]⟩
            case measure => simp [intOf]; omega
          · rw [if_neg q] at hb
            have hs1 := HS.out
            rw [if_neg q] at hs1
            have HS1 := Lib.hid hs1
            clear hs1 q
            go_wp2
            go_round
            case rel =>
              exact ⟨j - 1, by omega, by omega, by go_num, by rw [HS1.out]⟩
            case measure => simp [intOf]; omega
        · obtain rfl : j = 7 := by omega
          have HE := Lib.hid (show rmB P (15 - 7) = z from HX.out)
          rw [HE.out]
          go_wp2
          go_ret
          exact ⟨rfl, rfl⟩

theorem rinv_any (w : World) (x : B) (hx0 : x ≠ 0) :
    Calls Tryz.prog 101 #[bv x] w fun e w' => e = .returned (.tuple #[bv x.inv, .int .i64 0]) ∧ w = w' := by
  have h1 : x * x.inv = 1 := B.mul_inv hx0
  have h2 : x.inv ≠ 0 := fun e => by
    rw [e] at h1
    exact B.one_ne (by grind)
  have h3 : x.inv.v ≠ 0 := fun e => h2 (B.ext e)
  have HU := Lib.hid (fun (k : Nat) (hk : k < 256) (hne : k ≠ x.inv.v) => (show (x * (⟨k, hk⟩ : B)).v ≠ 1 from fun e => hne (by
    have e1 : x * (⟨k, hk⟩ : B) = 1 := B.ext e
    have e2 : (⟨k, hk⟩ : B) = x.inv := by grind
    rw [← e2])))
  have HI := Lib.hid (show (x * (⟨x.inv.v, x.inv.lt⟩ : B)).v = 1 from congrArg B.v h1)
  have hl := x.inv.lt
  obtain ⟨m, hm⟩ : ∃ m, x.inv.v = m := ⟨_, rfl⟩
  unfold bv
  simp only [hm] at *
  clear h1 h2 hm
  go_enter Tryz.func101, Tryz.ntmps101
  go_wp2
  go_loop [4] (fun i => ∃ k : Nat, 1 ≤ k ∧ k ≤ m ∧ i = .int .i64 (k : Int)) (fun i => 256 - (intOf i).toNat)
  case atStart => exact ⟨1, by omega, by omega, rfl⟩
  case round =>
    obtain ⟨k, hk1, hk2, rfl⟩ := hrel
    by_cases e : k = m
    · subst e
      have hi := HI.out
      go_wp2_with fail
      refine (rmul_any w x ⟨k, hl⟩).mono ?_
      rintro e w' ⟨rfl, rfl⟩
      unfold bv
      rw [hi]
      go_wp2
      go_ret2
      exact ⟨rfl, rfl⟩
    · have hne := HU.out k (by omega) e
      have hk3 : k < 256 := by omega
      have hne2 : (((x * (⟨k, hk3⟩ : B)).v : Int) == 1) = false := by simp; omega
      go_wp2_with fail
      refine (rmul_any w x ⟨k, hk3⟩).mono ?_
      rintro e w' ⟨rfl, rfl⟩
      unfold bv
      generalize (x * (⟨k, hk3⟩ : B)).v = r at *
      go_wp2
      go_round
      case rel => exact ⟨k + 1, by omega, by omega, by go_num⟩
      case measure => simp [intOf]; omega

theorem rdiv_any (w : World) (x y : B) (hy0 : y ≠ 0) :
    Calls Tryz.prog 86 #[bv x, bv y] w fun e w' => e = .returned (.tuple #[bv (x * y.inv), .int .i64 0]) ∧ w = w' := by
  have HY := Lib.hid hy0
  clear hy0
  go_enter Tryz.func86, Tryz.ntmps86
  go_wp2_with fail
  refine (rinv_any w y HY.out).mono ?_
  rintro e w' ⟨rfl, rfl⟩
  go_wp2_with fail
  refine (rmul_any w x y.inv).mono ?_
  rintro e w' ⟨rfl, rfl⟩
  go_wp2
  go_ret2
  exact ⟨rfl, rfl⟩
end -- RefB

section -- CodeM
open Go.RowKit Go.Maps
set_option linter.unusedVariables false

/-- Block g begins with the bytes l. -/
def RowW (w : World) (g : Nat) (l : List B) : Prop := ∃ C : Array Value, w.heap[g]? = some (.cells C 5 (0, 0)) ∧ l.length ≤ C.size ∧ ∀ i, i < l.length → C[i]? = some (bv (l.getD i 0))

/-- A slice reads as bytes. -/
def BytesAt (w : World) (v : Value) (l : List B) : Prop := ∃ p cap, v = .slice p l.length cap ∧ (0 < l.length → ∃ g off, p = some ⟨g, off, none⟩ ∧ ∀ i, i < l.length → w.cell? ⟨g, off + i, none⟩ = some (bv (l.getD i 0)))

/-- A slice reads as rows of bytes. -/
def RowsAt (w : World) (v : Value) (ls : List (List B)) : Prop := ∃ p cap, v = .slice p ls.length cap ∧ (0 < ls.length → ∃ g off, p = some ⟨g, off, none⟩ ∧ ∀ i, i < ls.length → ∃ u, w.cell? ⟨g, off + i, none⟩ = some u ∧ BytesAt w u (ls.getD i []))

section
variable {w w' : World} {g : Nat} {l : List B} {v : Value} {ls : List (List B)}
theorem RowW.cell (h : RowW w g l) {i : Nat} (hi : i < l.length) : w.cell? ⟨g, i, none⟩ = some (bv (l.getD i 0)) := by
  obtain ⟨C, h1, h2, h3⟩ := h
  simp [World.cell?, h1, h3 i hi]
theorem RowW.fz (h : RowW w g l) (o : Nat) : w.frozen? ⟨g, o, none⟩ = false := by
  obtain ⟨C, h1, _⟩ := h
  simp [World.frozen?, h1]
theorem RowW.lt (h : RowW w g l) : g < w.heap.size := by
  obtain ⟨C, h1, _⟩ := h
  exact (Array.getElem?_eq_some_iff.1 h1).1
theorem RowW.kept {S : Nat → Prop} (h : RowW w g l) (hk : Kept S w w') (hS : ¬ S g) : RowW w' g l := by
  obtain ⟨C, h1, h2⟩ := h
  exact ⟨C, (hk.block g (Array.getElem?_eq_some_iff.1 h1).1 hS).trans h1, h2⟩
theorem RowW.set (h : RowW w g l) {i : Nat} (hi : i < l.length) (x : B) : RowW (w.setCell ⟨g, i, none⟩ (bv x)) g (l.set i x) := by
  obtain ⟨C, h1, h2, h3⟩ := h
  refine ⟨C.setIfInBounds i (bv x), ?_, by simpa using h2, fun j hj => ?_⟩
  · simp [World.setCell, Array.getElem?_modify, h1]
  · simp at hj
    rw [Array.getElem?_setIfInBounds]
    by_cases e : i = j
    · subst e
      rw [if_pos rfl, if_pos (by omega), List.getD_eq_getElem?_getD, List.getElem?_set_self hi]; rfl
    · rw [if_neg e, h3 j hj, List.getD_eq_getElem?_getD, List.getD_eq_getElem?_getD, List.getElem?_set_ne e]
theorem RowW.made (w : World) (n : Nat) : RowW (w.alloc (.cells (Array.replicate n (.int .u8 0)) 5)) w.heap.size (List.replicate n 0) := by
  refine ⟨_, heap_alloc_new w _, by simp, fun i hi => ?_⟩
  simp at hi
  rw [List.getD_eq_getElem?_getD]
  simp [hi]
  rfl
theorem RowW.toBytes (h : RowW w g l) (cap : Nat) : BytesAt w (.slice (some ⟨g, 0, none⟩) l.length cap) l :=
  ⟨_, _, rfl, fun _ => ⟨g, 0, rfl, fun i hi => by rw [Nat.zero_add]; exact h.cell hi⟩⟩
theorem map_getD_bv {l : List B} {i : Nat} (h : i < l.length) : (l.map bv)[i]? = some (bv (l.getD i 0)) := by
  rw [List.getElem?_map, List.getD_eq_getElem?_getD, List.getElem?_eq_getElem h]; rfl

/-- Block g is just the bytes l. -/
def RowF (w : World) (g : Nat) (l : List B) : Prop := w.heap[g]? = some (.cells (l.map bv).toArray 5 (0, 0))
theorem RowF.toW (h : RowF w g l) : RowW w g l := ⟨_, h, by simp, fun i hi => by
  have := map_getD_bv hi
  simpa using this⟩
theorem RowF.cell (h : RowF w g l) {i : Nat} (hi : i < l.length) : w.cell? ⟨g, i, none⟩ = some (bv (l.getD i 0)) := h.toW.cell hi
theorem RowF.fz (h : RowF w g l) (o : Nat) : w.frozen? ⟨g, o, none⟩ = false := h.toW.fz o
theorem RowF.lt (h : RowF w g l) : g < w.heap.size := h.toW.lt
theorem RowF.kept {S : Nat → Prop} (h : RowF w g l) (hk : Kept S w w') (hS : ¬ S g) : RowF w' g l := (hk.block g h.lt hS).trans h
theorem RowF.set (h : RowF w g l) {i : Nat} (hi : i < l.length) (x : B) : RowF (w.setCell ⟨g, i, none⟩ (bv x)) g (l.set i x) := by
  unfold RowF at *
  simp [World.setCell, Array.getElem?_modify, h, List.map_set]
theorem RowF.made (w : World) (n : Nat) : RowF (w.alloc (.cells (Array.replicate n (.int .u8 0)) 5)) w.heap.size (List.replicate n 0) := by
  refine (heap_alloc_new w _).trans ?_
  rw [show (List.replicate n (0 : B)).map bv = List.replicate n (.int .u8 0) from by rw [List.map_replicate]; rfl]
  simp
theorem RowF.toBytes (h : RowF w g l) (cap : Nat) : BytesAt w (.slice (some ⟨g, 0, none⟩) l.length cap) l := h.toW.toBytes cap
theorem RowF.owns (h : RowF w g l) {base : Nat} (hb : base ≤ g) (hl : l.length ≤ maxLen) : w.ownsRow base 5 1 (.slice (some ⟨g, 0, none⟩) l.length l.length) l.length (l.map bv) :=
  ⟨by simp, .inr ⟨g, l.length, _, rfl, hb, h, Nat.le_refl _, hl, by simp, by rw [Nat.mul_one, List.take_of_length_le (by simp)]⟩⟩

/-- Block g, of c bytes, begins with the bytes l. -/
def RowC (w : World) (g c : Nat) (l : List B) : Prop := ∃ C : Array Value, w.heap[g]? = some (.cells C 5 (0, 0)) ∧ C.size = c ∧ l.length ≤ c ∧ c ≤ maxLen ∧ ∀ i, i < l.length → C[i]? = some (bv (l.getD i 0))
theorem RowC.toW {c : Nat} (h : RowC w g c l) : RowW w g l := by
  obtain ⟨C, h1, h2, h3, h4, h5⟩ := h
  exact ⟨C, h1, by omega, h5⟩
theorem RowC.cell {c : Nat} (h : RowC w g c l) {i : Nat} (hi : i < l.length) : w.cell? ⟨g, i, none⟩ = some (bv (l.getD i 0)) := h.toW.cell hi
theorem RowC.fz {c : Nat} (h : RowC w g c l) (o : Nat) : w.frozen? ⟨g, o, none⟩ = false := h.toW.fz o
theorem RowC.lt {c : Nat} (h : RowC w g c l) : g < w.heap.size := h.toW.lt
theorem RowC.kept {c : Nat} {S : Nat → Prop} (h : RowC w g c l) (hk : Kept S w w') (hS : ¬ S g) : RowC w' g c l := by
  obtain ⟨C, h1, h2⟩ := h
  exact ⟨C, (hk.block g (Array.getElem?_eq_some_iff.1 h1).1 hS).trans h1, h2⟩
theorem RowC.set {c : Nat} (h : RowC w g c l) {i : Nat} (hi : i < l.length) (x : B) : RowC (w.setCell ⟨g, i, none⟩ (bv x)) g c (l.set i x) := by
  obtain ⟨C, h1, h2, h3, h4, h5⟩ := h
  refine ⟨C.setIfInBounds i (bv x), by simp [World.setCell, Array.getElem?_modify, h1], by simpa using h2, by simpa using h3, h4, fun j hj => ?_⟩
  simp at hj
  rw [Array.getElem?_setIfInBounds]
  by_cases e : i = j
  · subst e
    rw [if_pos rfl, if_pos (by omega), List.getD_eq_getElem?_getD, List.getElem?_set_self hi]; rfl
  · rw [if_neg e, h5 j hj, List.getD_eq_getElem?_getD, List.getD_eq_getElem?_getD, List.getElem?_set_ne e]
theorem RowF.toC (h : RowF w g l) (hl : l.length ≤ maxLen) : RowC w g l.length l := ⟨_, h, by simp, Nat.le_refl _, hl, fun i hi => by
  have := map_getD_bv hi
  simpa using this⟩
theorem RowC.owns {c : Nat} (h : RowC w g c l) {base : Nat} (hb : base ≤ g) : w.ownsRow base 5 1 (.slice (some ⟨g, 0, none⟩) l.length c) l.length (l.map bv) := by
  obtain ⟨C, h1, h2, h3, h4, h5⟩ := h
  refine ⟨by simp, .inr ⟨g, c, C, rfl, hb, h1, h3, h4, by omega, ?_⟩⟩
  apply List.ext_getElem?
  intro i
  by_cases e : i < l.length
  · rw [List.getElem?_take, if_pos (by omega), map_getD_bv e, Array.getElem?_toList, h5 i e]
  · rw [List.getElem?_eq_none (by simp; omega), List.getElem?_eq_none (by simp; omega)]
theorem RowC.of_owns {base g c : Nat} {l : List B} (h : w.ownsRow base 5 1 (.slice (some ⟨g, 0, none⟩) l.length c) l.length (l.map bv)) : RowC w g c l := by
  obtain ⟨h0, h1⟩ := h
  rcases h1 with ⟨q, _⟩ | ⟨g', cap, cur, e, h2, h3, h4, h5, h6, h7⟩
  · cases q
  · simp only [Value.slice.injEq, Option.some.injEq, Addr.mk.injEq] at e
    obtain ⟨⟨rfl, _⟩, _, rfl⟩ := e
    refine ⟨cur, h3, by omega, h4, h5, fun i hi => ?_⟩
    have := map_getD_bv hi
    rw [← h7, List.getElem?_take, if_pos (by omega), Array.getElem?_toList] at this
    exact this

theorem BytesAt.nil (w : World) : BytesAt w (.slice none 0 0) [] := ⟨none, 0, rfl, fun h => absurd h (by simp)⟩
theorem RowsAt.nil (w : World) : RowsAt w (.slice none 0 0) [] := ⟨none, 0, rfl, fun h => absurd h (by simp)⟩
theorem BytesAt.kept {S : Nat → Prop} (h : BytesAt w v l) (hk : Kept S w w') (hS : ∀ k, k < w.heap.size → ¬ S k) : BytesAt w' v l := by
  obtain ⟨p, cap, rfl, hh⟩ := h
  refine ⟨p, cap, rfl, fun hl => ?_⟩
  obtain ⟨g, off, rfl, hc⟩ := hh hl
  have hlt := World.block_lt_of_cell? w _ (hc 0 hl)
  exact ⟨g, off, rfl, fun i hi => (hk.cell (p := ⟨g, off + i, none⟩) hlt (hS g hlt)).trans (hc i hi)⟩
/-- .. of a slice whose block does not turn. -/
theorem BytesAt.kept1 {S : Nat → Prop} (h : BytesAt w v l) (hk : Kept S w w') (hS : ∀ k, v.ownBlock = some k → ¬ S k) : BytesAt w' v l := by
  obtain ⟨p, cap, rfl, hh⟩ := h
  refine ⟨p, cap, rfl, fun hl => ?_⟩
  obtain ⟨g, off, rfl, hc⟩ := hh hl
  have hlt := World.block_lt_of_cell? w _ (hc 0 hl)
  exact ⟨g, off, rfl, fun i hi => (hk.cell (p := ⟨g, off + i, none⟩) hlt (hS g rfl)).trans (hc i hi)⟩
theorem BytesAt.below (h : BytesAt w v l) (hb : Below w.heap.size w w') : BytesAt w' v l := h.kept (Kept.below hb) (fun _ _ h => h)
theorem RowsAt.kept {S : Nat → Prop} (h : RowsAt w v ls) (hk : Kept S w w') (hS : ∀ k, k < w.heap.size → ¬ S k) : RowsAt w' v ls := by
  obtain ⟨p, cap, rfl, hh⟩ := h
  refine ⟨p, cap, rfl, fun hl => ?_⟩
  obtain ⟨g, off, rfl, hc⟩ := hh hl
  obtain ⟨_, hc0, _⟩ := hc 0 hl
  have hlt := World.block_lt_of_cell? w _ hc0
  refine ⟨g, off, rfl, fun i hi => ?_⟩
  obtain ⟨u, hu, hb⟩ := hc i hi
  exact ⟨u, (hk.cell (p := ⟨g, off + i, none⟩) hlt (hS g hlt)).trans hu, hb.kept hk hS⟩
theorem RowsAt.below (h : RowsAt w v ls) (hb : Below w.heap.size w w') : RowsAt w' v ls := h.kept (Kept.below hb) (fun _ _ h => h)
theorem BytesAt.dr (h : BytesAt w v l) (n : Nat) : BytesAt (w.drewN n) v l := h
theorem RowsAt.dr (h : RowsAt w v ls) (n : Nat) : RowsAt (w.drewN n) v ls := h

theorem getD_snoc_lt {α : Type} {l : List α} {x d : α} {i : Nat} (h : i < l.length) : (l ++ [x]).getD i d = l.getD i d := by
  rw [List.getD_eq_getElem?_getD, List.getD_eq_getElem?_getD, List.getElem?_append_left h]
theorem getD_snoc_last {α : Type} {l : List α} {x d : α} : (l ++ [x]).getD l.length d = x := by
  rw [List.getD_eq_getElem?_getD]; simp

/-- A row of bytes that a call owns. -/
theorem BytesAt.of_owns {base : Nat} (h : w.ownsRow base 5 1 v l.length (l.map bv)) : BytesAt w v l := by
  obtain ⟨h0, h1⟩ := h
  rcases h1 with ⟨rfl, hz⟩ | ⟨g, cap, cur, rfl, h2, h3, h4, h5, h6, h7⟩
  · exact ⟨none, 0, by rw [hz], fun hl => by omega⟩
  · refine ⟨_, cap, rfl, fun _ => ⟨g, 0, rfl, fun i hi => ?_⟩⟩
    have := map_getD_bv hi
    rw [← h7, List.getElem?_take, if_pos (by omega), Array.getElem?_toList] at this
    simp [World.cell?, h3, this]
/-- Rows of bytes that a call owns, each in its place. -/
theorem RowsAt.of_owns {base : Nat} {us : List Value} (h : w.ownsRow base 43 1 v ls.length us) (hu : ∀ i u, us[i]? = some u → BytesAt w u (ls.getD i [])) : RowsAt w v ls := by
  obtain ⟨h0, h1⟩ := h
  rcases h1 with ⟨rfl, hz⟩ | ⟨g, cap, cur, rfl, h2, h3, h4, h5, h6, h7⟩
  · exact ⟨none, 0, by rw [hz], fun hl => by omega⟩
  · refine ⟨_, cap, rfl, fun _ => ⟨g, 0, rfl, fun i hi => ?_⟩⟩
    have hi' : i < us.length := by omega
    refine ⟨us[i], ?_, hu i _ (List.getElem?_eq_getElem hi')⟩
    have : us[i]? = some us[i] := List.getElem?_eq_getElem hi'
    conv at this => lhs; rw [← h7]
    rw [List.getElem?_take, if_pos (by omega), Array.getElem?_toList] at this
    simp [World.cell?, h3, this]
end

theorem infoB : (Tryz.prog.info? 5).map (fun i => (i.zero, i.size, i.bytes)) = some (some (.int .u8 0), 1, 1) := by kernel_rfl
theorem infoR : (Tryz.prog.info? 43).map (fun i => (i.zero, i.size, i.bytes)) = some (some (.slice none 0 0), 1, 24) := by kernel_rfl
end -- CodeM

end Go.Proofs.YtlmpagicjgldkaaGreat
