/-
  The reference of layer 5, walked.
-/
import Derived.Test.YtaaahbpeaamjgaaGreatCodePa
import Derived.Test.YtaaahbpeaamjgaaGreatCodeI
import Derived.Test.YtaaahbpeaamjgaaGreatCodeK
import Derived.Test.YtaaahbpeaamjgaaGreatCodeWa
import Derived.Test.YtaaahbpeaamjgaaGreatOwnA
import Derived.Test.YtaaahbpeaamjgaaGreatCodeRa
import Derived.Lib.MinMax
import Derived.Test.YtaaahbpeaamjgaaGreatCodeQb
import Derived.Test.YtaaahbpeaamjgaaGreatCodeQc
import Derived.Deep.RegionHeld3
import Derived.Test.YtaaahbpeaamjgaaGreatCodeTa
import Derived.Test.YtaaahbpeaamjgaaGreatCodeGb
namespace Go.Proofs.YtaaahbpeaamjgaaGreat

section -- RefA
set_option linter.unusedVariables false

/-- A power. -/
def pw (x : B) : Nat → B
  | 0 => 1
  | i + 1 => pw x i * x

theorem ev_snoc : ∀ (p : List B) (a x : B), ev (p ++ [a]) x = ev p x + a * pw x p.length
  | [], a, x => by show a + x * 0 = 0 + a * 1; grind
  | b :: p, a, x => by
    show b + x * ev (p ++ [a]) x = b + x * ev p x + a * (pw x p.length * x)
    rw [ev_snoc p a x]; grind
theorem ev_take {p : List B} {i : Nat} (h : i < p.length) (x : B) : ev (p.take (i + 1)) x = ev (p.take i) x + p.getD i 0 * pw x i := by
  rw [take_snocD h, ev_snoc]
  simp only [List.length_take]
  rw [Nat.min_eq_left (by omega)]
theorem ev_zero : ∀ (n : Nat) (x : B), ev (List.replicate n 0) x = 0
  | 0, x => rfl
  | n + 1, x => by
    rw [List.replicate_succ]
    show 0 + x * ev (List.replicate n 0) x = 0
    rw [ev_zero n x]; grind
theorem ev_set : ∀ (o : List B) (j : Nat) (c x : B), j < o.length → ev (o.set j (o.getD j 0 + c)) x = ev o x + c * pw x j
  | [], j, c, x, h => absurd h (by simp)
  | a :: o, 0, c, x, h => by
    show (a + c) + x * ev o x = a + x * ev o x + c * 1
    grind
  | a :: o, j + 1, c, x, h => by
    have := ev_set o j c x (by simpa using h)
    show a + x * ev (o.set j (o.getD j 0 + c)) x = a + x * ev o x + c * (pw x j * x)
    rw [this]; grind
theorem ev_set0 {o : List B} {j : Nat} (c x : B) (h : j < o.length) (hz : o.getD j 0 = 0) : ev (o.set j c) x = ev o x + c * pw x j := by
  have := ev_set o j c x h
  rw [hz] at this
  rw [← this]
  congr 2
  grind
theorem pw_add (x : B) (i : Nat) : ∀ k, pw x (i + k) = pw x i * pw x k
  | 0 => by show pw x i = pw x i * 1; grind
  | k + 1 => by
    show pw x (i + k) * x = pw x i * (pw x k * x)
    rw [pw_add x i k]; grind
theorem getD_set_ne {o : List B} {i j : Nat} {c : B} (h : i ≠ j) : (o.set i c).getD j 0 = o.getD j 0 := by
  rw [List.getD_eq_getElem?_getD, List.getD_eq_getElem?_getD, List.getElem?_set_ne h]
/-- A coefficient of nothing goes. -/
theorem ev_drop {p : List B} {i : Nat} (h : i < p.length) (hz : p.getD i 0 = 0) (x : B) : ev (p.take (i + 1)) x = ev (p.take i) x := by
  rw [ev_take h, hz]; grind
theorem ev_two (a x : B) : ev [a, 1] x = x + a := by
  show a + x * (1 + x * 0) = x + a
  grind
theorem ev_one (a x : B) : ev [a] x = a := by
  show a + x * 0 = a
  grind
end -- RefA

section -- RefB
open Go.RowKit Go.Maps
set_option linter.unusedVariables false
set_option maxRecDepth 100000
set_option maxHeartbeats 2000000

theorem rmA_lt {a b : Nat} (ha : a < 256) : ∀ i, i ≤ 8 → rmA a b i < 2 ^ 16
  | 0, _ => by simp [rmA]
  | i + 1, h => by
    have ih := rmA_lt (b := b) ha i (by omega)
    simp only [rmA]
    split
    · refine Nat.xor_lt_two_pow ih ?_
      rw [Nat.shiftLeft_eq]
      have : 2 ^ i ≤ 2 ^ 7 := Nat.pow_le_pow_right (by omega) (by omega)
      have := Nat.mul_le_mul (show a ≤ 255 by omega) this
      omega
    · exact ih
theorem rmB_lt {p : Nat} (hp : p < 2 ^ 16) : ∀ t, t ≤ 8 → rmB p t < 2 ^ 16
  | 0, _ => hp
  | t + 1, h => by
    have ih := rmB_lt hp t (by omega)
    simp only [rmB, rmS]
    split
    · refine Nat.xor_lt_two_pow ih ?_
      rw [Nat.shiftLeft_eq]
      have : 2 ^ (7 - t) ≤ 2 ^ 7 := Nat.pow_le_pow_right (by omega) (by omega)
      have := Nat.mul_le_mul (show 285 ≤ 285 by omega) this
      omega
    · exact ih

theorem i64_and_nat' (a b : Nat) (ha : a < 4611686018427387904) (hb : b < 4611686018427387904) : bits .and .i64 (a : Int) (b : Int) = ((a &&& b : Nat) : Int) := by
  have hx : a &&& b < 2 ^ 62 := Nat.and_lt_two_pow _ (by omega)
  show IntKind.i64.wrap ((BitVec.ofInt 64 (a : Int) &&& BitVec.ofInt 64 (b : Int)).toNat : Int) = _
  rw [BitVec.toNat_and, ofInt_u64 a (by omega), ofInt_u64 b (by omega)]
  exact IntWalk.i64_in ((a &&& b : Nat) : Int) (by omega)

theorem bit_u8 (b k : Nat) (hb : b < 256) : bits .and .u8 ((b : Int) / 2 ^ k) 1 = if b.testBit k then 1 else 0 := by
  have e : (b : Int) / 2 ^ k = ((b / 2 ^ k : Nat) : Int) := by simp
  have h1 : b / 2 ^ k ≤ b := Nat.div_le_self _ _
  have h := u8_and_nat (b / 2 ^ k) 1 (by omega) (by omega)
  rw [e, show (1 : Int) = ((1 : Nat) : Int) from rfl, h, Nat.and_one_is_mod, Nat.testBit_eq_decide_div_mod_eq]
  have : b / 2 ^ k % 2 = 0 ∨ b / 2 ^ k % 2 = 1 := by omega
  rcases this with q | q <;> simp [q]
theorem bit_i64 (b k : Nat) (hb : b < 65536) : bits .and .i64 ((b : Int) / 2 ^ k) 1 = if b.testBit k then 1 else 0 := by
  have e : (b : Int) / 2 ^ k = ((b / 2 ^ k : Nat) : Int) := by simp
  have h1 : b / 2 ^ k ≤ b := Nat.div_le_self _ _
  have h := i64_and_nat' (b / 2 ^ k) 1 (by omega) (by omega)
  rw [e, show (1 : Int) = ((1 : Nat) : Int) from rfl, h, Nat.and_one_is_mod, Nat.testBit_eq_decide_div_mod_eq]
  have : b / 2 ^ k % 2 = 0 ∨ b / 2 ^ k % 2 = 1 := by omega
  rcases this with q | q <;> simp [q]
theorem shl_i64 (a k : Nat) (ha : a < 512) (hk : k < 8) : wrap64 ((a : Int) * 2 ^ k) = ((a <<< k : Nat) : Int) := by
  have e : (a : Int) * 2 ^ k = ((a * 2 ^ k : Nat) : Int) := by simp
  have h1 : 2 ^ k ≤ 2 ^ 7 := Nat.pow_le_pow_right (by omega) (by omega)
  have h2 := Nat.mul_le_mul (show a ≤ 511 by omega) h1
  rw [e, Nat.shiftLeft_eq]
  unfold wrap64
  omega

theorem rmul_any (w : World) (x y : B) :
    Calls Tryz.prog 97 #[bv x, bv y] w fun e w' => e = .returned (bv (x * y)) ∧ w = w' := by
  have HX := Lib.hid (show rmB (rmA x.v y.v 8) 8 = (x * y).v by rw [rm_mul x.lt y.lt, B.mul_v])
  have hx := x.lt
  have hy := y.lt
  have HL := Lib.hid (fun i (hi : i ≤ 8) => rmA_lt (b := y.v) hx i hi)
  have hz := (x * y).lt
  unfold bv
  generalize (x * y).v = z at *
  generalize x.v = a at *
  generalize y.v = b at *
  go_enter Tryz.func97, Tryz.ntmps97
  go_wp2
  go_loop [5, 6] (fun p i => ∃ k : Nat, k ≤ 8 ∧ i = .int .i64 (k : Int) ∧ p = .int .i64 ((rmA a b k : Nat) : Int)) (fun _ i => 8 - (intOf i).toNat)
  case atStart => exact ⟨0, Nat.zero_le _, rfl, rfl⟩
  case round =>
    obtain ⟨k, hk, rfl, rfl⟩ := hrel
    by_cases hlt : k < 8
    · have hb := bit_u8 b k hy
      have hs := shl_i64 a k (by omega) hlt
      have hxr := i64_xor_nat (rmA a b k) (a <<< k) (by have := HL.out k hk; omega) (by
        have h1 : 2 ^ k ≤ 2 ^ 7 := Nat.pow_le_pow_right (by omega) (by omega)
        have h2 := Nat.mul_le_mul (show a ≤ 255 by omega) h1
        rw [Nat.shiftLeft_eq]; omega)
      have HXR := Lib.hid (show bits .xor .i64 ((rmA a b k : Nat) : Int) (wrap64 ((a : Int) * 2 ^ k)) = ((rmA a b k ^^^ (a <<< k) : Nat) : Int) by rw [hs]; exact hxr)
      clear hs hxr
      have HS := Lib.hid (show rmA a b (k + 1) = if b.testBit k then rmA a b k ^^^ (a <<< k) else rmA a b k from rfl)
      by_cases q : b.testBit k = true
      · rw [if_pos q] at hb
        have hs1 := HS.out
        rw [if_pos q] at hs1
        have HS1 := Lib.hid hs1
        clear hs1 q
        go_wp2
        go_round
        case rel =>
          exact ⟨k + 1, by omega, by go_num, by rw [HS1.out, HXR.out]⟩
        case measure => simp [intOf]; omega
      · rw [if_neg q] at hb
        have hs1 := HS.out
        rw [if_neg q] at hs1
        have HS1 := Lib.hid hs1
        clear hs1 q
        go_wp2
        go_round
        case rel =>
          exact ⟨k + 1, by omega, by go_num, by rw [HS1.out]⟩
        case measure => simp [intOf]; omega
    · obtain rfl : k = 8 := by omega
      have hP := HL.out 8 (Nat.le_refl _)
      generalize rmA a b 8 = P at *
      have HB := Lib.hid (fun t ht => rmB_lt hP t ht)
      go_wp2
      go_loop [5, 7] (fun p i => ∃ j : Nat, 7 ≤ j ∧ j ≤ 15 ∧ i = .int .i64 (j : Int) ∧ p = .int .i64 ((rmB P (15 - j) : Nat) : Int)) (fun _ i => (intOf i).toNat)
      case atStart => exact ⟨15, by omega, by omega, rfl, rfl⟩
      case round =>
        obtain ⟨j, hj1, hj2, rfl, rfl⟩ := hrel
        by_cases hlt : 8 ≤ j
        · have hlt2 := HB.out (15 - j) (by omega)
          have hS : rmB P (15 - (j - 1)) = rmS (rmB P (15 - j)) (285 <<< (7 - (15 - j))) (15 - (15 - j)) := by
            rw [show 15 - (j - 1) = (15 - j) + 1 by omega]; rfl
          rw [show 15 - (15 - j) = j by omega, show 7 - (15 - j) = j - 8 by omega] at hS
          unfold rmS at hS
          generalize rmB P (15 - j) = r at *
          have hb := bit_i64 r j hlt2
          have hs := shl_i64 285 (j - 8) (by omega) (by omega)
          have hxr := i64_xor_nat r (285 <<< (j - 8)) (by omega) (by
            have h1 : 2 ^ (j - 8) ≤ 2 ^ 7 := Nat.pow_le_pow_right (by omega) (by omega)
            have h2 := Nat.mul_le_mul (show 285 ≤ 285 by omega) h1
            rw [Nat.shiftLeft_eq]; omega)
          have HXR := Lib.hid (show bits .xor .i64 (r : Int) (wrap64 (285 * 2 ^ (j - 8))) = ((r ^^^ 285 <<< (j - 8) : Nat) : Int) by rw [show wrap64 (285 * 2 ^ (j - 8)) = _ from hs]; exact hxr)
          have HS := Lib.hid hS
          clear hS hs hxr
          by_cases q : r.testBit j = true
          · rw [if_pos q] at hb
            have hs1 := HS.out
            rw [if_pos q] at hs1
            have HS1 := Lib.hid hs1
            clear hs1 q
            go_wp2
            go_round
            case rel =>
              exact ⟨j - 1, by omega, by omega, by go_num, by rw [HS1.out, HXR.out]⟩
            case measure => simp [intOf]; omega
          · rw [if_neg q] at hb
            have hs1 := HS.out
            rw [if_neg q] at hs1
            have HS1 := Lib.hid hs1
            clear hs1 q
            go_wp2
            go_round
            case rel =>
              exact ⟨j - 1, by omega, by omega, by go_num, by rw [HS1.out]⟩
            case measure => simp [intOf]; omega
        · obtain rfl : j = 7 := by omega
          have HE := Lib.hid (show rmB P (15 - 7) = z from HX.out)
          rw [HE.out]
          go_wp2
          go_ret
          exact ⟨rfl, rfl⟩

theorem rinv_any (w : World) (x : B) (hx0 : x ≠ 0) :
    Calls Tryz.prog 111 #[bv x] w fun e w' => e = .returned (.tuple #[bv x.inv, .int .i64 0]) ∧ w = w' := by
  have h1 : x * x.inv = 1 := B.mul_inv hx0
  have h2 : x.inv ≠ 0 := fun e => by
    rw [e] at h1
    exact B.one_ne (by grind)
  have h3 : x.inv.v ≠ 0 := fun e => h2 (B.ext e)
  have HU := Lib.hid (fun (k : Nat) (hk : k < 256) (hne : k ≠ x.inv.v) => (show (x * (⟨k, hk⟩ : B)).v ≠ 1 from fun e => hne (by
    have e1 : x * (⟨k, hk⟩ : B) = 1 := B.ext e
    have e2 : (⟨k, hk⟩ : B) = x.inv := by grind
    rw [← e2])))
  have HI := Lib.hid (show (x * (⟨x.inv.v, x.inv.lt⟩ : B)).v = 1 from congrArg B.v h1)
  have hl := x.inv.lt
  obtain ⟨m, hm⟩ : ∃ m, x.inv.v = m := ⟨_, rfl⟩
  unfold bv
  simp only [hm] at *
  clear h1 h2 hm
  go_enter Tryz.func111, Tryz.ntmps111
  go_wp2
  go_loop [4] (fun i => ∃ k : Nat, 1 ≤ k ∧ k ≤ m ∧ i = .int .i64 (k : Int)) (fun i => 256 - (intOf i).toNat)
  case atStart => exact ⟨1, by omega, by omega, rfl⟩
  case round =>
    obtain ⟨k, hk1, hk2, rfl⟩ := hrel
    by_cases e : k = m
    · subst e
      have hi := HI.out
      go_wp2_with fail
      refine (rmul_any w x ⟨k, hl⟩).mono ?_
      rintro e w' ⟨rfl, rfl⟩
      unfold bv
      rw [hi]
      go_wp2
      go_ret2
      exact ⟨rfl, rfl⟩
    · have hne := HU.out k (by omega) e
      have hk3 : k < 256 := by omega
      have hne2 : (((x * (⟨k, hk3⟩ : B)).v : Int) == 1) = false := by simp; omega
      go_wp2_with fail
      refine (rmul_any w x ⟨k, hk3⟩).mono ?_
      rintro e w' ⟨rfl, rfl⟩
      unfold bv
      generalize (x * (⟨k, hk3⟩ : B)).v = r at *
      go_wp2
      go_round
      case rel => exact ⟨k + 1, by omega, by omega, by go_num⟩
      case measure => simp [intOf]; omega

theorem rdiv_any (w : World) (x y : B) (hy0 : y ≠ 0) :
    Calls Tryz.prog 94 #[bv x, bv y] w fun e w' => e = .returned (.tuple #[bv (x * y.inv), .int .i64 0]) ∧ w = w' := by
  have HY := Lib.hid hy0
  clear hy0
  go_enter Tryz.func94, Tryz.ntmps94
  go_wp2_with fail
  refine (rinv_any w y HY.out).mono ?_
  rintro e w' ⟨rfl, rfl⟩
  go_wp2_with fail
  refine (rmul_any w x y.inv).mono ?_
  rintro e w' ⟨rfl, rfl⟩
  go_wp2
  go_ret2
  exact ⟨rfl, rfl⟩
end -- RefB

section -- RefC
open Go.RowKit Go.Maps
set_option linter.unusedVariables false
set_option maxRecDepth 100000
set_option maxHeartbeats 2000000

theorem rvalue_any (w : World) (v : Value) (p : List B) (x : B) (hv : BytesAt w v p) (hl : p.length ≤ 1000000) :
    Calls Tryz.prog 70 #[v, bv x] w fun e w' => e = .returned (bv (ev p x)) ∧ w = w' := by
  obtain ⟨pa, ca, rfl, hh⟩ := hv
  have HA := Lib.hid hh
  clear hh
  have H0 := Lib.hid (show bv (ev (p.take 0) x) = .int .u8 0 ∧ bv (pw x 0) = .int .u8 1 from ⟨rfl, rfl⟩)
  go_enter Tryz.func70, Tryz.ntmps70
  go_wp2
  go_loop [5, 6, 7] (fun s q i => ∃ k : Nat, k ≤ p.length ∧ i = .int .i64 (k : Int) ∧ s = bv (ev (p.take k) x) ∧ q = bv (pw x k)) (fun _ _ i => p.length - (intOf i).toNat)
  case atStart => exact ⟨0, Nat.zero_le _, rfl, H0.out.1.symm, H0.out.2.symm⟩
  case round =>
    obtain ⟨k, hk, rfl, rfl, rfl⟩ := hrel
    by_cases hlt : k < p.length
    · obtain ⟨g, off, rfl, hc⟩ := HA.out (by omega)
      have d1 := hc k hlt
      have HE := Lib.hid (ev_take hlt x)
      have HP := Lib.hid (show pw x (k + 1) = pw x k * x from rfl)
      obtain ⟨c, hc'⟩ : ∃ c, p.getD k 0 = c := ⟨_, rfl⟩
      obtain ⟨s, hs'⟩ : ∃ s, ev (p.take k) x = s := ⟨_, rfl⟩
      obtain ⟨q, hq'⟩ : ∃ q, pw x k = q := ⟨_, rfl⟩
      rw [hc'] at d1 HE
      rw [hs'] at HE ⊢
      rw [hq'] at HE HP ⊢
      clear hc hc' hs' hq'
      go_wp2_with fail
      refine (rmul_any w c q).mono ?_
      rintro e w' ⟨rfl, rfl⟩
      have hxor := u8_xor_nat s.v (c * q).v s.lt (c * q).lt
      have HXS := Lib.hid (show (s + c * q).v = s.v ^^^ (c * q).v from rfl)
      go_wp2_with fail
      refine (rmul_any w q x).mono ?_
      rintro e w' ⟨rfl, rfl⟩
      go_wp2
      go_round
      case rel =>
        exact ⟨k + 1, by omega, by go_num, by rw [HE.out]; rfl, by rw [HP.out]⟩
      case measure => simp [intOf]; omega
    · obtain rfl : k = p.length := by omega
      rw [List.take_length]
      go_wp2
      go_ret
      exact ⟨rfl, rfl⟩

/-- Append of nothing. -/
theorem app_none {ops : Array Oper} {rest : List Oper} {o : Oper} {a : Act} {Q : Exit → Act → World → Prop} {W : World} (t e : TypeId) (size bytes : Nat) (z : Value) (ht : Tryz.prog.underlying t = some (.slice e))
    (hinfo : (Tryz.prog.info? e).map (fun i => (i.zero, i.size, i.bytes)) = some (some z, size, bytes))
    (hgd : o.guard = none) (s x : Operand) (ho : o.op = .call { callee := .builtin .append, args := #[s, x], argTypes := #[t, t] })
    (base n : Nat) (v : Value) (us : List Value) (hs : a.eval s = v) (hown : W.ownsRow base e size v n us) (p : Option Addr) (c : Nat)
    (hx : a.eval x = .slice p 0 c)
    (h : wpList Tryz.prog ops Q rest (a.put o.dst v) W) : wpList Tryz.prog ops Q (o :: rest) a W := by
  obtain ⟨i, hi, hz, hsize, hbytes⟩ := info_parts hinfo
  have hr : (Builtin.append_ #[t, t] o.type #[v, .slice p 0 c]).run Tryz.prog W = .ok v W := by
    have hld : ∀ b : Addr, (loadCells b 0).run Tryz.prog W = .ok #[] W := fun b => run_loadCells_list (P := Tryz.prog) (w := W) b [] (fun j v h => by simp at h)
    rcases hown.2 with ⟨rfl, rfl⟩ | ⟨g, cap, cur, rfl, _, _, hnc, _⟩
    · cases p <;> simp [Builtin.append_, run_underlying ht, sizeOf, typeInfo, hi, Builtin.lenOf, Builtin.firstCells, hld]
    · cases p <;> simp [Builtin.append_, run_underlying ht, sizeOf, typeInfo, hi, Builtin.lenOf, Builtin.firstCells, hnc, storeCells, hld]
  refine wpList_plain hgd fun K hK => ?_
  unfold Oper.wp execOp
  simp only [ho, resolve, invoke, builtin, Sem.run_bind, Sem.run_pure, Result.andThen_ok, List.map_toArray, List.map_cons, List.map_nil, hs, hx, hr]
  exact hK _ _ h

/-- A polynomial that is made: as long at most, of that value everywhere. -/
def PolyAt (w : World) (base n : Nat) (f : B → B) (v : Value) : Prop := ∃ l, Own w base v l ∧ l.length ≤ n ∧ ∀ x, ev l x = f x

theorem empty_own (w : World) : Own (w.alloc (.cells #[] 5)) w.heap.size (.slice (some ⟨w.heap.size, 0, none⟩) 0 0) [] := World.ownsRow_lit w #[] 0 (Nat.le_refl _) (by unfold maxLen; omega) rfl

theorem ev_full {l : List B} {n : Nat} (h : l.length = n) (x : B) : ev (l.take n) x = ev l x := by rw [← h, List.take_length]

theorem lean_any (w : World) (base n : Nat) (f : B → B) (v : Value) (hv : PolyAt w base n f v) (hn : n ≤ 1000000) :
    Calls Tryz.prog 96 #[v] w fun e w' => ∃ v', e = .returned v' ∧ PolyAt w' w.heap.size n f v' ∧ Below w.heap.size w w' := by
  obtain ⟨l, ho, hln, hf⟩ := hv
  have HF := Lib.hid hf
  have HO := Lib.hid ho
  have HB0 := Lib.hid (show Below w.heap.size w (w.alloc (.cells #[] 5)) from (Below.refl _ _).alloc (Nat.le_refl _) _)
  have HE0 := Lib.hid (empty_own w)
  clear hf
  go_enter Tryz.func96, Tryz.ntmps96
  by_cases hl0 : l.length = 0
  · obtain rfl : l = [] := List.eq_nil_of_length_eq_zero hl0
    obtain ⟨p, c, rfl⟩ := ho.shape
    clear ho
    have HFin := Lib.hid (show PolyAt (w.alloc (.cells #[] 5)) w.heap.size n f (.slice (some ⟨w.heap.size, 0, none⟩) 0 0) from ⟨[], HE0.out, by simp, HF.out⟩)
    cases p with
    | none =>
      go_wp2
      go_loop [3] (fun i => i = .int .i64 0) (fun i => 0)
      case atStart => rfl
      case round =>
        subst hrel
        go_wp2
        go_ret
        exact ⟨_, rfl, HFin.out, HB0.out⟩
    | some p =>
      go_wp2
      go_loop [3] (fun i => i = .int .i64 0) (fun i => 0)
      case atStart => rfl
      case round =>
        subst hrel
        go_wp2
        go_ret
        exact ⟨_, rfl, HFin.out, HB0.out⟩
  · obtain ⟨g, c, rfl, hbg, hr⟩ := ho.row (by omega)
    obtain ⟨n0, hn0⟩ : ∃ n0, l.length = n0 := ⟨_, rfl⟩
    have HR := Lib.hid hr
    have hcap : l.length ≤ c := by
      obtain ⟨C, h1, h2, h3, _⟩ := hr
      exact h3
    rw [hn0] at hcap hln
    have hnb : n0 ≤ 1000000 := by omega
    clear ho hr
    rw [hn0]
    have HN0 := Lib.hid hn0
    clear hn0
    go_wp2
    go_loop [3] (fun i => ∃ m : Nat, m ≤ n0 ∧ i = .int .i64 (m : Int) ∧ ∀ x, ev (l.take m) x = f x) (fun i => (intOf i).toNat)
    case atStart => exact ⟨n0, Nat.le_refl _, rfl, fun x => by rw [ev_full HN0.out]; exact HF.out x⟩
    case round =>
      obtain ⟨m, hm, rfl, hx⟩ := hrel
      have HX := Lib.hid hx
      clear hx
      by_cases hm0 : m = 0
      · subst hm0
        go_wp2
        go_ret
        exact ⟨_, rfl, ⟨[], HE0.out, by simp, HX.out⟩, HB0.out⟩
      · obtain ⟨q, rfl⟩ : ∃ q, m = q + 1 := ⟨m - 1, by omega⟩
        have d1 := HR.out.cell (i := q) (by rw [HN0.out]; omega)
        by_cases hz : l.getD q 0 = 0
        · rw [hz] at d1
          have HX2 := Lib.hid (show ∀ x, ev (l.take q) x = f x from fun x => by
            rw [← HX.out x, ← ev_drop (by rw [HN0.out]; omega) hz x])
          clear hz
          go_wp2
          go_round
          case rel => exact ⟨q, by omega, by go_num, HX2.out⟩
          case measure => simp [intOf]
        · obtain ⟨c0, hc0⟩ : ∃ c0, l.getD q 0 = c0 := ⟨_, rfl⟩
          rw [hc0] at d1 hz
          have hz1 : c0.v ≠ 0 := fun e => hz (B.ext e)
          have hz2 : ((c0.v : Int) == 0) = false := by simp; omega
          have hg : g < w.heap.size := HR.out.lt
          have HC := Lib.hid (show ∀ i, i < q + 1 → (w.alloc (.cells #[] 5)).cell? ⟨g, 0 + i, none⟩ = some (bv ((l.take (q + 1)).getD i 0)) from fun i hi => by
            rw [Nat.zero_add, ((Kept.alloc (fun _ => False) w _).at0 i hg), HR.out.cell (by rw [HN0.out]; omega), List.getD_eq_getElem?_getD, List.getD_eq_getElem?_getD, List.getElem?_take, if_pos hi])
          have HML := Lib.hid (show (l.take (q + 1)).length = q + 1 by rw [List.length_take, HN0.out]; omega)
          have hsz : (w.alloc (.cells #[] 5)).heap.size = w.heap.size + 1 := by simp
          clear hz hc0
          go_wp2_with (at_builtin; refine app_bytes 51 Tryz.underlying51 rfl _ _ rfl w.heap.size 0 (q + 1) _ [] (l.take (q + 1)) rfl HML.out rfl HE0.out g 0 _ rfl HC.out (by omega) (by omega) (by omega) ?_; intro g' c' w6 hR6 hb6 hk6 hg6)
          go_ret
          refine ⟨_, rfl, ⟨l.take (q + 1), ?_, by rw [HML.out]; omega, HX.out⟩, HB0.out.trans ⟨hk6.os, hk6.tape, hk6.output, hk6.size, fun i hi => hk6.block i (by omega) (fun e => ?_)⟩⟩
          · have := hR6.own hb6
            rw [List.nil_append, HML.out] at this
            exact this
          · have e2 : w.heap.size = i := own_is e
            omega
end -- RefC

section -- RefD
open Go.RowKit Go.Maps
set_option linter.unusedVariables false
set_option maxRecDepth 100000
set_option maxHeartbeats 2000000

theorem radd_any (w : World) (va vb : Value) (p q : List B) (n : Nat) (hp : BytesAt w va p) (hq : BytesAt w vb q) (hpn : p.length ≤ n) (hqn : q.length ≤ n) (hn : n ≤ 1000000) :
    Calls Tryz.prog 95 #[va, vb] w fun e w' => ∃ v', e = .returned v' ∧ PolyAt w' w.heap.size n (fun x => ev p x + ev q x) v' ∧ Below w.heap.size w w' := by
  obtain ⟨pa, ca, rfl, hha⟩ := hp
  obtain ⟨pb, cb, rfl, hhb⟩ := hq
  have HA := Lib.hid hha
  have HB := Lib.hid hhb
  obtain ⟨np, hnp⟩ : ∃ np, p.length = np := ⟨_, rfl⟩
  obtain ⟨nq, hnq⟩ : ∃ nq, q.length = nq := ⟨_, rfl⟩
  obtain ⟨m, hm⟩ : ∃ m, max np nq = m := ⟨_, rfl⟩
  rw [hnp] at HA hpn ⊢
  rw [hnq] at HB hqn ⊢
  have hmp : np ≤ m := by omega
  have hmq : nq ≤ m := by omega
  have hmn : m ≤ n := by omega
  have HNP := Lib.hid hnp
  have HNQ := Lib.hid hnq
  have hmx : max (np : Int) (nq : Int) = m := by omega
  clear hha hhb hnp hnq hm
  have hmk := run_make_one (w := w) 51 5 (.int .u8 0) 1 Tryz.underlying51 infoB rfl (by omega) m (by omega)
  go_enter Tryz.func95, Tryz.ntmps95
  go_wp2
  clear hmk
  have hF := RowF.made w m
  have hB := Kept.toBelow (Kept.alloc (fun _ => False) w (.cells (Array.replicate m (.int .u8 0)) 5)) (Nat.le_refl _) (fun _ h => h.elim)
  have HF := Lib.hid hF
  have HBW := Lib.hid hB
  clear hF hB
  generalize (w.alloc (.cells (Array.replicate m (.int .u8 0)) 5)) = w1 at *
  go_loopw [6] (fun i wr => ∃ (t : Nat) (o : List B), t ≤ np ∧ i = .int .i64 (t : Int) ∧ RowF wr w.heap.size o ∧ o.length = m ∧ (∀ x, ev o x = ev (p.take t) x) ∧ (∀ j, t ≤ j → o.getD j 0 = 0) ∧ Below w.heap.size w wr) (fun i _ => np - (intOf i).toNat)
  case atStart => exact ⟨0, _, Nat.zero_le _, rfl, HF.out, by simp, fun x => by rw [ev_zero]; rfl, fun j _ => by rw [List.getD_eq_getElem?_getD, List.getElem?_replicate]; split <;> rfl, HBW.out⟩
  case round =>
    obtain ⟨w0, rfl⟩ : ∃ w0, w0 = wr := ⟨_, rfl⟩
    obtain ⟨t, o, ht, rfl, hr, hol, hev, hz, hB⟩ := hrel
    have HR := Lib.hid hr
    have HOL := Lib.hid hol
    have HEV := Lib.hid hev
    have HZ := Lib.hid hz
    have HBR := Lib.hid hB
    clear hr hol hev hz
    by_cases hlt : t < np
    · obtain ⟨g, off, rfl, hc⟩ := HA.out (by omega)
      have z := hc t hlt
      have d1 := (hB.cell (p := ⟨g, off + t, none⟩) (blt z)).trans z
      have d2 := HR.out.cell (i := t) (by rw [HOL.out]; omega)
      have d3 := HR.out.fz t
      obtain ⟨c, hc'⟩ : ∃ c, p.getD t 0 = c := ⟨_, rfl⟩
      rw [hc'] at d1
      have HC' := Lib.hid hc'
      have htm : t < m := by omega
      have hne : ¬ g = w.heap.size := by have := blt z; omega
      clear hc z hB hc'
      go_wp2
      go_roundw
      case rel =>
        refine ⟨t + 1, o.set t c, by omega, by go_num, HR.out.set (by rw [HOL.out]; omega) c, by rw [List.length_set]; exact HOL.out, fun x => ?_, fun j hj => ?_, HBR.out.setCell (Nat.le_refl _) _⟩
        · rw [ev_set0 _ _ (by rw [HOL.out]; omega) (HZ.out t (Nat.le_refl _)), HEV.out, ev_take (by rw [HNP.out]; omega), HC'.out]
        · rw [getD_set_ne (by omega)]
          exact HZ.out j (by omega)
      case measure => simp [intOf]; omega
    · obtain rfl : t = np := by omega
      have HEP := Lib.hid (show ∀ x, ev o x = ev p x from fun x => by rw [HEV.out, ev_full HNP.out])
      go_wp2
      go_loopw [7] (fun i wr => ∃ (t : Nat) (o : List B), t ≤ nq ∧ i = .int .i64 (t : Int) ∧ RowF wr w.heap.size o ∧ o.length = m ∧ (∀ x, ev o x = ev p x + ev (q.take t) x) ∧ Below w.heap.size w wr) (fun i _ => nq - (intOf i).toNat)
      case atStart => exact ⟨0, o, Nat.zero_le _, rfl, HR.out, HOL.out, fun x => by rw [HEP.out]; show ev p x = ev p x + 0; grind, HBR.out⟩
      case round =>
        obtain ⟨t2, o2, ht2, rfl, hr, hol, hev, hB⟩ := hrel
        have HR2 := Lib.hid hr
        have HOL2 := Lib.hid hol
        have HEV2 := Lib.hid hev
        have HBR2 := Lib.hid hB
        clear hr hol hev
        by_cases hlt2 : t2 < nq
        · obtain ⟨g, off, rfl, hc⟩ := HB.out (by omega)
          have z := hc t2 hlt2
          have d1 := (hB.cell (p := ⟨g, off + t2, none⟩) (blt z)).trans z
          have d2 := HR2.out.cell (i := t2) (by rw [HOL2.out]; omega)
          have d3 := HR2.out.fz t2
          obtain ⟨c, hc'⟩ : ∃ c, q.getD t2 0 = c := ⟨_, rfl⟩
          obtain ⟨b, hb'⟩ : ∃ b, o2.getD t2 0 = b := ⟨_, rfl⟩
          rw [hc'] at d1
          rw [hb'] at d2
          have HC' := Lib.hid hc'
          have HSet := Lib.hid (show ∀ x, ev (o2.set t2 (b + c)) x = ev o2 x + c * pw x t2 from fun x => by rw [← hb']; exact ev_set o2 t2 c x (by rw [HOL2.out]; omega))
          have hxor := u8_xor_nat b.v c.v b.lt c.lt
          have htm : t2 < m := by omega
          clear hc z hB hc' hb'
          go_wp2_with fail
          refine wp_quiet_store 12 (by kernel_rfl) (by kernel_rfl) ?_
          simp only [List.take_succ_cons, List.take_zero, List.drop_succ_cons, List.drop_zero]
          repeat (quiet_step (fail))
          refine wpQuiet_nil ?_
          rintro w5 ⟨nq5, rfl⟩
          go_wp2
          refine calmQ.normal ?_
          go_wp2
          go_roundw
          case rel =>
            refine ⟨t2 + 1, o2.set t2 (b + c), by omega, by go_num, (show RowF (World.drewN _ nq5) w.heap.size o2 from HR2.out).set (i := t2) (by rw [HOL2.out]; omega) (b + c), by rw [List.length_set]; exact HOL2.out, fun x => ?_, (show Below w.heap.size w (World.drewN _ nq5) from ⟨HBR2.out.os, HBR2.out.tape, HBR2.out.output, HBR2.out.size, HBR2.out.block⟩).setCell (Nat.le_refl _) _⟩
            rw [HSet.out, HEV2.out, ev_take (by rw [HNQ.out]; omega), HC'.out]
            grind
          case measure => simp [intOf]; omega
        · obtain rfl : t2 = nq := by omega
          have HFin := Lib.hid (show PolyAt wr w.heap.size n (fun x => ev p x + ev q x) (.slice (some ⟨w.heap.size, 0, none⟩) m m) from ⟨o2, by
            have := HR2.out.own (base := w.heap.size) (Nat.le_refl _) (by rw [HOL2.out]; unfold maxLen; omega)
            rw [HOL2.out] at this
            exact this, by rw [HOL2.out]; exact hmn, fun x => by rw [HEV2.out, ev_full HNQ.out]⟩)
          go_wp2_with fail
          refine (lean_any wr w.heap.size n _ _ HFin.out hn).mono ?_
          rintro e w5 ⟨v', rfl, hP, hB5⟩
          have HP := Lib.hid hP
          have HB9 := Lib.hid (below_more HBR2.out hB5 HBR2.out.size)
          have HSZ := Lib.hid HBR2.out.size
          clear hP hB5
          go_wp2
          go_ret
          obtain ⟨l, a1, a2, a3⟩ := HP.out
          exact ⟨_, rfl, ⟨l, a1.weaken HSZ.out, a2, a3⟩, HB9.out⟩
end -- RefD

section -- RefE
open Go.RowKit Go.Maps
set_option linter.unusedVariables false
set_option maxRecDepth 100000
set_option maxHeartbeats 2000000

theorem belowDr {B : Nat} {a w : World} (h : Below B a w) (n : Nat) : Below B a (w.drewN n) := ⟨h.os, h.tape, h.output, h.size, h.block⟩

theorem rprod_any (w : World) (va vb : Value) (p q : List B) (n : Nat) (hp : BytesAt w va p) (hq : BytesAt w vb q) (hpn : p.length + q.length ≤ n) (hn : n ≤ 1000000) :
    Calls Tryz.prog 93 #[va, vb] w fun e w' => ∃ v', e = .returned v' ∧ PolyAt w' w.heap.size n (fun x => ev p x * ev q x) v' ∧ Below w.heap.size w w' := by
  obtain ⟨pa, ca, rfl, hha⟩ := hp
  obtain ⟨pb, cb, rfl, hhb⟩ := hq
  have HA := Lib.hid hha
  have HB := Lib.hid hhb
  obtain ⟨np, hnp⟩ : ∃ np, p.length = np := ⟨_, rfl⟩
  obtain ⟨nq, hnq⟩ : ∃ nq, q.length = nq := ⟨_, rfl⟩
  rw [hnp] at HA hpn ⊢
  rw [hnq] at HB hpn ⊢
  have HNP := Lib.hid hnp
  have HNQ := Lib.hid hnq
  clear hha hhb hnp hnq
  have hmk := run_make_one (w := w) 51 5 (.int .u8 0) 1 Tryz.underlying51 infoB rfl (by omega) (np + nq) (by omega)
  rw [show ((np + nq : Nat) : Int) = (np : Int) + (nq : Int) by omega] at hmk
  go_enter Tryz.func93, Tryz.ntmps93
  go_wp2
  clear hmk
  have hF := RowF.made w (np + nq)
  have hB := Kept.toBelow (Kept.alloc (fun _ => False) w (.cells (Array.replicate (np + nq) (.int .u8 0)) 5)) (Nat.le_refl _) (fun _ h => h.elim)
  have HF := Lib.hid hF
  have HBW := Lib.hid hB
  clear hF hB
  generalize (w.alloc (.cells (Array.replicate (np + nq) (.int .u8 0)) 5)) = w1 at *
  go_loopw [6, 7] (fun i _ wr => ∃ (t : Nat) (o : List B), t ≤ np ∧ i = .int .i64 (t : Int) ∧ RowF wr w.heap.size o ∧ o.length = np + nq ∧ (∀ x, ev o x = ev (p.take t) x * ev q x) ∧ Below w.heap.size w wr) (fun i _ _ => np - (intOf i).toNat)
  case atStart => exact ⟨0, _, Nat.zero_le _, rfl, HF.out, by simp, fun x => by rw [ev_zero]; show (0 : B) = 0 * _; grind, HBW.out⟩
  case round =>
    obtain ⟨w0, rfl⟩ : ∃ w0, w0 = wr := ⟨_, rfl⟩
    obtain ⟨t, o, ht, rfl, hr, hol, hev, hB⟩ := hrel
    have HR := Lib.hid hr
    have HOL := Lib.hid hol
    have HEV := Lib.hid hev
    have HBR := Lib.hid hB
    clear hr hol hev
    by_cases hlt : t < np
    · obtain ⟨ga, oa, rfl, hca⟩ := HA.out (by omega)
      have HCA := Lib.hid (hca t hlt)
      obtain ⟨c, hc'⟩ : ∃ c, p.getD t 0 = c := ⟨_, rfl⟩
      rw [hc'] at HCA
      have HC' := Lib.hid hc'
      clear hca hc' hB
      go_wp2
      go_loopw [7] (fun i wr => ∃ (k : Nat) (o : List B), k ≤ nq ∧ i = .int .i64 (k : Int) ∧ RowF wr w.heap.size o ∧ o.length = np + nq ∧ (∀ x, ev o x = ev (p.take t) x * ev q x + c * pw x t * ev (q.take k) x) ∧ Below w.heap.size w wr) (fun i _ => nq - (intOf i).toNat)
      case atStart => exact ⟨0, o, Nat.zero_le _, rfl, HR.out, HOL.out, fun x => by rw [HEV.out]; show _ = _ + c * pw x t * 0; grind, HBR.out⟩
      case round =>
        obtain ⟨k, o2, hk, rfl, hr, hol, hev, hB⟩ := hrel
        have HR2 := Lib.hid hr
        have HOL2 := Lib.hid hol
        have HEV2 := Lib.hid hev
        have HBR2 := Lib.hid hB
        clear hr hol hev
        by_cases hlt2 : k < nq
        · obtain ⟨gb, ob, rfl, hcb⟩ := HB.out (by omega)
          have z := hcb k hlt2
          have d0 := (hB.cell (p := ⟨ga, oa + t, none⟩) (blt HCA.out)).trans HCA.out
          have d1 := (hB.cell (p := ⟨gb, ob + k, none⟩) (blt z)).trans z
          have d2 := HR2.out.cell (i := t + k) (by rw [HOL2.out]; omega)
          have d3 := HR2.out.fz (t + k)
          obtain ⟨d, hd'⟩ : ∃ d, q.getD k 0 = d := ⟨_, rfl⟩
          obtain ⟨b, hb'⟩ : ∃ b, o2.getD (t + k) 0 = b := ⟨_, rfl⟩
          rw [hd'] at d1
          rw [hb'] at d2
          have HD' := Lib.hid hd'
          have HSet := Lib.hid (show ∀ x, ev (o2.set (t + k) (b + c * d)) x = ev o2 x + (c * d) * pw x (t + k) from fun x => by rw [← hb']; exact ev_set o2 (t + k) (c * d) x (by rw [HOL2.out]; omega))
          have hxor := u8_xor_nat b.v (c * d).v b.lt (c * d).lt
          have hwr : IntKind.i64.wrap ((t : Int) + (k : Int)) = (t : Int) + (k : Int) := IntWalk.i64_in _ (by omega)
          have hi1 : (t : Int) + (k : Int) < (np : Int) + (nq : Int) := by omega
          have hi2 : ¬ (t : Int) + (k : Int) < 0 := by omega
          have hi3 : ((t : Int) + (k : Int)).toNat = t + k := by omega
          have hi4 : 0 ≤ (t : Int) + (k : Int) := by omega
          have htk : t + k < np + nq := by omega
          clear hcb z hB hd' hb'
          go_wp2_with fail
          refine wp_quiet_store 21 (by kernel_rfl) (by kernel_rfl) ?_
          simp only [List.take_succ_cons, List.take_zero, List.drop_succ_cons, List.drop_zero]
          repeat (quiet_step ((go_at_call 97; exact q_one_same (rmul_any _ c d))))
          refine wpQuiet_nil ?_
          rintro w5 ⟨nq5, rfl⟩
          go_wp2
          refine calmQ.normal ?_
          go_wp2
          go_roundw
          case rel =>
            refine ⟨k + 1, o2.set (t + k) (b + c * d), by omega, by go_num, (show RowF (World.drewN _ nq5) w.heap.size o2 from HR2.out).set (i := t + k) (by rw [HOL2.out]; omega) (b + c * d), by rw [List.length_set]; exact HOL2.out, fun x => ?_, (belowDr HBR2.out nq5).setCell (Nat.le_refl _) _⟩
            rw [HSet.out, HEV2.out, ev_take (by rw [HNQ.out]; omega), HD'.out, pw_add]
            grind
          case measure => simp [intOf]; omega
        · obtain rfl : k = nq := by omega
          have HEP := Lib.hid (show ∀ x, ev o2 x = ev (p.take (t + 1)) x * ev q x from fun x => by
            rw [HEV2.out, ev_full HNQ.out, ev_take (by rw [HNP.out]; omega), HC'.out]; grind)
          go_wp2
          go_roundw
          case rel => exact ⟨t + 1, o2, by omega, by go_num, HR2.out, HOL2.out, HEP.out, HBR2.out⟩
          case measure => simp [intOf]; omega
    · obtain rfl : t = np := by omega
      have HFin := Lib.hid (show PolyAt w0 w.heap.size n (fun x => ev p x * ev q x) (.slice (some ⟨w.heap.size, 0, none⟩) (t + nq) (t + nq)) from ⟨o, by
        have := HR.out.own (base := w.heap.size) (Nat.le_refl _) (by rw [HOL.out]; unfold maxLen; omega)
        rw [HOL.out] at this
        exact this, by rw [HOL.out]; exact hpn, fun x => by rw [HEV.out, ev_full HNP.out]⟩)
      clear hB
      go_wp2_with fail
      refine (lean_any w0 w.heap.size n _ _ HFin.out hn).mono ?_
      rintro e w5 ⟨v', rfl, hP, hB5⟩
      have HP := Lib.hid hP
      have HB9 := Lib.hid (below_more HBR.out hB5 HBR.out.size)
      have HSZ := Lib.hid HBR.out.size
      clear hP hB5
      go_wp2
      go_ret
      obtain ⟨l, a1, a2, a3⟩ := HP.out
      exact ⟨_, rfl, ⟨l, a1.weaken HSZ.out, a2, a3⟩, HB9.out⟩
end -- RefE

section -- RefF
open Go.RowKit Go.Maps
set_option linter.unusedVariables false
set_option maxRecDepth 100000
set_option maxHeartbeats 4000000

section
variable {w w' : World} {base n : Nat} {f : B → B} {v : Value}
theorem PolyAt.below (h : PolyAt w base n f v) (hb : Below w.heap.size w w') : PolyAt w' base n f v := by
  obtain ⟨l, h1, h2, h3⟩ := h
  exact ⟨l, h1.below hb, h2, h3⟩
theorem PolyAt.lower {base' : Nat} (h : PolyAt w base n f v) (hb : base' ≤ base) : PolyAt w base' n f v := by
  obtain ⟨l, h1, h2, h3⟩ := h
  exact ⟨l, h1.weaken hb, h2, h3⟩
theorem PolyAt.to {n' : Nat} {g : B → B} (h : PolyAt w base n f v) (hn : n ≤ n') (hg : ∀ x, f x = g x) : PolyAt w base n' g v := by
  obtain ⟨l, h1, h2, h3⟩ := h
  exact ⟨l, h1, Nat.le_trans h2 hn, fun x => (h3 x).trans (hg x)⟩
theorem PolyAt.shape (h : PolyAt w base n f v) : ∃ p k c, v = .slice p k c := by
  obtain ⟨l, h1, h2, h3⟩ := h
  obtain ⟨p, c, e⟩ := h1.shape
  exact ⟨p, _, c, e⟩
end

theorem nodup_getD {xs : List B} (hn : xs.Nodup) {i k : Nat} (hi : i < xs.length) (hk : k < xs.length) (h : i ≠ k) : (xs.getD i 0).v ≠ (xs.getD k 0).v := by
  intro e
  have e2 := B.ext e
  rw [List.getD_eq_getElem?_getD, List.getD_eq_getElem?_getD, List.getElem?_eq_getElem hi, List.getElem?_eq_getElem hk] at e2
  exact h (nodup_inj hn hi hk (by simpa using e2))
theorem lit_one (w : World) (x : B) : BytesAt (w.alloc (.cells #[bv x] 5)) (.slice (some ⟨w.heap.size, 0, none⟩) 1 1) [x] :=
  ⟨_, _, rfl, fun _ => ⟨_, _, rfl, fun i hi => by
    obtain rfl : i = 0 := by simp at hi; omega
    exact (World.cell?_alloc_new w _ _ 0).trans rfl⟩⟩
theorem lit_two (w : World) (x y : B) : BytesAt (w.alloc (.cells #[bv x, bv y] 5)) (.slice (some ⟨w.heap.size, 0, none⟩) 2 2) [x, y] :=
  ⟨_, _, rfl, fun _ => ⟨_, _, rfl, fun i hi => by
    obtain rfl | rfl : i = 0 ∨ i = 1 := by simp at hi; omega
    · exact (World.cell?_alloc_new w _ _ 0).trans rfl
    · exact (World.cell?_alloc_new w _ _ 1).trans rfl⟩⟩
theorem BytesAt.al {w : World} {v : Value} {l : List B} (h : BytesAt w v l) (x : Obj) : BytesAt (w.alloc x) v l := h.kept (Kept.alloc (fun _ => False) w x) (fun _ _ h => h)
theorem one_poly (w : World) (base : Nat) (hb : base ≤ w.heap.size) : PolyAt (w.alloc (.cells #[.int .u8 1] 5)) base 1 (fun _ => 1) (.slice (some ⟨w.heap.size, 0, none⟩) 1 1) :=
  ⟨[1], (World.ownsRow_lit w #[.int .u8 1] 1 hb (by unfold maxLen; omega) rfl), by simp, fun x => ev_one 1 x⟩
theorem bal' (w : World) (x : Obj) : Below w.heap.size w (w.alloc x) := (Kept.alloc (fun _ => False) w x).toBelow (Nat.le_refl _) (fun _ h => h.elim)
theorem lagSum {xs ys : List B} {m : Nat} (c : B) (hm : m < xs.length) (hc : ys.getD m 0 * (pr (xs.eraseIdx m) (xs.getD m 0)).inv = c) (x : B) :
    sm m (fun i => lag xs i x * ys.getD i 0) + pS xs m x xs.length * c = sm (m + 1) (fun i => lag xs i x * ys.getD i 0) := by
  show _ = sm m _ + lag xs m x * ys.getD m 0
  rw [pS_eq xs m x xs.length (Nat.le_refl _), List.take_length, ← hc]
  unfold lag
  grind

theorem rthrough_any (w : World) (va vb : Value) (xs ys : List B) (n : Nat) (hx : BytesAt w va xs) (hy : BytesAt w vb ys) (hlx : xs.length = n) (hly : ys.length = n) (hn : xs.Nodup) (hs : n ≤ 256) :
    Calls Tryz.prog 69 #[va, vb] w fun e w' => ∃ v, e = .returned (.tuple #[v, .int .i64 0]) ∧ PolyAt w' w.heap.size 600 (fun x => sm n fun i => lag xs i x * ys.getD i 0) v ∧ Below w.heap.size w w' := by
  obtain ⟨pa, ca, rfl, hha⟩ := hx
  obtain ⟨pb, cb, rfl, hhb⟩ := hy
  rw [hlx] at hha ⊢
  rw [hly] at hhb ⊢
  have HA := Lib.hid hha
  have HB := Lib.hid hhb
  have HLX := Lib.hid hlx
  have HLY := Lib.hid hly
  have HN := Lib.hid hn
  clear hha hhb hlx hly hn
  go_enter Tryz.func69, Tryz.ntmps69
  go_wp2
  go_loopw [6, 7] (fun i _ wr => ∃ (t nq : Nat), t ≤ n ∧ i = .int .i64 (t : Int) ∧ wr = w.drewN nq) (fun i _ _ => n - (intOf i).toNat)
  case atStart => exact ⟨0, 0, Nat.zero_le _, rfl, rfl⟩
  case round =>
    obtain ⟨t, nq, ht, rfl, rfl⟩ := hrel
    by_cases hlt : t < n
    · obtain ⟨g, off, rfl, hc⟩ := HA.out (by omega)
      have HC := Lib.hid hc
      clear hc
      go_wp2
      go_loopw [7] (fun i wr => ∃ (k nq : Nat), k ≤ t ∧ i = .int .i64 (k : Int) ∧ wr = w.drewN nq) (fun i _ => t - (intOf i).toNat)
      case atStart => exact ⟨0, nq, Nat.zero_le _, rfl, rfl⟩
      case round =>
        obtain ⟨k, nq2, hk, rfl, rfl⟩ := hrel
        by_cases hlt2 : k < t
        · have d1 := HC.out t hlt
          have d2 := HC.out k (by omega)
          have hne := nodup_getD HN.out (i := t) (k := k) (by rw [HLX.out]; omega) (by rw [HLX.out]; omega) (by omega)
          obtain ⟨a, ha⟩ : ∃ a, xs.getD t 0 = a := ⟨_, rfl⟩
          obtain ⟨b, hb⟩ : ∃ b, xs.getD k 0 = b := ⟨_, rfl⟩
          rw [ha] at d1 hne
          rw [hb] at d2 hne
          have hne2 : ((a.v : Int) == (b.v : Int)) = false := by simp; omega
          have hne3 : ¬ (a.v : Int) = (b.v : Int) := by omega
          clear ha hb
          go_wp2_with fail
          go_quiet (fail)
          go_wp2
          go_roundw
          case rel => exact ⟨k + 1, _, by omega, by go_num, rfl⟩
          case measure => simp [intOf]; omega
        · obtain rfl : k = t := by omega
          go_wp2
          go_roundw
          case rel => exact ⟨k + 1, nq2, by omega, by go_num, rfl⟩
          case measure => simp [intOf]; omega
    · obtain rfl : t = n := by omega
      have hB0 : Below w.heap.size w (w.drewN nq) := belowDr (Below.refl _ _) nq
      have HB0 := Lib.hid hB0
      have HSZ := Lib.hid (show (w.drewN nq).heap.size = w.heap.size from rfl)
      clear hB0
      go_wp2
      generalize w.drewN nq = wq at *
      go_loopw [8, 9, 10, 11, 12, 13] (fun v i _ _ _ _ wr => ∃ m : Nat, m ≤ t ∧ i = .int .i64 (m : Int) ∧ PolyAt wr w.heap.size 600 (fun x => sm m fun i => lag xs i x * ys.getD i 0) v ∧ Below w.heap.size w wr) (fun _ i _ _ _ _ _ => t - (intOf i).toNat)
      case atStart => exact ⟨0, Nat.zero_le _, rfl, ⟨[], Own.nil _ _, by simp, fun x => rfl⟩, HB0.out⟩
      case round =>
        obtain ⟨w0, rfl⟩ : ∃ w0, w0 = wr := ⟨_, rfl⟩
        obtain ⟨m, hm, rfl, hP, hB⟩ := hrel
        obtain ⟨pv, lv, cv, rfl⟩ := hP.shape
        have HP := Lib.hid hP
        have HBW := Lib.hid hB
        have hsz := hB.size
        clear hP
        by_cases hlt : m < t
        · obtain ⟨ga, oa, rfl, hca⟩ := HA.out (by omega)
          obtain ⟨gb, ob, rfl, hcb⟩ := HB.out (by omega)
          have HCA := Lib.hid (fun i hi => (show w0.cell? ⟨ga, oa + i, none⟩ = some (bv (xs.getD i 0)) from (hB.cell (p := ⟨ga, oa + i, none⟩) (blt (hca i hi))).trans (hca i hi)))
          have HCB := Lib.hid (fun i hi => (show w0.cell? ⟨gb, ob + i, none⟩ = some (bv (ys.getD i 0)) from (hB.cell (p := ⟨gb, ob + i, none⟩) (blt (hcb i hi))).trans (hcb i hi)))
          have HO := Lib.hid (one_poly w0 w.heap.size hsz)
          have HB1 := Lib.hid (show Below w0.heap.size w0 (w0.alloc (.cells #[.int .u8 1] 5)) from (Below.refl _ _).alloc (Nat.le_refl _) _)
          clear hca hcb hB
          go_wp2
          generalize w0.alloc (.cells #[.int .u8 1] 5) = w1 at *
          go_loopw [10, 11] (fun v i wr => ∃ k : Nat, k ≤ t ∧ i = .int .i64 (k : Int) ∧ PolyAt wr w.heap.size (1 + 2 * k) (fun x => pS xs m x k) v ∧ Below w0.heap.size w0 wr) (fun _ i _ => t - (intOf i).toNat)
          case atStart => exact ⟨0, Nat.zero_le _, rfl, HO.out, HB1.out⟩
          case round =>
            obtain ⟨k, hk, rfl, hP, hB⟩ := hrel
            obtain ⟨pp, lp, cp, rfl⟩ := hP.shape
            have HP2 := Lib.hid hP
            have HBR := Lib.hid hB
            have hsz2 := hB.size
            clear hP
            by_cases hlt2 : k < t
            · by_cases hkm : k = m
              · subst hkm
                have HS := Lib.hid (show ∀ x, pS xs k x k = pS xs k x (k + 1) from fun x => by show _ = if k = k then _ else _; rw [if_pos rfl])
                clear hB
                go_wp2
                go_roundw
                case rel => exact ⟨k + 1, by omega, by go_num, HP2.out.to (by omega) HS.out, HBR.out⟩
                case measure => simp [intOf]; omega
              · have d1 := (hB.cell (p := ⟨ga, oa + k, none⟩) (blt (HCA.out k hlt2))).trans (HCA.out k hlt2)
                have HS := Lib.hid (show ∀ x, pS xs m x k * (x + xs.getD k 0) = pS xs m x (k + 1) from fun x => by show _ = if k = m then _ else _; rw [if_neg hkm])
                obtain ⟨a, ha⟩ : ∃ a, xs.getD k 0 = a := ⟨_, rfl⟩
                rw [ha] at d1 HS
                have hne1 : (k != m) = true := by simpa using hkm
                have hne2 : ¬ (k : Int) = m := by omega
                obtain ⟨l, hl1, hl2, hl3⟩ := HP2.out
                have HL3 := Lib.hid hl3
                have HLB := Lib.hid (hl1.bytes.al (.cells #[bv a, bv 1] 5))
                have HTW := Lib.hid (lit_two wr a 1)
                have HBA := Lib.hid (bal' wr (.cells #[bv a, bv 1] 5))
                clear hB ha hl1 hl3
                go_wp2_with fail
                refine (rprod_any _ _ _ l [a, 1] (1 + 2 * (k + 1)) HLB.out HTW.out (by simp; omega) (by omega)).mono ?_
                rintro e w5 ⟨v', rfl, hP5, hB5⟩
                have HP5 := Lib.hid hP5
                have HB5 := Lib.hid (below_more HBA.out hB5 HBA.out.size)
                have HSA := Lib.hid HBA.out.size
                clear hP5 hB5
                go_wp2
                go_roundw
                case rel => exact ⟨k + 1, by omega, by go_num, (HP5.out.lower (by have := HSA.out; omega)).to (Nat.le_refl _) (fun x => by rw [HL3.out, ev_two]; exact HS.out x), below_more HBR.out HB5.out HBR.out.size⟩
                case measure => simp [intOf]; omega
            · obtain rfl : k = t := by omega
              have d1 := (hB.cell (p := ⟨gb, ob + m, none⟩) (blt (HCB.out m hlt))).trans (HCB.out m hlt)
              have d2 := (hB.cell (p := ⟨ga, oa + m, none⟩) (blt (HCA.out m hlt))).trans (HCA.out m hlt)
              obtain ⟨l, hl1, hl2, hl3⟩ := HP2.out
              have hE : ev l (xs.getD m 0) = pr (xs.eraseIdx m) (xs.getD m 0) := by
                rw [hl3, ← HLX.out]
                show pS xs m _ xs.length = _
                rw [pS_eq xs m _ xs.length (Nat.le_refl _), List.take_length]
              have hE0 : ev l (xs.getD m 0) ≠ 0 := by rw [hE]; exact pr_ne (nodup_erase HN.out (by rw [HLX.out]; exact hlt))
              have HLag := Lib.hid (fun x => lagSum (xs := xs) (ys := ys) (m := m) (ys.getD m 0 * (ev l (xs.getD m 0)).inv) (by rw [HLX.out]; exact hlt) (by rw [hE]) x)
              rw [HLX.out] at HLag
              obtain ⟨a, ha⟩ : ∃ a, xs.getD m 0 = a := ⟨_, rfl⟩
              obtain ⟨y, hy⟩ : ∃ y, ys.getD m 0 = y := ⟨_, rfl⟩
              rw [ha] at d2 hE0 HLag
              rw [hy] at d1
              simp only [hy] at HLag
              have HL1 := Lib.hid hl1
              have HLB := Lib.hid hl1.bytes
              have HL3 := Lib.hid hl3
              obtain ⟨e, he⟩ : ∃ e, ev l a = e := ⟨_, rfl⟩
              rw [he] at hE0 HLag
              have HE := Lib.hid he
              have HE0 := Lib.hid hE0
              have HRV := Lib.hid (fun W (hb : BytesAt W (.slice pp lp cp) l) => (show Calls Tryz.prog 70 #[.slice pp lp cp, bv a] W fun e' w' => e' = .returned (bv e) ∧ W = w' from by rw [← HE.out]; exact rvalue_any W _ l a hb (by omega)))
              clear hB hl1 hl3 hE hE0 ha hy he
              go_wp2_with fail
              go_quiet (first
                | (go_at_call 70; exact q_one_same (HRV.out _ (by exact HLB.out)))
                | (go_at_call 94; exact q_one_same (rdiv_any _ y e HE0.out)))
              have HB3 := Lib.hid (show Below w0.heap.size w0 (wr.drewN nq) from belowDr HBR.out nq)
              have HLB3 := Lib.hid (show BytesAt (wr.drewN nq) (.slice pp lp cp) l from HLB.out)
              clear HLB
              obtain ⟨c, hc⟩ : ∃ c, y * e.inv = c := ⟨_, rfl⟩
              rw [hc] at HLag ⊢
              generalize wr.drewN nq = w3 at *
              have HO1 := Lib.hid (lit_one w3 c)
              have HA1 := Lib.hid (bal' w3 (.cells #[bv c] 5))
              have HLB4 := Lib.hid (HLB3.out.al (.cells #[bv c] 5))
              clear hc
              go_wp2_with fail
              refine (rprod_any _ _ _ l [c] 600 HLB4.out HO1.out (by simp; omega) (by omega)).mono ?_
              rintro e5 w5 ⟨v5, rfl, hP5, hB5⟩
              obtain ⟨p5, k5, c5, rfl⟩ := hP5.shape
              have HB5 := Lib.hid (below_more HB3.out (below_more HA1.out hB5 HA1.out.size) HB3.out.size)
              obtain ⟨l5, hl5, hn5, he5⟩ := hP5
              obtain ⟨l0, hl0, hn0, he0⟩ := HP.out.below HB5.out
              have HL5 := Lib.hid hl5.bytes
              have HL0 := Lib.hid hl0.bytes
              have HE5 := Lib.hid he5
              have HE0' := Lib.hid he0
              have HB05 := Lib.hid (below_more HBW.out HB5.out HBW.out.size)
              clear hB5 hl5 hl0 he5 he0
              go_wp2_with fail
              refine (radd_any _ _ _ l0 l5 600 HL0.out HL5.out hn0 hn5 (by omega)).mono ?_
              rintro e6 w6 ⟨v6, rfl, hP6, hB6⟩
              have HP6 := Lib.hid hP6
              have HB6 := Lib.hid (below_more HB05.out hB6 HB05.out.size)
              have HS6 := Lib.hid HB05.out.size
              clear hP6 hB6
              go_wp2
              go_roundw
              case rel => exact ⟨m + 1, by omega, by go_num, (HP6.out.lower HS6.out).to (Nat.le_refl _) (fun x => by rw [HE0'.out, HE5.out, HL3.out, ev_one]; exact HLag.out x), HB6.out⟩
              case measure => simp [intOf]; omega
        · obtain rfl : m = t := by omega
          clear hB
          go_wp2_with fail
          refine (lean_any _ _ _ _ _ HP.out (by omega)).mono ?_
          rintro e5 w5 ⟨v5, rfl, hP5, hB5⟩
          have HP5 := Lib.hid (hP5.lower hsz)
          have HB5 := Lib.hid (below_more HBW.out hB5 hsz)
          clear hP5 hB5
          go_wp2
          go_ret2
          exact ⟨_, rfl, HP5.out, HB5.out⟩
end -- RefF

section -- RefG
open Go.RowKit Go.Maps
set_option linter.unusedVariables false
set_option maxRecDepth 100000
set_option maxHeartbeats 2000000

/-- Append of one byte. -/
theorem app_own {ops : Array Oper} {rest : List Oper} {o : Oper} {a : Act} {Q : Exit → Act → World → Prop} {W : World}
    (hgd : o.guard = none) (s x : Operand) (ho : o.op = .call { callee := .builtin .append, args := #[s, x], argTypes := #[51, 51] })
    (base n : Nat) (v : Value) (l : List B) (y : B) (hln : l.length = n) (hown : Own W base v l) (hs : a.eval s = v)
    (hx : a.eval x = .slice (some ⟨W.heap.size, 0, none⟩) 1 1) (hn : n < 1000000000000) (hbase : base ≤ W.heap.size)
    (h : ∀ g' c' w', Own w' base (.slice (some ⟨g', 0, none⟩) (n + 1) c') (l ++ [y]) → Kept (fun k => v.ownBlock = some k) W w' → W.heap.size < w'.heap.size → (v.ownBlock = some g' ∨ W.heap.size < g') →
      wpList Tryz.prog ops Q rest (a.put o.dst (.slice (some ⟨g', 0, none⟩) (n + 1) c')) w') : wpList Tryz.prog ops Q (o :: rest) a (W.alloc (.cells #[bv y] 5)) := by
  subst hln
  refine app_el 51 5 1 1 (.int .u8 0) Tryz.underlying51 infoB rfl (by decide) hgd s x ho base l.length v (l.map bv) hs hown [bv y] rfl (one_bv y) hx hn hbase ?_
  intro g' c' w' ho' hk hs' hg'
  refine h g' c' w' ?_ hk hs' hg'
  unfold Own
  rw [List.length_append, ← map_snoc_bv]
  exact ho'
theorem RowF.made1 (w : World) (n k : Nat) (x : B) : RowF (w.alloc (.cells ((Array.replicate n (.int .u8 0)).setIfInBounds k (bv x)) 5)) w.heap.size ((List.replicate n 0).set k x) := by
  refine (heap_alloc_new w _).trans ?_
  rw [List.map_set, show (List.replicate n (0 : B)).map bv = List.replicate n (.int .u8 0) from by rw [List.map_replicate]; rfl]
  rw [← List.setIfInBounds_toArray, List.toArray_replicate]

theorem rvalue4_any (w : World) (va vb : Value) (xs ys : List B) (n : Nat) (x : B) (hx : BytesAt w va xs) (hy : BytesAt w vb ys) (hlx : xs.length = n) (hly : ys.length = n) (hn : xs.Nodup) (hs : n ≤ 256) :
    Calls Tryz.prog 61 #[va, vb, bv x] w fun e w' => e = .returned (.tuple #[bv (sm n fun i => lag xs i x * ys.getD i 0), .int .i64 0]) ∧ Below w.heap.size w w' := by
  have HX := Lib.hid hx
  have HY := Lib.hid hy
  have HLX := Lib.hid hlx
  have HLY := Lib.hid hly
  have HN := Lib.hid hn
  obtain ⟨pa, ca, rfl⟩ := hx.shape
  obtain ⟨pb, cb, rfl⟩ := hy.shape
  rw [hlx] at HX ⊢
  rw [hly] at HY ⊢
  obtain ⟨r, hr⟩ : ∃ r, (sm n fun i => lag xs i x * ys.getD i 0) = r := ⟨_, rfl⟩
  rw [hr]
  have HRR := Lib.hid hr
  clear hx hy hlx hly hn hr
  go_enter Tryz.func61, Tryz.ntmps61
  go_wp2_with fail
  refine (rthrough_any w _ _ xs ys n HX.out HY.out HLX.out HLY.out HN.out hs).mono ?_
  rintro e w1 ⟨v, rfl, hP, hB⟩
  obtain ⟨l, h1, h2, h3⟩ := hP
  have HB := Lib.hid hB
  have HV := Lib.hid (show Calls Tryz.prog 70 #[v, bv x] w1 fun e' w' => e' = .returned (bv r) ∧ w1 = w' from by
    have := rvalue_any w1 v l x h1.bytes (by omega)
    rw [h3] at this
    rw [← HRR.out]
    exact this)
  obtain ⟨p, c, rfl⟩ := h1.shape
  clear h1 h3 hB
  go_wp2_with fail
  refine HV.out.mono ?_
  rintro e w2 ⟨rfl, rfl⟩
  go_wp2
  go_ret2
  exact ⟨rfl, HB.out⟩

theorem rvalues_any (w : World) (va vb vc : Value) (xs ys ts : List B) (n m : Nat) (hx : BytesAt w va xs) (hy : BytesAt w vb ys) (ht : BytesAt w vc ts) (hlx : xs.length = n) (hly : ys.length = n) (hlt : ts.length = m) (hn : xs.Nodup) (hs : n ≤ 256) (hm : m ≤ 256) :
    Calls Tryz.prog 52 #[va, vb, vc] w fun e w' => ∃ v, e = .returned (.tuple #[v, .int .i64 0]) ∧ Own w' w.heap.size v (rowL m fun j => sm n fun i => lag xs i (ts.getD j 0) * ys.getD i 0) ∧ Below w.heap.size w w' := by
  have HX := Lib.hid hx
  have HY := Lib.hid hy
  have HLX := Lib.hid hlx
  have HLY := Lib.hid hly
  have HN := Lib.hid hn
  obtain ⟨pa, ca, rfl⟩ := hx.shape
  obtain ⟨pb, cb, rfl⟩ := hy.shape
  obtain ⟨pt, ct, rfl, hht⟩ := ht
  rw [hlx] at HX ⊢
  rw [hly] at HY ⊢
  rw [hlt] at hht ⊢
  have HT := Lib.hid hht
  clear hx hy hlx hly hn hht hlt
  go_enter Tryz.func52, Tryz.ntmps52
  go_wp2_with fail
  refine (rthrough_any w _ _ xs ys n HX.out HY.out HLX.out HLY.out HN.out hs).mono ?_
  rintro e w1 ⟨v, rfl, hP, hB⟩
  obtain ⟨l, h1, h2, h3⟩ := hP
  obtain ⟨p, c, rfl⟩ := h1.shape
  have HB := Lib.hid hB
  have HO := Lib.hid h1
  have H3 := Lib.hid h3
  have hsz := hB.size
  clear h1 h3 hB
  go_wp2
  go_loopw [10, 11] (fun v i wr => ∃ k : Nat, k ≤ m ∧ i = .int .i64 (k : Int) ∧ Own wr w1.heap.size v (rowL k fun j => sm n fun i => lag xs i (ts.getD j 0) * ys.getD i 0) ∧ Below w1.heap.size w1 wr) (fun _ i _ => m - (intOf i).toNat)
  case atStart => exact ⟨0, Nat.zero_le _, rfl, Own.nil _ _, Below.refl _ _⟩
  case round =>
    obtain ⟨k, hk, rfl, ho, hB⟩ := hrel
    obtain ⟨pv, cv, rfl⟩ := ho.shape
    rw [rowL_len] at ho ⊢
    have HOV := Lib.hid ho
    have HBR := Lib.hid hB
    have hsr := hB.size
    clear ho
    by_cases hlt : k < m
    · obtain ⟨g, off, rfl, hc⟩ := HT.out (by omega)
      have z := hc k hlt
      have z1 := (HB.out.cell (p := ⟨g, off + k, none⟩) (blt z)).trans z
      have d1 := (hB.cell (p := ⟨g, off + k, none⟩) (blt z1)).trans z1
      have HS := Lib.hid (show rowL k (fun j => sm n fun i => lag xs i (ts.getD j 0) * ys.getD i 0) ++ [sm n fun i => lag xs i (ts.getD k 0) * ys.getD i 0] = rowL (k + 1) (fun j => sm n fun i => lag xs i (ts.getD j 0) * ys.getD i 0) by simp [rowL, List.range_succ])
      have hV := rvalue_any wr _ l (ts.getD k 0) (HO.out.below hB).bytes (by omega)
      rw [H3.out] at hV
      obtain ⟨t, htt⟩ : ∃ t, ts.getD k 0 = t := ⟨_, rfl⟩
      rw [htt] at d1 hV HS
      obtain ⟨r, hr⟩ : ∃ r, (sm n fun i => lag xs i t * ys.getD i 0) = r := ⟨_, rfl⟩
      simp only [hr] at hV HS
      have HV := Lib.hid hV
      clear hc z z1 hB htt hr hV
      go_wp2_with fail
      refine HV.out.mono ?_
      rintro e w2 ⟨rfl, rfl⟩
      go_wp2_with (at_builtin; refine app_own rfl _ _ rfl w1.heap.size k _ _ r (rowL_len _ _) HOV.out rfl rfl (by omega) hsr ?_; intro g' c' w6 hR6 hk6 hs6 hg6)
      go_roundw
      case rel =>
        refine ⟨k + 1, by omega, by go_num, by rw [← HS.out]; exact hR6, HBR.out.trans (hk6.toBelow hsr (fun i hi => (HOV.out.blk i hi).1))⟩
      case measure => simp [intOf]; omega
    · obtain rfl : k = m := by omega
      go_wp2
      go_ret2
      exact ⟨_, rfl, HOV.out.weaken hsz, below_more HB.out HBR.out hsz⟩

theorem wts_unit {xs : List B} {j : Nat} (hj : j < xs.length) (x : B) : sm xs.length (fun i => lag xs i x * ((List.replicate xs.length 0).set j 1).getD i 0) = lag xs j x := by
  rw [sm_one hj (fun i hi hne => by
    rw [getD_set_ne (fun e => hne e.symm), List.getD_eq_getElem?_getD, List.getElem?_replicate]
    simp [hi]
    grind)]
  rw [List.getD_eq_getElem?_getD, List.getElem?_set_self (by simpa using hj)]
  show lag xs j x * 1 = _
  grind

theorem rweights_any (w : World) (va : Value) (xs : List B) (n : Nat) (x : B) (hx : BytesAt w va xs) (hlx : xs.length = n) (hn : xs.Nodup) (hs : n ≤ 256) :
    Calls Tryz.prog 40 #[va, bv x] w fun e w' => ∃ v, e = .returned (.tuple #[v, .int .i64 0]) ∧ Own w' w.heap.size v (wtsL xs x) ∧ Below w.heap.size w w' := by
  have HX := Lib.hid hx
  have HLX := Lib.hid hlx
  have HN := Lib.hid hn
  obtain ⟨pa, ca, rfl⟩ := hx.shape
  rw [hlx] at HX ⊢
  have HW := Lib.hid (show wtsL xs x = rowL n fun j => lag xs j x by rw [← hlx]; rfl)
  rw [HW.out]
  clear hx hlx hn
  go_enter Tryz.func40, Tryz.ntmps40
  go_wp2
  go_loopw [6, 7, 8, 9, 10] (fun v i _ _ _ wr => ∃ k : Nat, k ≤ n ∧ i = .int .i64 (k : Int) ∧ Own wr w.heap.size v (rowL k fun j => lag xs j x) ∧ Below w.heap.size w wr) (fun _ i _ _ _ _ => n - (intOf i).toNat)
  case atStart => exact ⟨0, Nat.zero_le _, rfl, Own.nil _ _, Below.refl _ _⟩
  case round =>
    obtain ⟨k, hk, rfl, ho, hB⟩ := hrel
    obtain ⟨pv, cv, rfl⟩ := ho.shape
    rw [rowL_len] at ho ⊢
    have HOV := Lib.hid ho
    have HBR := Lib.hid hB
    have hsr := hB.size
    clear ho
    by_cases hlt : k < n
    · have hmk := run_make_one (w := wr) 51 5 (.int .u8 0) 1 Tryz.underlying51 infoB rfl (by omega) n (by omega)
      have HU := Lib.hid (wts_unit (xs := xs) (j := k) (by rw [HLX.out]; exact hlt) x)
      rw [HLX.out] at HU
      have hF := RowF.made1 wr n k 1
      have hA : Below wr.heap.size wr (wr.alloc (.cells ((Array.replicate n (.int .u8 0)).setIfInBounds k (bv 1)) 5)) := bal' _ _
      have HS := Lib.hid (show rowL k (fun j => lag xs j x) ++ [lag xs k x] = rowL (k + 1) (fun j => lag xs j x) by simp [rowL, List.range_succ])
      obtain ⟨r, hr⟩ : ∃ r, lag xs k x = r := ⟨_, rfl⟩
      rw [hr] at HU HS
      have HF := Lib.hid (hF.toBytes n)
      rw [List.length_set, List.length_replicate] at HF
      have HA := Lib.hid hA
      have HXR := Lib.hid (HX.out.below (below_more hB hA hsr))
      have HV := Lib.hid (rvalue4_any _ _ _ xs ((List.replicate n 0).set k 1) n x HXR.out HF.out HLX.out (by simp) HN.out hs)
      rw [HU.out] at HV
      clear hF hA hr hB
      go_wp2_with fail
      refine HV.out.mono ?_
      rintro e w5 ⟨rfl, hB5⟩
      have HB5 := Lib.hid (below_more HA.out hB5 HA.out.size)
      have HB6 := Lib.hid (below_more HBR.out HB5.out hsr)
      have HOV5 := Lib.hid (HOV.out.below HB5.out)
      have hs5 := HB6.out.size
      clear hB5
      go_wp2_with (at_builtin; refine app_own rfl _ _ rfl w.heap.size k _ _ r (rowL_len _ _) HOV5.out rfl rfl (by omega) hs5 ?_; intro g' c' w6 hR6 hk6 hs6 hg6)
      go_roundw
      case rel =>
        refine ⟨k + 1, by omega, by go_num, by rw [← HS.out]; exact hR6, HB6.out.trans (hk6.toBelow hs5 (fun i hi => (HOV5.out.blk i hi).1))⟩
      case measure => simp [intOf]; omega
    · obtain rfl : k = n := by omega
      go_wp2
      go_ret2
      exact ⟨_, rfl, HOV.out, HBR.out⟩
end -- RefG

section -- RefH
open Go.RowKit Go.Maps
set_option linter.unusedVariables false
set_option maxRecDepth 100000
set_option maxHeartbeats 2000000

/-- The reference's coder. -/
def RCoderAt (w : World) (b n k : Nat) : Prop := w.heap[b]? = some (.cells #[.int .i64 (n : Int), .int .i64 (k : Int)] 64 (0, 0))
section
variable {w w' : World} {b n k : Nat}
theorem RCoderAt.lt (h : RCoderAt w b n k) : b < w.heap.size := (Array.getElem?_eq_some_iff.1 h).1
theorem RCoderAt.below (h : RCoderAt w b n k) (hb : Below w.heap.size w w') : RCoderAt w' b n k := (hb.block b h.lt).trans h
theorem RCoderAt.c0 (h : RCoderAt w b n k) : w.cell? ⟨b, 0, none⟩ = some (.int .i64 (n : Int)) := by rw [cell_of h]; rfl
theorem RCoderAt.c1 (h : RCoderAt w b n k) : w.cell? ⟨b, 1, none⟩ = some (.int .i64 (k : Int)) := by rw [cell_of h]; rfl
end

theorem rnew_any (w : World) (n k : Nat) (hk : 1 ≤ k) (hkn : k ≤ n) (hn : n ≤ 255) :
    Calls Tryz.prog 10 #[.int .i64 (n : Int), .int .i64 (k : Int)] w fun e w' => ∃ b, e = .returned (.tuple #[.pointer (some ⟨b, 0, none⟩), .int .i64 0]) ∧ RCoderAt w' b n k ∧ Below w.heap.size w w' := by
  have h1 : ¬ (k : Int) < 1 := by omega
  have h2 : ¬ (n : Int) < k := by omega
  have h3 : ¬ (255 : Int) < n := by omega
  have HC := Lib.hid (show RCoderAt (w.alloc (.cells #[.int .i64 (n : Int), .int .i64 (k : Int)] 64)) w.heap.size n k from heap_alloc_new w _)
  have HB := Lib.hid (bal' w (.cells #[.int .i64 (n : Int), .int .i64 (k : Int)] 64))
  go_enter Tryz.func10, Tryz.ntmps10
  go_wp2
  go_ret2
  exact ⟨_, rfl, HC.out, HB.out⟩

theorem rnew_bad (w : World) (n k : Int) (h : k < 1 ∨ n < k ∨ 255 < n) :
    Calls Tryz.prog 10 #[.int .i64 n, .int .i64 k] w fun e w' => e = .returned (.tuple #[.pointer none, .int .i64 2]) ∧ w = w' := by
  go_enter Tryz.func10, Tryz.ntmps10
  go_wp2
  all_goals
    first
      | (exfalso; omega)
      | (go_ret2; exact ⟨rfl, rfl⟩)

theorem ofB_mk {k : Nat} (h : k < 256) : (⟨k, h⟩ : B) = ofB k := B.ext (Nat.mod_eq_of_lt h).symm

theorem rpoints_any (w : World) (n : Nat) (hn : n ≤ 255) :
    Calls Tryz.prog 37 #[.int .i64 (n : Int)] w fun e w' => ∃ v, e = .returned v ∧ Own w' w.heap.size v (ptsL n) ∧ Below w.heap.size w w' := by
  go_enter Tryz.func37, Tryz.ntmps37
  go_wp2
  go_loopw [3, 4] (fun v i wr => ∃ k : Nat, k ≤ n ∧ i = .int .i64 (k : Int) ∧ Own wr w.heap.size v (ptsL k) ∧ Below w.heap.size w wr) (fun _ i _ => n - (intOf i).toNat)
  case atStart => exact ⟨0, Nat.zero_le _, rfl, Own.nil _ _, Below.refl _ _⟩
  case round =>
    obtain ⟨k, hk, rfl, ho, hB⟩ := hrel
    obtain ⟨pv, cv, rfl⟩ := ho.shape
    rw [ptsL_len] at ho ⊢
    have HOV := Lib.hid ho
    have HBR := Lib.hid hB
    have hsr := hB.size
    clear ho hB
    by_cases hlt : k < n
    · have hk2 : k < 256 := by omega
      have HS := Lib.hid (show ptsL k ++ [(⟨k, hk2⟩ : B)] = ptsL (k + 1) by rw [ofB_mk, ptsL_succ])
      go_wp2_with (at_builtin; refine app_own rfl _ _ rfl w.heap.size k _ _ ⟨k, hk2⟩ (ptsL_len _) HOV.out rfl rfl (by omega) hsr ?_; intro g' c' w6 hR6 hk6 hs6 hg6)
      go_roundw
      case rel =>
        refine ⟨k + 1, by omega, by go_num, by rw [← HS.out]; exact hR6, HBR.out.trans (hk6.toBelow hsr (fun i hi => (HOV.out.blk i hi).1))⟩
      case measure => simp [intOf]; omega
    · obtain rfl : k = n := by omega
      go_wp2
      go_ret
      exact ⟨_, rfl, HOV.out, HBR.out⟩

theorem rsource_any (w : World) {b n k : Nat} (hc : RCoderAt w b n k) (hk : 1 ≤ k) (hk2 : k ≤ 255) (vl : Value) (ls : List (List B)) (hl : RowsAt w vl ls) (hlen : ls.length ≤ 1000000000) :
    Calls Tryz.prog 44 #[.pointer (some ⟨b, 0, none⟩), vl] w fun e w' => e = .returned (.bool (decide (ls.length = k) && evenB ls)) ∧ ∃ nq, w' = w.drewN nq := by
  have d1 := hc.c1
  obtain ⟨pl, cl, rfl, hh⟩ := hl
  have HH := Lib.hid hh
  obtain ⟨r, hr⟩ : ∃ r, (decide (ls.length = k) && evenB ls) = r := ⟨_, rfl⟩
  rw [hr]
  have HRR := Lib.hid hr
  clear hc hh hr
  by_cases he : ls.length = k
  · have HE := Lib.hid he
    rw [he] at HH ⊢
    clear he
    go_enter Tryz.func44, Tryz.ntmps44
    go_wp2
    go_loopw [5] (fun i wr => ∃ (m nq : Nat), m ≤ k ∧ i = .int .i64 (m : Int) ∧ (∀ j, j < m → (ls.getD j []).length = (ls.getD 0 []).length) ∧ wr = w.drewN nq) (fun i _ => k - (intOf i).toNat)
    case atStart => exact ⟨0, 0, Nat.zero_le _, rfl, fun j h => absurd h (by omega), rfl⟩
    case round =>
      obtain ⟨m, nq, hm, rfl, hj, rfl⟩ := hrel
      have HJ := Lib.hid hj
      clear hj
      by_cases hlt : m < k
      · obtain ⟨g, off, rfl, hcc⟩ := HH.out (by omega)
        obtain ⟨u, x1, x2⟩ := hcc m hlt
        obtain ⟨u0, y1, y2⟩ := hcc 0 (by omega)
        rw [Nat.add_zero] at y1
        obtain ⟨pu, cu, rfl⟩ := x2.shape
        obtain ⟨p0, c0, rfl⟩ := y2.shape
        obtain ⟨lm, hlm⟩ : ∃ lm, (ls.getD m []).length = lm := ⟨_, rfl⟩
        obtain ⟨l0, hl0⟩ : ∃ l0, (ls.getD 0 []).length = l0 := ⟨_, rfl⟩
        rw [hlm] at x1
        rw [hl0] at y1 HJ
        have HLM := Lib.hid hlm
        have HL0 := Lib.hid hl0
        clear hcc x2 y2 hlm hl0
        by_cases hel : lm = l0
        · subst hel
          go_wp2_with fail
          go_quiet (fail)
          go_wp2
          go_roundw
          case rel =>
            refine ⟨m + 1, _, by omega, by go_num, fun j hj => ?_, rfl⟩
            rw [HL0.out]
            by_cases e : j = m
            · rw [e]; exact HLM.out
            · exact HJ.out j (by omega)
          case measure => simp [intOf]; omega
        · have hne1 : ¬ (lm : Int) = l0 := by omega
          have hne2 : (lm == l0) = false := by simpa using hel
          have HR := Lib.hid (show r = false by
            rw [← HRR.out, Bool.and_eq_false_iff]
            right
            unfold evenB
            rw [List.all_eq_false]
            refine ⟨ls.getD m [], ?_, by rw [HLM.out, HL0.out]; simpa using hel⟩
            have : m < ls.length := by rw [HE.out]; exact hlt
            rw [List.getD_eq_getElem?_getD, List.getElem?_eq_getElem this]
            exact List.getElem_mem this)
          go_wp2_with fail
          go_quiet (fail)
          go_wp2
          go_ret
          exact ⟨by rw [HR.out]; rfl, _, by rw [World.drewN_drewN]⟩
      · obtain rfl : m = k := by omega
        have HR := Lib.hid (show r = true by
          rw [← HRR.out, Bool.and_eq_true]
          exact ⟨by simpa using HE.out, evenB_of (wide := (ls.getD 0 []).length) (fun i hi => HJ.out i (by rw [← HE.out]; exact hi))⟩)
        go_wp2
        go_ret
        exact ⟨by rw [HR.out]; rfl, nq, rfl⟩
  · have hne1 : ¬ (ls.length : Int) = k := by omega
    have hne2 : (ls.length == k) = false := by simpa using he
    have HE := Lib.hid (show r = false by rw [← HRR.out]; simp [he])
    clear he
    go_enter Tryz.func44, Tryz.ntmps44
    go_wp2
    go_ret
    exact ⟨by rw [HE.out]; rfl, 0, rfl⟩
end -- RefH

section -- RefI
open Go.RowKit Go.Maps
set_option linter.unusedVariables false
set_option maxRecDepth 100000
set_option maxHeartbeats 4000000

def gridV (wide : Nat) (g : Nat → Nat) (r : Nat) : Value := .slice (some ⟨g r, 0, none⟩) wide wide
/-- Rows that were made: the outer cells, each row in a block of its own. -/
structure GridAt (w : World) (base : Nat) (v : Value) (n wide : Nat) (g : Nat → Nat) (M : Nat → Nat → B) : Prop where
  outer : w.ownsRow base 51 1 v n ((List.range n).map (gridV wide g))
  row : ∀ r, r < n → RowF w (g r) (rowL wide (M r))
  ne : ∀ r, r < n → v.ownBlock ≠ some (g r)
  inj : ∀ r s, r < n → s < n → g r = g s → r = s
  low : ∀ r, r < n → base ≤ g r

section
variable {w w' : World} {base n wide : Nat} {v : Value} {g : Nat → Nat} {M : Nat → Nat → B}
theorem GridAt.kept {S : Nat → Prop} (h : GridAt w base v n wide g M) (hk : Kept S w w') (h1 : ∀ b, v.ownBlock = some b → ¬ S b) (h2 : ∀ r, r < n → ¬ S (g r)) : GridAt w' base v n wide g M :=
  ⟨ownsRow_keptS h.outer hk h1, fun r hr => (h.row r hr).kept hk (h2 r hr), h.ne, h.inj, h.low⟩
theorem GridAt.below (h : GridAt w base v n wide g M) (hb : Below w.heap.size w w') : GridAt w' base v n wide g M := h.kept (Kept.below hb) (fun _ _ h => h) (fun _ _ h => h)
theorem GridAt.congr {M' : Nat → Nat → B} (h : GridAt w base v n wide g M) (he : ∀ r j, r < n → j < wide → M r j = M' r j) : GridAt w base v n wide g M' :=
  ⟨h.outer, fun r hr => by rw [← rowL_congr (fun j hj => he r j hr hj)]; exact h.row r hr, h.ne, h.inj, h.low⟩
theorem GridAt.dr (h : GridAt w base v n wide g M) (q : Nat) : GridAt (w.drewN q) base v n wide g M := ⟨h.outer, h.row, h.ne, h.inj, h.low⟩
theorem GridAt.at' (h : GridAt w base v n wide g M) (h0 : 0 < n) : ∃ b c, v = .slice (some ⟨b, 0, none⟩) n c ∧ base ≤ b ∧ b < w.heap.size ∧ ∀ r, r < n → w.cell? ⟨b, r, none⟩ = some (gridV wide g r) := by
  obtain ⟨ho1, ho2⟩ := h.outer
  rcases ho2 with ⟨_, hz⟩ | ⟨b, c, cur, e, h2, h3, h4, h5, h6, h7⟩
  · omega
  · refine ⟨b, c, e, h2, (Array.getElem?_eq_some_iff.1 h3).1, fun r hr => ?_⟩
    have : ((List.range n).map (gridV wide g))[r]? = some (gridV wide g r) := by simp [hr]
    rw [← h7, List.getElem?_take, if_pos (by omega), Array.getElem?_toList] at this
    rw [cell_of h3, this]
theorem GridAt.shape (h : GridAt w base v n wide g M) : ∃ p c, v = .slice p n c := by
  obtain ⟨ho1, ho2⟩ := h.outer
  rcases ho2 with ⟨e, hz⟩ | ⟨b, c, cur, e, _⟩
  · subst hz; exact ⟨none, 0, e⟩
  · exact ⟨_, c, e⟩
theorem GridAt.rows (h : GridAt w base v n wide g M) : RowsAt w v ((List.range n).map fun r => rowL wide (M r)) := by
  refine RowsAt.of_owns (base := base) (us := (List.range n).map (gridV wide g)) (by simpa using h.outer) (fun i u hu => ?_)
  have hi : i < n := by
    have := (List.getElem?_eq_some_iff.1 hu).1
    simpa using this
  have e : u = gridV wide g i := by simpa [hi] using hu.symm
  subst e
  rw [getD_range _ _ hi]
  have := (h.row i hi).toBytes wide
  rw [rowL_len] at this
  exact this
/-- One byte is written. -/
theorem GridAt.set (h : GridAt w base v n wide g M) {r j : Nat} (hr : r < n) (hj : j < wide) (x : B) : GridAt (w.setCell ⟨g r, j, none⟩ (bv x)) base v n wide g (fun a b => if a = r ∧ b = j then x else M a b) := by
  have hk : Kept (fun i => i = g r) w (w.setCell ⟨g r, j, none⟩ (bv x)) := Kept.set1 _ _ _ _
  refine ⟨ownsRow_keptS h.outer hk (fun b hb e => h.ne r hr (by rw [hb, e])), fun s hs => ?_, h.ne, h.inj, h.low⟩
  by_cases e : s = r
  · subst e
    have := (h.row s hs).set (i := j) (by rw [rowL_len]; exact hj) x
    have e2 : (rowL wide (M s)).set j x = rowL wide (fun b => if s = s ∧ b = j then x else M s b) := by
      apply List.ext_getElem
      · simp [rowL]
      · intro i h1 h2
        simp [rowL] at h1
        rw [List.getElem_set]
        simp only [rowL, List.getElem_map, List.getElem_range, true_and]
        by_cases q : j = i
        · rw [if_pos q, if_pos q.symm]
        · rw [if_neg q, if_neg (fun z => q z.symm)]
    rw [← e2]; exact this
  · have e2 : rowL wide (fun b => if s = r ∧ b = j then x else M s b) = rowL wide (M s) := rowL_congr (fun b _ => if_neg (fun z => e z.1))
    rw [e2]
    exact (h.row s hs).kept hk (fun z => e (h.inj s r hs hr z))
end

theorem rrows_any (w : World) (n wide : Nat) (hn : n ≤ 255) (hw : wide ≤ 1000000) :
    Calls Tryz.prog 51 #[.int .i64 (n : Int), .int .i64 (wide : Int)] w fun e w' => ∃ v g, e = .returned v ∧ GridAt w' w.heap.size v n wide g (fun _ _ => 0) ∧ Below w.heap.size w w' := by
  go_enter Tryz.func51, Tryz.ntmps51
  go_wp2
  go_loopw [5, 6] (fun v i wr => ∃ (k : Nat) (g : Nat → Nat), k ≤ n ∧ i = .int .i64 (k : Int) ∧ GridAt wr w.heap.size v k wide g (fun _ _ => 0) ∧ (∀ r, r < k → g r < wr.heap.size) ∧ Below w.heap.size w wr) (fun _ i _ => n - (intOf i).toNat)
  case atStart => exact ⟨0, fun _ => 0, Nat.zero_le _, rfl, ⟨World.ownsRow_nil _ _ _ _, fun r h => absurd h (by omega), fun r h => absurd h (by omega), fun r s h => absurd h (by omega), fun r h => absurd h (by omega)⟩, fun r h => absurd h (by omega), Below.refl _ _⟩
  case round =>
    obtain ⟨k, g, hk, rfl, hG, hgs, hB⟩ := hrel
    have HG := Lib.hid hG
    have HGS := Lib.hid hgs
    have HBR := Lib.hid hB
    have hsr := hB.size
    by_cases hlt : k < n
    · have hmk := run_make_one (w := wr) 51 5 (.int .u8 0) 1 Tryz.underlying51 infoB rfl (by omega) wide (by omega)
      have hA := bal' wr (.cells (Array.replicate wide (.int .u8 0)) 5)
      have hO := ownsRow_keptS hG.outer (Kept.below hA) (fun _ _ h => h)
      have HO := Lib.hid hO
      have HA := Lib.hid hA
      have HF := Lib.hid (RowF.made wr wide)
      have HSA := Lib.hid (show (wr.alloc (.cells (Array.replicate wide (.int .u8 0)) 5)).heap.size = wr.heap.size + 1 by simp)
      clear hO hA hG hgs hB
      go_wp2_with (at_builtin; refine app_el 25 51 1 24 (.slice none 0 0) Tryz.underlying25 infoR rfl (by decide) rfl _ _ rfl w.heap.size k u5 _ rfl HO.out [.slice (some ⟨wr.heap.size, 0, none⟩) wide wide] rfl (one_slice _ _ _) (by rw [HSA.out]; rfl) (by omega) (by rw [HSA.out]; omega) ?_; intro g' c' w6 hR6 hk6 hs6 hg6)
      go_roundw
      case rel =>
        have hsa := HSA.out
        have hv : ∀ b, u5.ownBlock = some b → b < wr.heap.size := fun b hb => (HG.out.outer.lt b hb).2
        have hkk : Kept (fun b => u5.ownBlock = some b) wr w6 := ((Kept.below HA.out).mono (fun _ _ h => h.elim)).trans hk6 (fun _ _ h => h)
        refine ⟨k + 1, fun r => if r = k then wr.heap.size else g r, by omega, by go_num, ⟨?_, fun r hr => ?_, fun r hr => ?_, fun r s hr hs e => ?_, fun r hr => ?_⟩, fun r hr => ?_, HBR.out.trans (hkk.toBelow hsr (fun i hi => (HG.out.outer.lt i hi).1))⟩
        · have e : (List.range (k + 1)).map (gridV wide fun r => if r = k then wr.heap.size else g r) = (List.range k).map (gridV wide g) ++ [.slice (some ⟨wr.heap.size, 0, none⟩) wide wide] := by
            rw [List.range_succ, List.map_append]
            congr 1
            · apply List.map_congr_left
              intro r hr
              have := List.mem_range.1 hr
              show Value.slice (some ⟨if r = k then wr.heap.size else g r, 0, none⟩) wide wide = Value.slice (some ⟨g r, 0, none⟩) wide wide
              rw [if_neg (show ¬ r = k by omega)]
            · simp [gridV]
          rw [e]
          exact hR6
        · by_cases e : r = k
          · subst e
            simp only [if_true]
            have h0 : rowL wide (fun _ => (0 : B)) = List.replicate wide 0 := by apply List.ext_getElem <;> simp [rowL]
            rw [h0]
            exact HF.out.kept hk6 (fun hb => by have := hv _ hb; omega)
          · simp only [if_neg e]
            exact (HG.out.row r (by omega)).kept hkk (HG.out.ne r (by omega))
        · intro e
          have e' : g' = if r = k then wr.heap.size else g r := by simpa [Value.ownBlock] using e
          by_cases q : r = k
          · rw [if_pos q] at e'
            rcases hg6 with z | z
            · have := hv _ z; omega
            · omega
          · rw [if_neg q] at e'
            have h1 := HGS.out r (by omega)
            rcases hg6 with z | z
            · exact HG.out.ne r (by omega) (by rw [← e']; exact z)
            · omega
        · by_cases q1 : r = k <;> by_cases q2 : s = k
          · omega
          · rw [if_pos q1, if_neg q2] at e
            have h1 := HGS.out s (by omega)
            omega
          · rw [if_neg q1, if_pos q2] at e
            have h1 := HGS.out r (by omega)
            omega
          · rw [if_neg q1, if_neg q2] at e
            exact HG.out.inj r s (by omega) (by omega) e
        · by_cases q : r = k
          · simp only [if_pos q]; exact hsr
          · simp only [if_neg q]; exact HG.out.low r (by omega)
        · by_cases q : r = k
          · simp only [if_pos q]; omega
          · simp only [if_neg q]
            have h1 := HGS.out r (by omega)
            omega
      case measure => simp [intOf]; omega
    · obtain rfl : k = n := by omega
      clear hG hgs hB
      go_wp2
      go_ret
      exact ⟨_, g, rfl, HG.out, HBR.out⟩
end -- RefI

section -- RefJ
open Go.RowKit Go.Maps
set_option linter.unusedVariables false
set_option maxRecDepth 100000
set_option maxHeartbeats 4000000

/-- What is moved: place j of row r. -/
def movB (xs : List B) (ls : List (List B)) (ts : List B) (n : Nat) (r j : Nat) : B := sm n fun i => lag xs i (ts.getD r 0) * (ls.getD i []).getD j 0
def movL (xs : List B) (ls : List (List B)) (ts : List B) (n m wide : Nat) : List (List B) := (List.range m).map fun r => rowL wide (movB xs ls ts n r)
/-- .. as far as place p of row q. -/
def movP (xs : List B) (ls : List (List B)) (ts : List B) (n p q r j : Nat) : B := if j < p ∨ (j = p ∧ r < q) then movB xs ls ts n r j else 0

theorem BytesAt.cells {w : World} {p : Option Addr} {n c : Nat} {l : List B} (h : BytesAt w (.slice p n c) l) (hn : l.length = n) (h0 : 0 < n) : ∃ g off, p = some ⟨g, off, none⟩ ∧ ∀ i, i < n → w.cell? ⟨g, off + i, none⟩ = some (bv (l.getD i 0)) := by
  subst hn
  obtain ⟨p', c', e, hh⟩ := h
  simp only [Value.slice.injEq, true_and] at e
  obtain ⟨rfl, rfl⟩ := e
  exact hh h0

theorem rmoved_any (w : World) (vf vl vt : Value) (xs : List B) (ls : List (List B)) (ts : List B) (n m wide : Nat) (hf : BytesAt w vf xs) (hl : RowsAt w vl ls) (ht : BytesAt w vt ts) (hlx : xs.length = n) (hll : ls.length = n) (hlt : ts.length = m)
    (hn : xs.Nodup) (h1 : 1 ≤ n) (hs : n ≤ 255) (hm : m ≤ 255) (hwd : ∀ i, i < n → (ls.getD i []).length = wide) (hw : wide ≤ 1000000) :
    Calls Tryz.prog 36 #[vf, vl, vt] w fun e w' => ∃ v, e = .returned v ∧ RowsAt w' v (movL xs ls ts n m wide) ∧ Below w.heap.size w w' := by
  have HF := Lib.hid hf
  have HL := Lib.hid hl
  have HT := Lib.hid ht
  have HLX := Lib.hid hlx
  have HLL := Lib.hid hll
  have HLT := Lib.hid hlt
  have HN := Lib.hid hn
  have HWD := Lib.hid hwd
  obtain ⟨pf, cf, rfl⟩ := hf.shape
  obtain ⟨pt, ct, rfl⟩ := ht.shape
  obtain ⟨pl, cl, rfl, hh⟩ := hl
  rw [hlx] at HF ⊢
  rw [hlt] at HT ⊢
  rw [hll] at hh HL ⊢
  obtain ⟨gl, ol, rfl, hc⟩ := hh (by omega)
  have HC := Lib.hid hc
  have z0 := (hc 0 (by omega)).choose_spec
  obtain ⟨u0, z1, z2⟩ := hc 0 (by omega)
  rw [Nat.add_zero] at z1
  obtain ⟨p0, c0, rfl⟩ := z2.shape
  rw [hwd 0 (by omega)] at z1
  have lgl := blt z1
  clear hf ht hh hc z0 z2 hlx hll hlt hn hwd
  go_enter Tryz.func36, Tryz.ntmps36
  go_wp2_with fail
  refine (rrows_any w m wide hm hw).mono ?_
  rintro e w1 ⟨vg, g, rfl, hG, hB1⟩
  obtain ⟨pg, cg, rfl⟩ := hG.shape
  have HG := Lib.hid (hG.congr (M' := movP xs ls ts n 0 0) (fun r j _ _ => by unfold movP; rw [if_neg (by omega)]))
  have HB1 := Lib.hid hB1
  clear hG hB1
  go_wp2
  go_loopw [8, 9, 10, 11, 12, 13] (fun i _ _ _ _ _ wr => ∃ p : Nat, p ≤ wide ∧ i = .int .i64 (p : Int) ∧ GridAt wr w.heap.size (.slice pg m cg) m wide g (movP xs ls ts n p 0) ∧ Below w.heap.size w wr) (fun i _ _ _ _ _ _ => wide - (intOf i).toNat)
  case atStart => exact ⟨0, Nat.zero_le _, rfl, HG.out, HB1.out⟩
  case round =>
    obtain ⟨w0, rfl⟩ : ∃ w0, w0 = wr := ⟨_, rfl⟩
    obtain ⟨p, hp, rfl, hG, hB⟩ := hrel
    have HG0 := Lib.hid hG
    have HB0 := Lib.hid hB
    have hsz := hB.size
    have d0 := (hB.cell (p := ⟨gl, ol, none⟩) lgl).trans z1
    have HCW := Lib.hid (fun i (hi : i < n) => (show ∃ pu cu, w0.cell? ⟨gl, ol + i, none⟩ = some (.slice pu wide cu) ∧ BytesAt w0 (.slice pu wide cu) (ls.getD i []) from by
      obtain ⟨u, x1, x2⟩ := HC.out i hi
      obtain ⟨pu, cu, rfl⟩ := x2.shape
      rw [HWD.out i hi] at x1 x2
      exact ⟨pu, cu, (hB.cell (p := ⟨gl, ol + i, none⟩) (blt x1)).trans x1, x2.below hB⟩))
    have HFW := Lib.hid (HF.out.below hB)
    have HTW := Lib.hid (HT.out.below hB)
    clear hG hB
    by_cases hlt : p < wide
    · go_wp2
      go_loopw [9, 10] (fun v i wr => ∃ k : Nat, k ≤ n ∧ i = .int .i64 (k : Int) ∧ Own wr w0.heap.size v (rowL k fun i => (ls.getD i []).getD p 0) ∧ Below w0.heap.size w0 wr) (fun _ i _ => n - (intOf i).toNat)
      case atStart => exact ⟨0, Nat.zero_le _, rfl, Own.nil _ _, Below.refl _ _⟩
      case round =>
        obtain ⟨k, hk, rfl, ho, hB⟩ := hrel
        obtain ⟨pv, cv, rfl⟩ := ho.shape
        rw [rowL_len] at ho ⊢
        have HOV := Lib.hid ho
        have HBR := Lib.hid hB
        have hsr := hB.size
        clear ho
        by_cases hlt2 : k < n
        · obtain ⟨pu, cu, x1, x2⟩ := HCW.out k hlt2
          obtain ⟨gu, ou, rfl, hxx⟩ := x2.cells (HWD.out k hlt2) (by omega)
          have y := hxx p (by omega)
          have d1 := (hB.cell (p := ⟨gl, ol + k, none⟩) (blt x1)).trans x1
          have d2 := (hB.cell (p := ⟨gu, ou + p, none⟩) (blt y)).trans y
          have HS := Lib.hid (show rowL k (fun i => (ls.getD i []).getD p 0) ++ [(ls.getD k []).getD p 0] = rowL (k + 1) (fun i => (ls.getD i []).getD p 0) by simp [rowL, List.range_succ])
          obtain ⟨b, hb⟩ : ∃ b, (ls.getD k []).getD p 0 = b := ⟨_, rfl⟩
          rw [hb] at d2 HS
          clear hxx y x1 x2 hB hb
          go_wp2_with (at_builtin; refine app_own rfl _ _ rfl w0.heap.size k _ _ b (rowL_len _ _) HOV.out rfl rfl (by omega) hsr ?_; intro g' c' w6 hR6 hk6 hs6 hg6)
          go_roundw
          case rel =>
            refine ⟨k + 1, by omega, by go_num, by rw [← HS.out]; exact hR6, HBR.out.trans (hk6.toBelow hsr (fun i hi => (HOV.out.blk i hi).1))⟩
          case measure => simp [intOf]; omega
        · obtain rfl : k = n := by omega
          have HFR := Lib.hid (HFW.out.below hB)
          have HTR := Lib.hid (HTW.out.below hB)
          clear hB
          go_wp2_with fail
          refine (rvalues_any _ _ _ _ xs (rowL k fun i => (ls.getD i []).getD p 0) ts k m HFR.out HOV.out.bytes HTR.out HLX.out (rowL_len _ _) HLT.out HN.out (by omega) (by omega)).mono ?_
          rintro e w5 ⟨v5, rfl, hv5, hB5⟩
          obtain ⟨p5, c5, rfl⟩ := hv5.shape
          have hv5' := hv5
          rw [rowL_congr (g := fun j => movB xs ls ts k j p) (fun j hj => by
            unfold movB
            exact sm_congr (fun i hi => by rw [rowL_get _ hi]))] at hv5'
          rw [rowL_len] at hv5' ⊢
          have HV5 := Lib.hid hv5'
          have HB5 := Lib.hid (below_more HBR.out hB5 hsr)
          have HB50 := Lib.hid (below_more HB0.out HB5.out hsz)
          have HG5 := Lib.hid (HG0.out.below HB5.out)
          have HGL := Lib.hid (fun r (hr : r < m) => (HG0.out.row r hr).lt)
          have hs5 := HB5.out.size
          have hwv : ∀ b, (Value.slice p5 m c5).ownBlock = some b → w0.heap.size ≤ b := fun b hb => Nat.le_trans hsr (HV5.out.blk b hb).1
          have HWV := Lib.hid hwv
          clear hv5 hv5' hB5 hwv
          go_wp2
          go_loopw [13] (fun i wr => ∃ q : Nat, q ≤ m ∧ i = .int .i64 (q : Int) ∧ GridAt wr w.heap.size (.slice pg m cg) m wide g (movP xs ls ts k p q) ∧ Kept (fun b => ∃ r, r < m ∧ g r = b) w5 wr) (fun i _ => m - (intOf i).toNat)
          case atStart => exact ⟨0, Nat.zero_le _, rfl, HG5.out, Kept.refl _ _⟩
          case round =>
            obtain ⟨q, hq, rfl, hG, hK⟩ := hrel
            have HGR := Lib.hid hG
            have HKR := Lib.hid hK
            clear hG
            by_cases hlt3 : q < m
            · obtain ⟨bg, cg', e, hbg1, hbg2, hbg3⟩ := HGR.out.at' (by omega)
              cases e
              have d1 := hbg3 q hlt3
              unfold gridV at d1
              obtain ⟨g5, c5', e, hg5, hr5⟩ := HV5.out.row (by rw [rowL_len]; omega)
              rw [rowL_len] at e
              simp only [Value.slice.injEq, true_and] at e
              obtain ⟨rfl, rfl⟩ := e
              have y := hr5.cell (i := q) (by rw [rowL_len]; exact hlt3)
              rw [rowL_get _ hlt3] at y
              have hg50 : w0.heap.size ≤ g5 := HWV.out g5 rfl
              have d2 := (hK.cell (p := ⟨g5, q, none⟩) (blt y) (fun ⟨r, hr, e⟩ => by
                have := HGL.out r hr
                have e' : g r = g5 := e
                omega)).trans y
              have d3 := (HGR.out.row q hlt3).cell (i := p) (by rw [rowL_len]; exact hlt)
              rw [rowL_get _ hlt] at d3
              have d4 := (HGR.out.row q hlt3).fz p
              have HSet := Lib.hid (fun (W : World) (h : GridAt W w.heap.size (.slice (some ⟨bg, 0, none⟩) m cg) m wide g (movP xs ls ts k p q)) => (show GridAt (W.setCell ⟨g q, p, none⟩ (bv (movB xs ls ts k q p))) w.heap.size (.slice (some ⟨bg, 0, none⟩) m cg) m wide g (movP xs ls ts k p (q + 1)) from (h.set hlt3 hlt (movB xs ls ts k q p)).congr (fun r j hr hj => by
                show (if r = q ∧ j = p then movB xs ls ts k q p else movP xs ls ts k p q r j) = movP xs ls ts k p (q + 1) r j
                unfold movP
                by_cases e1 : r = q ∧ j = p
                · rw [if_pos e1, if_pos (by omega), e1.1, e1.2]
                · rw [if_neg e1]
                  by_cases e2 : j < p ∨ (j = p ∧ r < q)
                  · rw [if_pos e2, if_pos (by omega)]
                  · rw [if_neg e2, if_neg (by omega)])))
              obtain ⟨b, hb⟩ : ∃ b, movB xs ls ts k q p = b := ⟨_, rfl⟩
              rw [hb] at d2 HSet
              obtain ⟨b0, hb0⟩ : ∃ b0, movP xs ls ts k p q q p = b0 := ⟨_, rfl⟩
              rw [hb0] at d3
              have HQ := Lib.hid (show ∃ r, r < m ∧ g r = g q from ⟨q, hlt3, rfl⟩)
              clear hbg3 hr5 y hb hb0 hK
              go_wp2_with fail
              refine wp_quiet_store 10 (by kernel_rfl) (by kernel_rfl) ?_
              simp only [List.take_succ_cons, List.take_zero, List.drop_succ_cons, List.drop_zero]
              repeat (quiet_step (fail))
              refine wpQuiet_nil ?_
              rintro w7 ⟨nq, rfl⟩
              go_wp2
              refine calmQ.normal ?_
              go_wp2
              go_roundw
              case rel =>
                exact ⟨q + 1, by omega, by go_num, HSet.out _ (HGR.out.dr nq), (HKR.out.drewN nq).setCell' (p := ⟨g q, p, none⟩) HQ.out _⟩
              case measure => simp [intOf]; omega
            · obtain rfl : q = m := by omega
              have HG9 := Lib.hid (HGR.out.congr (M' := movP xs ls ts k (p + 1) 0) (fun r j hr hj => by
                unfold movP
                by_cases e2 : j < p ∨ (j = p ∧ r < q)
                · rw [if_pos e2, if_pos (by omega)]
                · rw [if_neg e2, if_neg (by omega)]))
              have HB9 := Lib.hid (HB50.out.trans (hK.toBelow (by have := HB50.out.size; omega) (fun i ⟨r, hr, e⟩ => by rw [← e]; exact HGR.out.low r hr)))
              clear hK
              go_wp2
              go_roundw
              case rel => exact ⟨p + 1, by omega, by go_num, HG9.out, HB9.out⟩
              case measure => simp [intOf]; omega
    · obtain rfl : p = wide := by omega
      have HR := Lib.hid (show RowsAt w0 (.slice pg m cg) (movL xs ls ts n m p) from by
        have := (HG0.out.congr (M' := movB xs ls ts n) (fun r j hr hj => by unfold movP; rw [if_pos (by omega)])).rows
        exact this)
      go_wp2
      go_ret
      exact ⟨_, rfl, HR.out, HB0.out⟩
end -- RefJ

section -- RefK
open Go.RowKit Go.Maps
set_option linter.unusedVariables false
set_option maxRecDepth 100000
set_option maxHeartbeats 4000000

theorem belowDrew {B : Nat} {a w : World} (h : Below B a w) : Below B a w.drew := ⟨h.os, h.tape, h.output, h.size, h.block⟩
theorem mov_row {xs ts : List B} {ls : List (List B)} {n wide r : Nat} {x : B} (hx : xs.length = n) (ht : ts.getD r 0 = x) : rowL wide (movB xs ls ts n r) = mixL (wtsL xs x) ls wide := by
  subst hx
  subst ht
  unfold rowL mixL
  refine List.map_congr_left (fun j _ => ?_)
  unfold movB
  rw [wtsL_len]
  exact sm_congr (fun i hi => by rw [wtsL_get hi]; grind)
theorem mov_enc {ls : List (List B)} {n k wide : Nat} : movL (ptsL k) ls (ptsL n) k n wide = encL n k ls wide :=
  List.map_congr_left (fun r hr => mov_row (ptsL_len k) (ptsL_get (List.mem_range.1 hr)))

theorem rencode_bad (w : World) {b n k : Nat} (hc : RCoderAt w b n k) (hk : 1 ≤ k) (hk2 : k ≤ 255) (vl : Value) (ls : List (List B)) (hl : RowsAt w vl ls) (hlen : ls.length ≤ 1000000000) (hb : (decide (ls.length = k) && evenB ls) = false) :
    Calls Tryz.prog 24 #[.pointer (some ⟨b, 0, none⟩), vl] w fun e w' => e = .returned (.tuple #[.slice none 0 0, .int .i64 2]) ∧ Below w.heap.size w w' := by
  have HS := Lib.hid (rsource_any w hc hk hk2 vl ls hl hlen)
  rw [hb] at HS
  obtain ⟨pl, cl, rfl⟩ := hl.shape
  clear hc hl hb
  go_enter Tryz.func24, Tryz.ntmps24
  go_wp2_with fail
  refine HS.out.mono ?_
  rintro e w' ⟨rfl, nq, rfl⟩
  go_wp2
  go_ret2
  exact ⟨rfl, belowDr (Below.refl _ _) nq⟩

theorem rencode_any (w : World) {b n k : Nat} (hc : RCoderAt w b n k) (hk : 1 ≤ k) (hkn : k ≤ n) (hn : n ≤ 255) (vl : Value) (ls : List (List B)) (wide : Nat) (hl : RowsAt w vl ls) (hln : ls.length = k) (hwd : ∀ i, i < ls.length → (ls.getD i []).length = wide) (hwb : wide ≤ 1000000) :
    Calls Tryz.prog 24 #[.pointer (some ⟨b, 0, none⟩), vl] w fun e w' => ∃ v, e = .returned (.tuple #[v, .int .i64 0]) ∧ RowsAt w' v (encL n k ls wide) ∧ Below w.heap.size w w' := by
  have HS := Lib.hid (rsource_any w hc hk (by omega) vl ls hl (by omega))
  rw [show (decide (ls.length = k) && evenB ls) = true by rw [hln, evenB_of hwd]; simp] at HS
  have HC := Lib.hid hc
  have HL := Lib.hid hl
  have HLN := Lib.hid hln
  have HWD := Lib.hid (show ∀ i, i < k → (ls.getD i []).length = wide by rw [← hln]; exact hwd)
  obtain ⟨pl, cl, rfl⟩ := hl.shape
  rw [hln] at HS HL ⊢
  clear hc hl hln hwd
  go_enter Tryz.func24, Tryz.ntmps24
  go_wp2_with fail
  refine HS.out.mono ?_
  rintro e w' ⟨rfl, nq, rfl⟩
  have HC1 := Lib.hid (show RCoderAt (w.drewN nq) b n k from HC.out)
  have HL1 := Lib.hid (show RowsAt (w.drewN nq) (.slice pl k cl) ls from HL.out)
  have HB1 := Lib.hid (belowDr (Below.refl w.heap.size w) nq)
  go_wp2_with fail
  generalize w.drewN nq = w1 at *
  have d0 : w1.drew.cell? ⟨b, 0, none⟩ = some (.int .i64 (n : Int)) := HC1.out.c0
  have d1 : w1.drew.cell? ⟨b, 1, none⟩ = some (.int .i64 (k : Int)) := HC1.out.c1
  have hbl : b < w1.drew.heap.size := HC1.out.lt
  go_region_held3 (fun w' => w'.cell? ⟨b, 0, none⟩ = some (.int .i64 (n : Int)) ∧ w'.cell? ⟨b, 1, none⟩ = some (.int .i64 (k : Int)))
    (first | with_reducible exact ⟨d0, d1⟩ | with_reducible exact ⟨y0, y1⟩ | with_reducible exact ⟨z0, z1⟩ | with_reducible exact ⟨x0, x1⟩)
    ((first
      | (go_at_call_of 37 (Value.int .i64 (k : Int)); refine (rpoints_any _ k (by omega)).mono ?_; rintro e w5 ⟨v5, rfl, ho5, hB5⟩; have HO5 := Lib.hid ho5; have hb5 := below_more (belowDrew HB1.out) hB5 HB1.out.size; have y0 := (hB5.cell (p := ⟨b, 0, none⟩) hbl).trans d0; have y1 := (hB5.cell (p := ⟨b, 1, none⟩) hbl).trans d1; have HL5 := Lib.hid (RowsAt.below (w := w1.drew) HL1.out hB5); have HB5 := Lib.hid hb5; have hs5 := hB5.size; obtain ⟨p5, c5, rfl⟩ := ho5.shape; clear ho5 hB5 hb5)
      | (go_at_call_of 37 (Value.int .i64 (n : Int)); refine (rpoints_any _ n (by omega)).mono ?_; rintro e w6 ⟨v6, rfl, ho6, hB6⟩; have HO6 := Lib.hid ho6; have hb6 := below_more HB5.out hB6 HB5.out.size; have z0 := (hB6.cell (p := ⟨b, 0, none⟩) (Nat.lt_of_lt_of_le hbl hs5)).trans y0; have z1 := (hB6.cell (p := ⟨b, 1, none⟩) (Nat.lt_of_lt_of_le hbl hs5)).trans y1; have HL6 := Lib.hid (HL5.out.below hB6); have HO56 := Lib.hid (HO5.out.below hB6); have HB6 := Lib.hid hb6; have hs6 := hB6.size; obtain ⟨p6, c6, rfl⟩ := ho6.shape; clear ho6 hB6 hb6)
      | (go_at_call 36; refine (rmoved_any _ _ _ _ (ptsL k) ls (ptsL n) k n wide (by exact HO56.out.bytes) (by exact HL6.out) (by exact HO6.out.bytes) (ptsL_len k) HLN.out (ptsL_len n) (ptsL_nodup (by omega)) hk (by omega) hn HWD.out hwb).mono ?_; rintro e w7 ⟨v7, rfl, hr7, hB7⟩; have x0 := (hB7.cell (p := ⟨b, 0, none⟩) (Nat.lt_of_lt_of_le (Nat.lt_of_lt_of_le hbl hs5) hs6)).trans z0; have x1 := (hB7.cell (p := ⟨b, 1, none⟩) (Nat.lt_of_lt_of_le (Nat.lt_of_lt_of_le hbl hs5) hs6)).trans z1; have HR7 := Lib.hid hr7; have HB7 := Lib.hid (below_more HB6.out hB7 HB6.out.size); clear hr7 hB7)))
  go_wp2
  go_ret2
  exact ⟨_, rfl, by rw [← mov_enc]; exact HR7.out, HB7.out⟩
end -- RefK

section -- RefL
open Go.RowKit Go.Maps
set_option linter.unusedVariables false
set_option maxRecDepth 100000
set_option maxHeartbeats 4000000

theorem rsymbol_any (w : World) {b n k : Nat} (hc : RCoderAt w b n k) (hk : 1 ≤ k) (hkn : k ≤ n) (hn : n ≤ 255) (vl : Value) (ls : List (List B)) (wide m : Nat) (hl : RowsAt w vl ls) (hln : ls.length = k) (hwd : ∀ i, i < ls.length → (ls.getD i []).length = wide) (hwb : wide ≤ 1000000) (hm : m < n) :
    Calls Tryz.prog 26 #[.pointer (some ⟨b, 0, none⟩), vl, .int .i64 (m : Int)] w fun e w' => ∃ v, e = .returned (.tuple #[v, .int .i64 0]) ∧ BytesAt w' v (mixL (wtsL (ptsL k) (ofB m)) ls wide) ∧ Below w.heap.size w w' := by
  have HS := Lib.hid (rsource_any w hc hk (by omega) vl ls hl (by omega))
  rw [show (decide (ls.length = k) && evenB ls) = true by rw [hln, evenB_of hwd]; simp] at HS
  have HC := Lib.hid hc
  have HL := Lib.hid hl
  have HLN := Lib.hid hln
  have HWD := Lib.hid (show ∀ i, i < k → (ls.getD i []).length = wide by rw [← hln]; exact hwd)
  obtain ⟨pl, cl, rfl⟩ := hl.shape
  rw [hln] at HS HL ⊢
  clear hc hl hln hwd
  go_enter Tryz.func26, Tryz.ntmps26
  go_wp2_with fail
  refine HS.out.mono ?_
  rintro e w' ⟨rfl, nq, rfl⟩
  have HC1 := Lib.hid (show RCoderAt (w.drewN nq) b n k from HC.out)
  have HL1 := Lib.hid (show RowsAt (w.drewN nq) (.slice pl k cl) ls from HL.out)
  have HB1 := Lib.hid (belowDr (Below.refl w.heap.size w) nq)
  generalize w.drewN nq = w1 at *
  have d0 := HC1.out.c0
  have d1 := HC1.out.c1
  have hm2 : m < 256 := by omega
  have hmn : ¬ (n : Int) ≤ (m : Int) := by omega
  go_wp2_with fail
  refine (rpoints_any _ k (by omega)).mono ?_
  rintro e w5 ⟨v5, rfl, ho5, hB5⟩
  have HO5 := Lib.hid (ho5.bytes.al (.cells #[bv ⟨m, hm2⟩] 5))
  have HLT := Lib.hid (lit_one w5 ⟨m, hm2⟩)
  have hA := bal' w5 (.cells #[bv ⟨m, hm2⟩] 5)
  have hB6 := below_more hB5 hA hB5.size
  have HL5 := Lib.hid (HL1.out.below hB6)
  have HB5 := Lib.hid (below_more HB1.out hB6 HB1.out.size)
  obtain ⟨p5, c5, rfl⟩ := ho5.shape
  clear ho5 hB5 hA hB6
  go_wp2_with fail
  refine (rmoved_any _ _ _ _ (ptsL k) ls [⟨m, hm2⟩] k 1 wide (by exact HO5.out) (by exact HL5.out) (by exact HLT.out) (ptsL_len k) HLN.out rfl (ptsL_nodup (by omega)) hk (by omega) (by omega) HWD.out hwb).mono ?_
  rintro e w7 ⟨v7, rfl, hr7, hB7⟩
  have HB7 := Lib.hid (below_more HB5.out hB7 HB5.out.size)
  obtain ⟨p7, c7, rfl, hh⟩ := hr7
  have hl1 : (movL (ptsL k) ls [⟨m, hm2⟩] k 1 wide).length = 1 := by simp [movL]
  rw [hl1] at hh ⊢
  obtain ⟨g7, o7, rfl, hcc⟩ := hh (by omega)
  obtain ⟨u, x1, x2⟩ := hcc 0 (by omega)
  have hu : BytesAt w7 u (mixL (wtsL (ptsL k) (ofB m)) ls wide) := by
    have e1 : (movL (ptsL k) ls [⟨m, hm2⟩] k 1 wide).getD 0 [] = mixL (wtsL (ptsL k) (ofB m)) ls wide := by
      show rowL wide (movB (ptsL k) ls [⟨m, hm2⟩] k 0) = _
      exact mov_row (ptsL_len k) (ofB_mk hm2)
    rw [← e1]; exact x2
  rw [Nat.add_zero] at x1
  have HU := Lib.hid hu
  clear hh hcc x2 hB7 hl1 hu
  go_wp2
  go_ret2
  exact ⟨_, rfl, HU.out, HB7.out⟩

theorem rsymbol_bad (w : World) {b n k : Nat} (hc : RCoderAt w b n k) (hk : 1 ≤ k) (hk2 : k ≤ 255) (vl : Value) (ls : List (List B)) (x : Int) (hl : RowsAt w vl ls) (hlen : ls.length ≤ 1000000000) (hb : (decide (ls.length = k) && evenB ls) = false ∨ x < 0 ∨ (n : Int) ≤ x) :
    Calls Tryz.prog 26 #[.pointer (some ⟨b, 0, none⟩), vl, .int .i64 x] w fun e w' => e = .returned (.tuple #[.slice none 0 0, .int .i64 2]) ∧ Below w.heap.size w w' := by
  have HS := Lib.hid (rsource_any w hc hk hk2 vl ls hl hlen)
  have d0 := hc.c0
  obtain ⟨pl, cl, rfl⟩ := hl.shape
  obtain ⟨r, hr⟩ : ∃ r, (decide (ls.length = k) && evenB ls) = r := ⟨_, rfl⟩
  rw [hr] at HS hb
  clear hc hl hr
  go_enter Tryz.func26, Tryz.ntmps26
  go_wp2_with fail
  refine HS.out.mono ?_
  rintro e w' ⟨rfl, nq, rfl⟩
  have HBD := Lib.hid (belowDr (Below.refl w.heap.size w) nq)
  cases r with
  | false =>
    clear hb
    go_wp2
    go_ret2
    exact ⟨rfl, HBD.out⟩
  | true =>
    have hx : x < 0 ∨ (n : Int) ≤ x := by simpa using hb
    clear hb
    by_cases h0 : x < 0
    · clear hx
      go_wp2
      go_ret2
      exact ⟨rfl, HBD.out⟩
    · have hx2 : (n : Int) ≤ x := by omega
      clear hx
      go_wp2
      go_ret2
      exact ⟨rfl, HBD.out⟩

theorem sym_bad (w : World) {bc n k bf : Nat} {vt : Value} (hc : CoderAt w bc n k bf vt) (vl : Value) (ls : List (List B)) (x : Int) (hx1 : -9223372036854775808 ≤ x) (hx2 : x < 9223372036854775808) (hl : RowsAt w vl ls) (hlen : ls.length ≤ 1000000000) (hb : (decide (ls.length = k) && evenB ls) = false ∨ x < 0 ∨ (n : Int) ≤ x) :
    Calls Tryz.prog 25 #[.pointer (some ⟨bc, 0, none⟩), vl, .int .i64 x] w fun e w' => e = .returned (.tuple #[.slice none 0 0, .int .i64 2]) ∧ Below w.heap.size w w' := by
  have HC := Lib.hid hc
  have HL := Lib.hid hl
  have h1 := hc.k1
  have h2 := hc.kn
  have h3 := hc.n255
  obtain ⟨r, hr⟩ : ∃ r, (decide (ls.length = k) && evenB ls) = r := ⟨_, rfl⟩
  rw [hr] at hb
  have HR := Lib.hid hr
  obtain ⟨pl, cl, rfl⟩ := hl.shape
  clear hc hl hr
  go_enter Tryz.func25, Tryz.ntmps25
  go_wp2_with fail
  refine (there_yes w HC.out).mono ?_
  rintro e w' ⟨rfl, rfl⟩
  go_wp2_with fail
  refine (right_any w HC.out _ ls HL.out hlen).mono ?_
  rintro e w1 ⟨rfl, hB1⟩
  rw [HR.out]
  have HC1 := Lib.hid (HC.out.below hB1)
  have HB1 := Lib.hid hB1
  have c1 := HC1.out.c1
  obtain ⟨pt, ct, hvt, hh⟩ := HC1.out.table
  rw [tblL_len] at hvt
  subst hvt
  clear hB1 hh
  cases r with
  | false =>
    clear hb
    go_wp2
    go_ret2
    exact ⟨rfl, HB1.out⟩
  | true =>
    have hx : x < 0 ∨ (n : Int) ≤ x := by simpa using hb
    clear hb
    by_cases h0 : x < 0
    · have hw : IntKind.u64.wrap x = x % 18446744073709551616 := by simp [IntKind.wrap, IntKind.bits, IntKind.signed]
      have hu : (n : Int) ≤ IntKind.u64.wrap x := by rw [hw]; omega
      have hu2 : ¬ IntKind.u64.wrap x < (n : Int) := by omega
      clear hx hw
      go_wp2
      go_ret2
      exact ⟨rfl, HB1.out⟩
    · have hx2 : (n : Int) ≤ x := by omega
      clear hx
      go_wp2
      go_ret2
      exact ⟨rfl, HB1.out⟩
end -- RefL

section -- RefM
open Go.RowKit Go.Maps
set_option linter.unusedVariables false
set_option maxRecDepth 100000
set_option maxHeartbeats 4000000

theorem take_snocI {xs : List Int} {m : Nat} (h : m < xs.length) : xs.take (m + 1) = xs.take m ++ [xs.getD m 0] := by
  rw [List.take_succ_eq_append_getElem h, List.getD_eq_getElem?_getD, List.getElem?_eq_getElem h]; rfl
theorem getI {xs : List Int} {i : Nat} (h : i < xs.length) : xs.getD i 0 = xs[i] := by rw [List.getD_eq_getElem?_getD, List.getElem?_eq_getElem h]; rfl
theorem nodup_take {xs : List Int} {m : Nat} (h : m < xs.length) : ¬ (xs.take (m + 1)).Nodup ↔ (¬ (xs.take m).Nodup ∨ ∃ j, j < m ∧ xs.getD j 0 = xs.getD m 0) := by
  have hmem : xs.getD m 0 ∈ xs.take m ↔ ∃ j, j < m ∧ xs.getD j 0 = xs.getD m 0 := by
    constructor
    · intro hh
      obtain ⟨j, hj, e⟩ := List.mem_iff_getElem.1 hh
      have hj' : j < m := by rw [List.length_take] at hj; omega
      refine ⟨j, hj', ?_⟩
      rw [List.getElem_take] at e
      rw [← e, getI (by omega)]
    · rintro ⟨j, hj, e⟩
      rw [← e, List.mem_iff_getElem]
      refine ⟨j, by simp; omega, ?_⟩
      rw [List.getElem_take, getI (by omega)]
  rw [take_snocI h, List.nodup_append, ← hmem]
  by_cases h1 : (xs.take m).Nodup <;> by_cases h2 : xs.getD m 0 ∈ xs.take m
  · simp only [h1, h2, true_and, not_true, false_or, iff_true]
    intro ⟨_, q⟩
    exact q _ h2 _ (by simp) rfl
  · simp only [h1, h2, true_and, not_true, or_self, iff_false, Classical.not_not]
    refine ⟨by simp, fun a ha b hb e => h2 ?_⟩
    rw [List.mem_singleton] at hb
    rw [← hb, ← e]; exact ha
  · simp [h1]
  · simp [h1]

theorem askE_arg {n k : Nat} {xs : List Int} {m : Nat} (h : m < xs.length) (hx : xs.getD m 0 < 0 ∨ (n : Int) ≤ xs.getD m 0) : askE n k xs = 2 := by
  unfold askE
  rw [if_neg]
  intro hh
  rw [List.all_eq_true] at hh
  have := hh (xs.getD m 0) (by rw [List.getD_eq_getElem?_getD, List.getElem?_eq_getElem h]; exact List.getElem_mem h)
  simp only [Bool.and_eq_true, decide_eq_true_eq] at this
  omega
theorem askE_in {n k : Nat} {xs : List Int} (h : ∀ j, j < xs.length → 0 ≤ xs.getD j 0 ∧ xs.getD j 0 < n) : askE n k xs = if xs.Nodup then (if xs.length < k then 8 else 0) else 9 := by
  unfold askE
  rw [if_pos]
  rw [List.all_eq_true]
  intro x hx
  obtain ⟨j, hj, rfl⟩ := List.mem_iff_getElem.1 hx
  have := h j hj
  rw [List.getD_eq_getElem?_getD, List.getElem?_eq_getElem hj] at this
  simp at this ⊢
  exact this

theorem rasked_any (w : World) {b n k : Nat} (hc : RCoderAt w b n k) (v : Value) (xs : List Int) (hv : IntsAt w v xs) (hl : xs.length ≤ 1000000) :
    Calls Tryz.prog 35 #[.pointer (some ⟨b, 0, none⟩), v] w fun e w' => e = .returned (.int .i64 (askE n k xs)) ∧ ∃ q, w' = w.drewN q := by
  have d0 := hc.c0
  have d1 := hc.c1
  obtain ⟨p, cap, rfl, hcap, hh⟩ := hv
  have HH := Lib.hid hh
  obtain ⟨L, hL⟩ : ∃ L, xs.length = L := ⟨_, rfl⟩
  rw [hL] at HH hcap hl ⊢
  have HL := Lib.hid hL
  obtain ⟨r, hr⟩ : ∃ r, askE n k xs = r := ⟨_, rfl⟩
  rw [hr]
  have HR := Lib.hid hr
  clear hh hc hL hr
  go_enter Tryz.func35, Tryz.ntmps35
  go_wp2
  go_loopw [5, 6, 7] (fun t i _ wr => ∃ (m q : Nat) (tw : Bool), m ≤ L ∧ i = .int .i64 (m : Int) ∧ t = .bool tw ∧ (tw = true ↔ ¬ (xs.take m).Nodup) ∧ (∀ j, j < m → 0 ≤ xs.getD j 0 ∧ xs.getD j 0 < n) ∧ wr = w.drewN q) (fun _ i _ _ => L - (intOf i).toNat)
  case atStart => exact ⟨0, 0, false, Nat.zero_le _, rfl, rfl, by simp, fun j h => absurd h (by omega), rfl⟩
  case round =>
    obtain ⟨m, q, tw, hm, rfl, rfl, htw, hin, rfl⟩ := hrel
    have HTW := Lib.hid htw
    have HIN := Lib.hid hin
    clear htw hin
    by_cases hlt : m < L
    · obtain ⟨g, off, rfl, hcc⟩ := HH.out (by omega)
      have HC := Lib.hid hcc
      have x0 := hcc m hlt
      obtain ⟨x, hx⟩ : ∃ x, xs.getD m 0 = x := ⟨_, rfl⟩
      rw [hx] at x0
      have HX := Lib.hid hx
      clear hcc hx
      by_cases h0 : x < 0
      · have HE := Lib.hid (show r = 2 by rw [← HR.out]; exact askE_arg (m := m) (by rw [HL.out]; exact hlt) (.inl (by rw [HX.out]; exact h0)))
        go_wp2_with fail
        go_quiet (fail)
        go_wp2
        go_ret
        exact ⟨by rw [HE.out]; rfl, _, by first | rfl | rw [World.drewN_drewN]⟩
      · by_cases hn : (n : Int) ≤ x
        · have HE := Lib.hid (show r = 2 by rw [← HR.out]; exact askE_arg (m := m) (by rw [HL.out]; exact hlt) (.inr (by rw [HX.out]; exact hn)))
          go_wp2_with fail
          go_quiet (fail)
          go_wp2
          go_ret
          exact ⟨by rw [HE.out]; rfl, _, by first | rfl | rw [World.drewN_drewN]⟩
        · go_wp2_with fail
          go_quiet (fail)
          go_wp2
          go_loopw [5, 7] (fun t i wr => ∃ (j q : Nat) (tw : Bool), j ≤ m ∧ i = .int .i64 (j : Int) ∧ t = .bool tw ∧ (tw = true ↔ ¬ (xs.take m).Nodup ∨ ∃ a, a < j ∧ xs.getD a 0 = x) ∧ wr = w.drewN q) (fun _ i _ => m - (intOf i).toNat)
          case atStart => exact ⟨0, q + nq, tw, Nat.zero_le _, rfl, rfl, by rw [HTW.out]; simp, by first | rfl | rw [World.drewN_drewN]⟩
          case round =>
            obtain ⟨j, q2, t2, hj, rfl, rfl, ht2, rfl⟩ := hrel
            have HT2 := Lib.hid ht2
            clear ht2
            by_cases hlt2 : j < m
            · have y0 := HC.out j (by omega)
              obtain ⟨y, hy⟩ : ∃ y, xs.getD j 0 = y := ⟨_, rfl⟩
              rw [hy] at y0
              have HY := Lib.hid hy
              clear hy
              cases t2 with
              | true =>
                go_wp2_with fail
                go_quiet (fail)
                go_wp2
                go_roundw
                case rel => exact ⟨j + 1, _, true, by omega, by go_num, rfl, by
                  simp only [true_iff]
                  rcases HT2.out.1 (by simp) with h | ⟨a, h1, h2⟩
                  · exact .inl h
                  · exact .inr ⟨a, by omega, h2⟩, by first | rfl | rw [World.drewN_drewN]⟩
                case measure => simp [intOf]; omega
              | false =>
                by_cases hyx : y = x
                · subst hyx
                  go_wp2_with fail
                  go_quiet (fail)
                  go_wp2
                  go_roundw
                  case rel => exact ⟨j + 1, _, true, by omega, by go_num, by simp, by
                    simp only [true_iff]
                    exact .inr ⟨j, by omega, HY.out⟩, by first | rfl | rw [World.drewN_drewN]⟩
                  case measure => simp [intOf]; omega
                · have hyx2 : (y == x) = false := by simpa using hyx
                  go_wp2_with fail
                  go_quiet (fail)
                  go_wp2
                  go_roundw
                  case rel => exact ⟨j + 1, _, false, by omega, by go_num, by simp, by
                    simp only [Bool.false_eq_true, false_iff]
                    intro h
                    refine absurd (HT2.out.2 ?_) (by simp)
                    rcases h with h | ⟨a, h1, h2⟩
                    · exact .inl h
                    · by_cases e : a = j
                      · subst e; exact absurd (HY.out.symm.trans h2) hyx
                      · exact .inr ⟨a, by omega, h2⟩, by first | rfl | rw [World.drewN_drewN]⟩
                  case measure => simp [intOf]; omega
            · obtain rfl : j = m := by omega
              have HN := Lib.hid (show t2 = true ↔ ¬ (xs.take (j + 1)).Nodup by rw [HT2.out, nodup_take (by rw [HL.out]; exact hlt), HX.out])
              have HI2 := Lib.hid (show ∀ a, a < j + 1 → 0 ≤ xs.getD a 0 ∧ xs.getD a 0 < n from fun a ha => by
                by_cases e : a = j
                · rw [e, HX.out]; omega
                · exact HIN.out a (by omega))
              go_wp2
              go_roundw
              case rel => exact ⟨j + 1, q2, t2, by omega, by go_num, rfl, HN.out, HI2.out, rfl⟩
              case measure => simp [intOf]; omega
    · obtain rfl : m = L := by omega
      have HE := Lib.hid (show r = if xs.Nodup then (if xs.length < k then 8 else 0) else 9 by rw [← HR.out]; exact askE_in (fun j hj => HIN.out j (by rw [← HL.out]; exact hj)))
      have HTK := Lib.hid (show xs.take m = xs by rw [← HL.out, List.take_length])
      cases tw with
      | true =>
        have HE2 := Lib.hid (show r = 9 by rw [HE.out, if_neg (by have := HTW.out.1 (by simp); rwa [HTK.out] at this)])
        go_wp2
        go_ret
        exact ⟨by rw [HE2.out]; rfl, q, rfl⟩
      | false =>
        have hnd : xs.Nodup := by
          have := HTW.out
          rw [HTK.out] at this
          by_cases e : xs.Nodup
          · exact e
          · exact absurd (this.2 e) (by simp)
        by_cases hk : m < k
        · have HE2 := Lib.hid (show r = 8 by rw [HE.out, if_pos hnd, if_pos (by rw [HL.out]; exact hk)])
          clear hnd
          go_wp2
          go_ret
          exact ⟨by rw [HE2.out]; rfl, q, rfl⟩
        · have HE2 := Lib.hid (show r = 0 by rw [HE.out, if_pos hnd, if_neg (by rw [HL.out]; exact hk)])
          clear hnd
          go_wp2
          go_ret
          exact ⟨by rw [HE2.out]; rfl, q, rfl⟩
end -- RefM

section -- RefN
open Go.RowKit Go.Maps
set_option linter.unusedVariables false
set_option maxRecDepth 100000
set_option maxHeartbeats 4000000

theorem idxB_snoc {m : Nat} {xs : List Int} (h : m < xs.length) : idxB (xs.take m) ++ [ofB (xs.getD m 0).toNat] = idxB (xs.take (m + 1)) := by
  rw [take_snocI h]; simp [idxB]
theorem turnL_len (k : Nat) (ys : List B) : (turnL k ys).length = k := by simp [turnL]
theorem turnL_succ (k : Nat) (ys : List B) : turnL (k + 1) ys = turnL k ys ++ [wtsL ys (ofB k)] := by simp [turnL, List.range_succ]

theorem rturn_any (w : World) {b n k : Nat} (hc : RCoderAt w b n k) (hk : 1 ≤ k) (hkn : k ≤ n) (hn : n ≤ 255) (v : Value) (xs : List Int) (hv : IntsAt w v xs) (hl : xs.length ≤ 1000000) :
    Calls Tryz.prog 17 #[.pointer (some ⟨b, 0, none⟩), v] w fun e w' => ∃ v, e = .returned (.tuple #[v, .int .i64 (askE n k xs)]) ∧ (askE n k xs = 0 → RowsAt w' v (turnL k (idxB (xs.take k)))) ∧ (askE n k xs ≠ 0 → v = .slice none 0 0) ∧ Below w.heap.size w w' := by
  have HA := Lib.hid (rasked_any w hc v xs hv hl)
  have HC := Lib.hid hc
  have HV := Lib.hid hv
  obtain ⟨r, hr⟩ : ∃ r, askE n k xs = r := ⟨_, rfl⟩
  rw [hr] at HA ⊢
  have HR := Lib.hid hr
  obtain ⟨p, cap, rfl, hcap, hh⟩ := hv
  have HH := Lib.hid hh
  clear hh hr hc
  go_enter Tryz.func17, Tryz.ntmps17
  go_wp2_with fail
  refine HA.out.mono ?_
  rintro e w' ⟨rfl, q, rfl⟩
  have HC1 := Lib.hid (show RCoderAt (w.drewN q) b n k from HC.out)
  have HB1 := Lib.hid (belowDr (Below.refl w.heap.size w) q)
  by_cases hr0 : r = 0
  rotate_left
  · have hr1 : (r == 0) = false := by simpa using hr0
    have HR0 := Lib.hid hr0
    clear hr0
    go_wp2
    go_ret2
    exact ⟨_, rfl, fun h => absurd h HR0.out, fun _ => rfl, HB1.out⟩
  · subst hr0
    have HO := Lib.hid (askE_zero HR.out)
    have hkl := HO.out.len
    have HVV := Lib.hid (fun i (hi : i < xs.length) => HO.out.getD hi)
    have HHH := Lib.hid (show 0 < xs.length → ∃ g off, p = some ⟨g, off, none⟩ ∧ ∀ i, i < xs.length → (w.drewN q).cell? ⟨g, off + i, none⟩ = some (.int .i64 (xs.getD i 0)) from HH.out)
    clear HH
    obtain ⟨g, off, rfl, hcc⟩ := HHH.out (by omega)
    have HCC := Lib.hid hcc
    have d1 := HC1.out.c1
    have hbl := HC1.out.lt
    have HSZ := Lib.hid (show (w.drewN q).heap.size = w.heap.size from rfl)
    have HNI := Lib.hid (show xs.length ≤ cap from hcap)
    clear hcc
    go_wp2
    generalize w.drewN q = w1 at *
    go_loopw [7, 8] (fun v i wr => ∃ m : Nat, m ≤ k ∧ i = .int .i64 (m : Int) ∧ Own wr w1.heap.size v (idxB (xs.take m)) ∧ Below w1.heap.size w1 wr) (fun _ i _ => k - (intOf i).toNat)
    case atStart => exact ⟨0, Nat.zero_le _, rfl, Own.nil _ _, Below.refl _ _⟩
    case round =>
      obtain ⟨w0, rfl⟩ : ∃ w0, w0 = wr := ⟨_, rfl⟩
      obtain ⟨m, hm, rfl, ho, hB⟩ := hrel
      have hol : (idxB (xs.take m)).length = m := by rw [idxB_len, List.length_take]; omega
      obtain ⟨pv, cv, rfl⟩ := ho.shape
      rw [hol]
      rw [hol] at ho
      have HOL := Lib.hid hol
      have HOV := Lib.hid ho
      have HBR := Lib.hid hB
      have hsr := hB.size
      have d1r := (hB.cell (p := ⟨b, 1, none⟩) hbl).trans d1
      clear ho hol
      by_cases hlt : m < k
      · have z := HCC.out m (by omega)
        have d2 := (hB.cell (p := ⟨g, off + m, none⟩) (blt z)).trans z
        have hx := HVV.out m (by omega)
        have HS := Lib.hid (idxB_snoc (xs := xs) (m := m) (by omega))
        obtain ⟨x, hxx⟩ : ∃ x, xs.getD m 0 = x := ⟨_, rfl⟩
        rw [hxx] at d2 hx HS
        obtain ⟨y, rfl⟩ := Int.eq_ofNat_of_zero_le hx.1
        have hy2 : y < 256 := by omega
        have HY := Lib.hid (show (⟨y, hy2⟩ : B) = ofB (Int.toNat (y : Int)) by rw [ofB_mk]; rfl)
        clear z hB hxx
        go_wp2_with (at_builtin; refine app_own rfl _ _ rfl w1.heap.size m _ _ ⟨y, hy2⟩ HOL.out HOV.out rfl rfl (by omega) hsr ?_; intro g' c' w6 hR6 hk6 hs6 hg6)
        go_roundw
        case rel =>
          refine ⟨m + 1, by omega, by go_num, by rw [← HS.out, ← HY.out]; exact hR6, HBR.out.trans (hk6.toBelow hsr (fun i hi => (HOV.out.blk i hi).1))⟩
        case measure => simp [intOf]; omega
      · obtain rfl : m = k := by omega
        have HND := Lib.hid (idxB_nodup HO.out hn m)
        clear hB
        go_wp2
        go_loopw [9, 10, 11, 12] (fun v i _ _ wr => ∃ t : Nat, t ≤ m ∧ i = .int .i64 (t : Int) ∧ RowsOwn wr w0.heap.size v (turnL t (idxB (xs.take m))) ∧ Below w0.heap.size w0 wr) (fun _ i _ _ _ => m - (intOf i).toNat)
        case atStart => exact ⟨0, Nat.zero_le _, rfl, RowsOwn.nil _ _, Below.refl _ _⟩
        case round =>
          obtain ⟨t, ht, rfl, ho, hB⟩ := hrel
          have HRO := Lib.hid ho
          have HBT := Lib.hid hB
          have hst := hB.size
          have d1t := (hB.cell (p := ⟨b, 1, none⟩) (blt d1r)).trans d1r
          have HOT := Lib.hid (HOV.out.below hB)
          clear ho hB
          by_cases hlt2 : t < m
          · have ht2 : t < 256 := by omega
            have HTT := Lib.hid (ofB_mk ht2)
            go_wp2_with fail
            refine (rweights_any _ _ _ m ⟨t, ht2⟩ HOT.out.bytes HOL.out HND.out (by omega)).mono ?_
            rintro e w5 ⟨v5, rfl, ho5, hB5⟩
            obtain ⟨p5, c5, rfl⟩ := ho5.shape
            have hwl : (wtsL (idxB (xs.take m)) ⟨t, ht2⟩).length = m := by rw [wtsL_len, HOL.out]
            have HLV := Lib.hid HRO.out.lt
            have HBY := Lib.hid ho5.bytes
            have HBK := Lib.hid (fun b (hb : (Value.slice p5 (wtsL (idxB (xs.take m)) ⟨t, ht2⟩).length c5).ownBlock = some b) => ho5.blk b hb)
            have HR5 := Lib.hid (HRO.out.below hB5)
            have HB6 := Lib.hid (below_more HBT.out hB5 hst)
            have hs5 := hB5.size
            rw [hwl] at HBY HBK ⊢
            clear ho5 hB5 hwl
            go_wp2_with (at_builtin; refine app_row rfl _ _ rfl w0.heap.size t _ _ (turnL_len _ _) rfl HR5.out (.slice p5 m c5) _ HBY.out (fun b hb => ⟨(HBK.out b hb).2, fun h => by have := (HLV.out _ h).2; have := (HBK.out b hb).1; omega⟩) rfl rfl (by omega) (by omega) ?_; intro g' c' w6 hR6 hk6 hs6 hg6)
            go_roundw
            case rel =>
              refine ⟨t + 1, by omega, by go_num, by rw [turnL_succ, ← HTT.out]; exact hR6, HB6.out.trans (hk6.toBelow (by omega) (fun i h => (HLV.out i h).1))⟩
            case measure => simp [intOf]; omega
          · obtain rfl : t = m := by omega
            go_wp2
            go_ret2
            exact ⟨_, rfl, HRO.out.rows, by
              have := below_more HBR.out HBT.out HBR.out.size
              exact below_more HB1.out this HB1.out.size⟩
end -- RefN

section -- RefO
open Go.RowKit Go.Maps
set_option linter.unusedVariables false
set_option maxRecDepth 100000
set_option maxHeartbeats 4000000

theorem hIdx_len (hs : List (Int × List B)) : (hIdx hs).length = hs.length := by simp [hIdx]
theorem hRow_len (hs : List (Int × List B)) : (hRow hs).length = hs.length := by simp [hRow]
theorem hIdx_get {hs : List (Int × List B)} {i : Nat} (h : i < hs.length) : (hIdx hs).getD i 0 = (hs.getD i (0, [])).1 := by
  simp [hIdx, List.getD_eq_getElem?_getD, List.getElem?_eq_getElem h]
theorem hRow_get {hs : List (Int × List B)} {i : Nat} (h : i < hs.length) : (hRow hs).getD i [] = (hs.getD i (0, [])).2 := by
  simp [hRow, List.getD_eq_getElem?_getD, List.getElem?_eq_getElem h]
theorem getD_take {α : Type} {l : List α} {k i : Nat} {d : α} (h : i < k) : (l.take k).getD i d = l.getD i d := by
  rw [List.getD_eq_getElem?_getD, List.getD_eq_getElem?_getD, List.getElem?_take, if_pos h]
theorem mixL_take {ws : List B} {l : List (List B)} {k wide : Nat} (h : ws.length = k) : mixL ws (l.take k) wide = mixL ws l wide := by
  unfold mixL
  refine List.map_congr_left (fun j _ => sm_congr (fun i hi => ?_))
  rw [getD_take (by omega)]
theorem mov_dec {ys : List B} {l : List (List B)} {k wide : Nat} (hy : ys.length = k) : movL ys (l.take k) (ptsL k) k k wide = decL k ys l wide := by
  rw [decL_eq]
  unfold movL decP
  refine List.map_congr_left (fun r hr => ?_)
  rw [mov_row hy (ptsL_get (List.mem_range.1 hr)), mixL_take (by rw [wtsL_len]; exact hy)]
theorem one_int (x : Int) : ∀ u ∈ [Value.int .i64 x], u.oneCell' = true := by simp [Value.oneCell']

theorem rdecode_any (w : World) {b n k : Nat} (hc : RCoderAt w b n k) (hk : 1 ≤ k) (hkn : k ≤ n) (hn : n ≤ 255) (v : Value) (hs : List (Int × List B)) (wide : Nat) (hv : HeldAt w v hs) (hl : hs.length ≤ 1000000) (hw0 : (hs.getD 0 (0, [])).2.length = wide) (hwb : wide ≤ 1000000) :
    Calls Tryz.prog 14 #[.pointer (some ⟨b, 0, none⟩), v] w fun e w' => ∃ v, e = .returned (.tuple #[v, .int .i64 (decE n k hs)]) ∧ (decE n k hs = 0 → RowsAt w' v (decL k (idxB ((hIdx hs).take k)) (hRow hs) wide)) ∧ (decE n k hs ≠ 0 → v = .slice none 0 0) ∧ Below w.heap.size w w' := by
  have HC := Lib.hid hc
  have HW0 := Lib.hid hw0
  obtain ⟨r, hr⟩ : ∃ r, decE n k hs = r := ⟨_, rfl⟩
  rw [hr]
  have HR := Lib.hid hr
  obtain ⟨L, hL⟩ : ∃ L, hs.length = L := ⟨_, rfl⟩
  obtain ⟨p, cap, rfl, hcap, hh⟩ := hv
  rw [hL] at hh hcap hl ⊢
  have HL := Lib.hid hL
  have HHH := Lib.hid hh
  clear hc hh hw0 hr hL
  go_enter Tryz.func14, Tryz.ntmps14
  go_wp2
  go_loopw [6, 7] (fun vi i wr => ∃ m : Nat, m ≤ L ∧ i = .int .i64 (m : Int) ∧ wr.ownsRow w.heap.size 3 1 vi m ((hIdx (hs.take m)).map (Value.int .i64)) ∧ Below w.heap.size w wr) (fun _ i _ => L - (intOf i).toNat)
  case atStart => exact ⟨0, Nat.zero_le _, rfl, World.ownsRow_nil _ _ _ _, Below.refl _ _⟩
  case round =>
    obtain ⟨w1, rfl⟩ : ∃ w1, w1 = wr := ⟨_, rfl⟩
    obtain ⟨m, hm, rfl, ho, hB⟩ := hrel
    have HI := Lib.hid ho
    have HB := Lib.hid hB
    have hsr := hB.size
    clear ho
    by_cases hlt : m < L
    · obtain ⟨gh, oh, rfl, hhc⟩ := HHH.out (by omega)
      have x1 := (hhc m hlt).1
      have y1 := (hB.cell (p := ⟨gh, oh + m * 2, none⟩) (blt x1)).trans x1
      have HS1 := Lib.hid (hIdx_snoc (hs := hs) (m := m) (by rw [HL.out]; exact hlt))
      obtain ⟨ix, hix⟩ : ∃ ix, (hs.getD m (0, [])).1 = ix := ⟨_, rfl⟩
      rw [hix] at y1 HS1
      clear hhc x1 hix hB
      go_wp2_with (at_builtin; refine app_el 23 3 1 8 (.int .i64 0) Tryz.underlying23 infoI rfl (by decide) rfl _ _ rfl w.heap.size m u6 _ rfl HI.out [.int .i64 ix] rfl (one_int ix) rfl (by omega) hsr ?_; intro g' c' w6 hR6 hk6 hs6 hg6)
      go_roundw
      case rel =>
        refine ⟨m + 1, by omega, by go_num, by rw [← HS1.out, List.map_append]; exact hR6, HB.out.trans (hk6.toBelow hsr (fun i hi => (HI.out.lt i hi).1))⟩
      case measure => simp [intOf]; omega
    · obtain rfl : m = L := by omega
      have HTK := Lib.hid (show hs.take m = hs by rw [← HL.out, List.take_length])
      rw [HTK.out] at HI
      have HIA := Lib.hid (IntsAt.of_owns (w := w1) (base := w.heap.size) (v := u6) (xs := hIdx hs) (by rw [hIdx_len, HL.out]; exact HI.out))
      have HC1 := Lib.hid (HC.out.below hB)
      have HAS := Lib.hid (rasked_any w1 HC1.out _ (hIdx hs) HIA.out (by rw [hIdx_len, HL.out]; exact hl))
      obtain ⟨a, ha⟩ : ∃ a, askE n k (hIdx hs) = a := ⟨_, rfl⟩
      rw [ha] at HAS
      have HA := Lib.hid ha
      clear hB ha
      go_wp2_with fail
      refine HAS.out.mono ?_
      rintro e w2 ⟨rfl, q, rfl⟩
      have HB2 := Lib.hid (show Below w.heap.size w (w1.drewN q) from belowDr HB.out q)
      have HC2 := Lib.hid (show RCoderAt (w1.drewN q) b n k from HC1.out)
      have hcell : 0 < m → ∃ g off, p = some ⟨g, off, none⟩ ∧ ∀ i, i < m → (w1.drewN q).cell? ⟨g, off + i * 2, none⟩ = some (.int .i64 (hs.getD i (0, [])).1) ∧ ∃ u, (w1.drewN q).cell? ⟨g, off + i * 2 + 1, none⟩ = some u ∧ BytesAt (w1.drewN q) u (hs.getD i (0, [])).2 := by
        intro h0
        obtain ⟨g, off, e, hc⟩ := HHH.out h0
        refine ⟨g, off, e, fun i hi => ?_⟩
        obtain ⟨x, u, y, z⟩ := hc i hi
        exact ⟨(HB2.out.cell (p := ⟨g, off + i * 2, none⟩) (blt x)).trans x, u, (HB2.out.cell (p := ⟨g, off + i * 2 + 1, none⟩) (blt y)).trans y, z.below HB2.out⟩
      have HCL := Lib.hid hcell
      clear HHH hcell
      go_wp2
      generalize w1.drewN q = w2 at *
      go_loopw [8, 9] (fun e i wr => ∃ (j q : Nat) (x : Int), j ≤ m ∧ i = .int .i64 (j : Int) ∧ e = .int .i64 x ∧ ((∀ t, t < j → (hs.getD t (0, [])).2.length = wide) → x = a) ∧ (¬ (∀ t, t < j → (hs.getD t (0, [])).2.length = wide) → x = 2) ∧ wr = w2.drewN q) (fun _ i _ => m - (intOf i).toNat)
      case atStart => exact ⟨0, 0, a, Nat.zero_le _, rfl, rfl, fun _ => rfl, fun h => absurd (fun t ht => absurd ht (by omega)) h, rfl⟩
      case round =>
        obtain ⟨j, q2, x, hj, rfl, rfl, hx1, hx2, rfl⟩ := hrel
        have HX1 := Lib.hid hx1
        have HX2 := Lib.hid hx2
        clear hx1 hx2
        by_cases hlt2 : j < m
        · obtain ⟨g, off, rfl, hc⟩ := HCL.out (by omega)
          obtain ⟨_, u, y1, y2⟩ := hc j hlt2
          obtain ⟨_, u0, z1, z2⟩ := hc 0 (by omega)
          rw [Nat.zero_mul, Nat.add_zero] at z1
          obtain ⟨pu, cu, rfl⟩ := y2.shape
          obtain ⟨p0, c0, rfl⟩ := z2.shape
          rw [HW0.out] at z1
          obtain ⟨lj, hlj⟩ : ∃ lj, (hs.getD j (0, [])).2.length = lj := ⟨_, rfl⟩
          rw [hlj] at y1
          have HLJ := Lib.hid hlj
          clear hc y2 z2 hlj
          by_cases he : lj = wide
          · subst he
            go_wp2_with fail
            go_quiet (fail)
            go_wp2
            go_roundw
            case rel => exact ⟨j + 1, _, x, by omega, by go_num, rfl, fun h => HX1.out (fun t ht => h t (by omega)), fun h => HX2.out (fun h2 => h (fun t ht => by
              by_cases e : t = j
              · rw [e]; exact HLJ.out
              · exact h2 t (by omega))), by first | rfl | rw [World.drewN_drewN]⟩
            case measure => simp [intOf]; omega
          · have he1 : ¬ (lj : Int) = wide := by omega
            have he2 : (lj == wide) = false := by simpa using he
            have HE := Lib.hid he
            clear he
            go_wp2_with fail
            go_quiet (fail)
            go_wp2
            go_roundw
            case rel => exact ⟨j + 1, _, 2, by omega, by go_num, rfl, fun h => absurd (HLJ.out.symm.trans (h j (by omega))) HE.out, fun _ => rfl, by first | rfl | rw [World.drewN_drewN]⟩
            case measure => simp [intOf]; omega
        · obtain rfl : j = m := by omega
          have HXR := Lib.hid (show x = r by
            rw [← HR.out]
            unfold decE
            by_cases hev : ∀ t, t < j → (hs.getD t (0, [])).2.length = wide
            · rw [HX1.out hev, if_pos ((evenH_iff hs).2 (fun i hi => by rw [hev i (by rw [← HL.out]; exact hi), HW0.out])), HA.out]
            · rw [HX2.out hev, if_neg (fun h => hev (fun t ht => by rw [(evenH_iff hs).1 h t (by rw [HL.out]; exact ht), HW0.out]))])
          have HB3 := Lib.hid (show Below w.heap.size w (w2.drewN q2) from belowDr HB2.out q2)
          by_cases hx0 : x = 0
          rotate_left
          · have hx1 : (x == 0) = false := by simpa using hx0
            have HX0 := Lib.hid hx0
            clear hx0
            go_wp2
            go_ret2
            exact ⟨_, by rw [← HXR.out]; rfl, fun h => absurd (HXR.out.trans h) HX0.out, fun _ => rfl, HB3.out⟩
          · subst hx0
            have HEV := Lib.hid (show ∀ t, t < j → (hs.getD t (0, [])).2.length = wide by
              by_cases hev : ∀ t, t < j → (hs.getD t (0, [])).2.length = wide
              · exact hev
              · have := HX2.out hev; omega)
            have HO := Lib.hid (askE_zero (n := n) (k := k) (xs := hIdx hs) (by rw [HA.out, ← HX1.out HEV.out]))
            have hkl := HO.out.len
            rw [hIdx_len, HL.out] at hkl
            have HC3 := Lib.hid (show RCoderAt (w2.drewN q2) b n k from HC2.out)
            have HCL3 := Lib.hid (show 0 < j → ∃ g off, p = some ⟨g, off, none⟩ ∧ ∀ i, i < j → (w2.drewN q2).cell? ⟨g, off + i * 2, none⟩ = some (.int .i64 (hs.getD i (0, [])).1) ∧ ∃ u, (w2.drewN q2).cell? ⟨g, off + i * 2 + 1, none⟩ = some u ∧ BytesAt (w2.drewN q2) u (hs.getD i (0, [])).2 from HCL.out)
            have HSZ3 := Lib.hid (show (w2.drewN q2).heap.size = w2.heap.size from rfl)
            clear HCL
            go_wp2
            generalize w2.drewN q2 = w3 at *
            have d1 := HC3.out.c1
            have hbl := HC3.out.lt
            obtain ⟨g, off, rfl, hc⟩ := HCL3.out (by omega)
            have HCC := Lib.hid hc
            clear hc
            go_loopw [10, 11, 12] (fun vf vl i wr => ∃ m : Nat, m ≤ k ∧ i = .int .i64 (m : Int) ∧ Own wr w3.heap.size vf (idxB ((hIdx hs).take m)) ∧ RowsIn w3 wr vl ((hRow hs).take m) ∧ (∀ b, vf.ownBlock = some b → vl.ownBlock ≠ some b) ∧ Below w3.heap.size w3 wr) (fun _ _ i _ => k - (intOf i).toNat)
            case atStart => exact ⟨0, Nat.zero_le _, rfl, Own.nil _ _, ⟨[], World.ownsRow_nil _ _ _ _, fun i z h => by simp at h⟩, (fun b h => by cases h), Below.refl _ _⟩
            case round =>
              obtain ⟨m, hm2, rfl, ho, hri, hne, hB⟩ := hrel
              have hol : (idxB ((hIdx hs).take m)).length = m := by rw [idxB_len, List.length_take, hIdx_len, HL.out]; omega
              have hrl : ((hRow hs).take m).length = m := by rw [List.length_take, hRow_len, HL.out]; omega
              obtain ⟨pv, cv, rfl⟩ := ho.shape
              rw [hol] at ho hne ⊢
              obtain ⟨us, hu1, hu2⟩ := hri
              rw [hrl] at hu1
              have hul : us.length = m := by have := hu1.1; omega
              have HOL := Lib.hid hol
              have HRL := Lib.hid hrl
              have HUL := Lib.hid hul
              have HOV := Lib.hid ho
              have HU1 := Lib.hid hu1
              have HU2 := Lib.hid hu2
              have HNE := Lib.hid hne
              have HBR := Lib.hid hB
              have hsr3 := hB.size
              have d1r := (hB.cell (p := ⟨b, 1, none⟩) hbl).trans d1
              clear ho hol hrl hu1 hu2 hul hne
              by_cases hlt3 : m < k
              · obtain ⟨y1, u, y2, y3⟩ := HCC.out m (by omega)
                obtain ⟨pu, cu, rfl⟩ := y3.shape
                rw [HEV.out m (by omega)] at y2 y3
                have lg := blt y1
                have lgr : g < wr.heap.size := by omega
                have x1 := (hB.cell (p := ⟨g, off + m * 2, none⟩) lg).trans y1
                have x2 := (hB.cell (p := ⟨g, off + m * 2 + 1, none⟩) lg).trans y2
                have hx := HO.out.getD (m := m) (by rw [hIdx_len, HL.out]; omega)
                have HS := Lib.hid (idxB_snoc (xs := hIdx hs) (m := m) (by rw [hIdx_len, HL.out]; omega))
                have HS2 := Lib.hid (show (hRow hs).take m ++ [(hs.getD m (0, [])).2] = (hRow hs).take (m + 1) by
                  have h := hRow_snoc (hs := hs) (m := m) (by rw [HL.out]; omega)
                  simp only [hRow, List.map_take] at h ⊢
                  exact h)
                rw [hIdx_get (by rw [HL.out]; omega)] at hx HS
                obtain ⟨x, hxx⟩ : ∃ x, (hs.getD m (0, [])).1 = x := ⟨_, rfl⟩
                rw [hxx] at x1 hx HS
                obtain ⟨y, rfl⟩ := Int.eq_ofNat_of_zero_le hx.1
                have hy2 : y < 256 := by omega
                have HY := Lib.hid (show (⟨y, hy2⟩ : B) = ofB (Int.toNat (y : Int)) by rw [ofB_mk]; rfl)
                have HY3 := Lib.hid y3
                clear y1 y2 y3 hB hxx
                go_wp2_with (at_builtin; first
                  | (refine app_own rfl _ _ rfl w3.heap.size m _ _ ⟨y, hy2⟩ HOL.out HOV.out rfl rfl (by omega) hsr3 ?_; intro g' c' w6 hR6 hk6 hs6 hg6; have z2 := (hk6.cell (p := ⟨g, off + m * 2 + 1, none⟩) lgr (fun hb => by have := (HOV.out.blk g hb).1; omega)).trans x2; have HO6 := Lib.hid (ownsRow_keptS HU1.out hk6 (fun b hb e => HNE.out b e hb)))
                  | (refine app_head rfl _ _ rfl w3.heap.size m u11 us rfl HO6.out (.slice pu wide cu) rfl rfl (by omega) (by omega) ?_; intro g8 c8 w8 hR8 hk8 hs8 hg8))
                go_roundw
                case rel =>
                  have hv : ∀ b, (Value.slice pv m cv).ownBlock = some b → b < wr.heap.size := fun b hb => (HOV.out.blk b hb).2
                  have hl8 : ∀ b, u11.ownBlock = some b → b < wr.heap.size := fun b hb => (HU1.out.lt b hb).2
                  have hvg : u11.ownBlock ≠ some g' := fun e => by
                    rcases hg6 with q | q
                    · exact HNE.out g' q e
                    · have := hl8 _ e; omega
                  refine ⟨m + 1, by omega, by go_num, ?_, ?_, ?_, HBR.out.trans ((hk6.toBelow hsr3 (fun i hi => (HOV.out.blk i hi).1)).trans (hk8.toBelow (by omega) (fun i hi => (HU1.out.lt i hi).1)))⟩
                  · rw [← HS.out, ← HY.out]
                    exact hR6.kept hk8 (fun b hb e => by
                      have e2 : g' = b := by simpa [Value.ownBlock] using hb
                      subst e2
                      exact hvg e)
                  · rw [← HS2.out]
                    exact rowsIn_snoc HRL.out HUL.out HU2.out HY3.out hR8
                  · intro b h1 h2
                    have e1 : g' = b := by simpa [Value.ownBlock] using h1
                    have e2 : g8 = b := by simpa [Value.ownBlock] using h2
                    subst e1
                    rcases hg8 with q | q
                    · exact hvg (by rw [q, e2])
                    · rcases hg6 with z | z
                      · have := hv _ z; omega
                      · have := (hR6.blk g' (by simp [Value.ownBlock])).2; omega
                case measure => simp [intOf]; omega
              · obtain rfl : m = k := by omega
                have HRA := Lib.hid (RowsIn.rows (w := w3) (W := wr) (v := u11) (ls := (hRow hs).take m) ⟨us, by rw [HRL.out]; exact HU1.out, HU2.out⟩ hB)
                obtain ⟨pr, cr, hvr⟩ := HRA.out.shape
                rw [HRL.out] at hvr
                subst hvr
                have HND := Lib.hid (idxB_nodup HO.out hn m)
                have HWD := Lib.hid (show ∀ i, i < m → (((hRow hs).take m).getD i []).length = wide from fun i hi => by
                  rw [getD_take hi, hRow_get (by rw [HL.out]; omega)]
                  exact HEV.out i (by omega))
                have HB4 := Lib.hid (below_more HB3.out hB HB3.out.size)
                clear hB
                go_wp2_with fail
                refine (rpoints_any _ m (by omega)).mono ?_
                rintro e w5 ⟨v5, rfl, ho5, hB5⟩
                have HO5 := Lib.hid ho5.bytes
                have HOV5 := Lib.hid (HOV.out.below hB5)
                have HR5 := Lib.hid (HRA.out.below hB5)
                have HB5 := Lib.hid (below_more HB4.out hB5 HB4.out.size)
                obtain ⟨p5, c5, rfl⟩ := ho5.shape
                clear ho5 hB5
                go_wp2_with fail
                refine (rmoved_any _ _ _ _ (idxB ((hIdx hs).take m)) ((hRow hs).take m) (ptsL m) m m wide (by exact HOV5.out.bytes) (by exact HR5.out) (by exact HO5.out) HOL.out HRL.out (ptsL_len m) HND.out hk (by omega) (by omega) HWD.out hwb).mono ?_
                rintro e w7 ⟨v7, rfl, hr7, hB7⟩
                have hfin : RowsAt w7 v7 (decL m (idxB ((hIdx hs).take m)) (hRow hs) wide) := by rw [← mov_dec HOL.out]; exact hr7
                have HF := Lib.hid hfin
                have HB7 := Lib.hid (below_more HB5.out hB7 HB5.out.size)
                clear hr7 hB7 hfin
                go_wp2
                go_ret2
                exact ⟨_, by rw [← HXR.out]; rfl, fun _ => HF.out, fun h => absurd HXR.out.symm h, HB7.out⟩
end -- RefO

end Go.Proofs.YtaaahbpeaamjgaaGreat
