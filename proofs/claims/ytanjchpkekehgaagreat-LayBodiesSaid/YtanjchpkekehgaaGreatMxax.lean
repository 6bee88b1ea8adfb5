/-
  RefB: Walks of the reference, layer 1 (field): Mul, Inv, Div.
  RefC: Walks of the reference, layer 2 (poly): Value, Lean, Add.
-/
import Derived.Test.YtanjchpkekehgaaGreatMxad
import Derived.Test.YtanjchpkekehgaaGreatMxag
import Derived.Test.YtanjchpkekehgaaGreatMxaw
import Derived.Test.YtanjchpkekehgaaGreatMxao
import Derived.Test.YtanjchpkekehgaaGreatMxal
import Derived.Lib.MinMax
namespace Go.Proofs.YtanjchpkekehgaaGreat

section -- RefB
open Go.RowKit Go.Maps
set_option linter.unusedVariables false
set_option maxRecDepth 100000
set_option maxHeartbeats 2000000

theorem rmA_lt {a b : Nat} (ha : a < 256) : ∀ i, i ≤ 8 → rmA a b i < 2 ^ 16
  | 0, _ => by simp [rmA]
  | i + 1, h => by
    have ih := rmA_lt (b := b) ha i (by omega)
    simp only [rmA]
    split
    · refine Nat.xor_lt_two_pow ih ?_
      rw [Nat.shiftLeft_eq]
      have : 2 ^ i ≤ 2 ^ 7 := Nat.pow_le_pow_right (by omega) (by omega)
      have := Nat.mul_le_mul (show a ≤ 255 by omega) this
      omega
    · exact ih
theorem rmB_lt {p : Nat} (hp : p < 2 ^ 16) : ∀ t, t ≤ 8 → rmB p t < 2 ^ 16
  | 0, _ => hp
  | t + 1, h => by
    have ih := rmB_lt hp t (by omega)
    simp only [rmB, rmS]
    split
    · refine Nat.xor_lt_two_pow ih ?_
      rw [Nat.shiftLeft_eq]
      have : 2 ^ (7 - t) ≤ 2 ^ 7 := Nat.pow_le_pow_right (by omega) (by omega)
      have := Nat.mul_le_mul (show 285 ≤ 285 by omega) this
      omega
    · exact ih

theorem i64_and_nat' (a b : Nat) (ha : a < 4611686018427387904) (hb : b < 4611686018427387904) : bits .and .i64 (a : Int) (b : Int) = ((a &&& b : Nat) : Int) := by
  have hx : a &&& b < 2 ^ 62 := Nat.and_lt_two_pow _ (by omega)
  show IntKind.i64.wrap ((BitVec.ofInt 64 (a : Int) &&& BitVec.ofInt 64 (b : Int)).toNat : Int) = _
  rw [BitVec.toNat_and, ofInt_u64 a (by omega), ofInt_u64 b (by omega)]
  exact IntWalk.i64_in ((a &&& b : Nat) : Int) (by omega)

theorem bit_u8 (b k : Nat) (hb : b < 256) : bits .and .u8 ((b : Int) / 2 ^ k) 1 = if b.testBit k then 1 else 0 := by
  have e : (b : Int) / 2 ^ k = ((b / 2 ^ k : Nat) : Int) := by simp
  have h1 : b / 2 ^ k ≤ b := Nat.div_le_self _ _
  have h := u8_and_nat (b / 2 ^ k) 1 (by omega) (by omega)
  rw [e, show (1 : Int) = ((1 : Nat) : Int) from rfl, h, Nat.and_one_is_mod, Nat.testBit_eq_decide_div_mod_eq]
  have : b / 2 ^ k % 2 = 0 ∨ b / 2 ^ k % 2 = 1 := by omega
  rcases this with q | q <;> simp [q]
theorem bit_i64 (b k : Nat) (hb : b < 65536) : bits .and .i64 ((b : Int) / 2 ^ k) 1 = if b.testBit k then 1 else 0 := by
  have e : (b : Int) / 2 ^ k = ((b / 2 ^ k : Nat) : Int) := by simp
  have h1 : b / 2 ^ k ≤ b := Nat.div_le_self _ _
  have h := i64_and_nat' (b / 2 ^ k) 1 (by omega) (by omega)
  rw [e, show (1 : Int) = ((1 : Nat) : Int) from rfl, h, Nat.and_one_is_mod, Nat.testBit_eq_decide_div_mod_eq]
  have : b / 2 ^ k % 2 = 0 ∨ b / 2 ^ k % 2 = 1 := by omega
  rcases this with q | q <;> simp [q]
theorem shl_i64 (a k : Nat) (ha : a < 512) (hk : k < 8) : wrap64 ((a : Int) * 2 ^ k) = ((a <<< k : Nat) : Int) := by
  have e : (a : Int) * 2 ^ k = ((a * 2 ^ k : Nat) : Int) := by simp
  have h1 : 2 ^ k ≤ 2 ^ 7 := Nat.pow_le_pow_right (by omega) (by omega)
  have h2 := Nat.mul_le_mul (show a ≤ 511 by omega) h1
  rw [e, Nat.shiftLeft_eq]
  unfold wrap64
  omega

theorem rmul_any (w : World) (x y : B) :
    Calls Tryz.prog 117 #[bv x, bv y] w fun e w' => e = .returned (bv (x * y)) ∧ w = w' := by
  have HX := Lib.hid (show rmB (rmA x.v y.v 8) 8 = (x * y).v by rw [rm_mul x.lt y.lt, B.mul_v])
  have hx := x.lt
  have hy := y.lt
  have HL := Lib.hid (fun i (hi : i ≤ 8) => rmA_lt (b := y.v) hx i hi)
  have hz := (x * y).lt
  unfold bv
  generalize (x * y).v = z at *
  generalize x.v = a at *
  generalize y.v = b at *
  go_enter Tryz.func117, Tryz.ntmps117
  go_wp2
  go_loop [5, 6] (fun p i => ∃ k : Nat, k ≤ 8 ∧ i = .int .i64 (k : Int) ∧ p = .int .i64 ((rmA a b k : Nat) : Int)) (fun _ i => 8 - (intOf i).toNat)
  case atStart => exact ⟨0, Nat.zero_le _, rfl, rfl⟩
  case round =>
    obtain ⟨k, hk, rfl, rfl⟩ := hrel
    by_cases hlt : k < 8
    · have hb := bit_u8 b k hy
      have hs := shl_i64 a k (by omega) hlt
      have hxr := i64_xor_nat (rmA a b k) (a <<< k) (by have := HL.out k hk; omega) (by
        have h1 : 2 ^ k ≤ 2 ^ 7 := Nat.pow_le_pow_right (by omega) (by omega)
        have h2 := Nat.mul_le_mul (show a ≤ 255 by omega) h1
        rw [Nat.shiftLeft_eq]; omega)
      have HXR := Lib.hid (show bits .xor .i64 ((rmA a b k : Nat) : Int) (wrap64 ((a : Int) * 2 ^ k)) = ((rmA a b k ^^^ (a <<< k) : Nat) : Int) by rw [hs]; exact hxr)
      clear hs hxr
      have HS := Lib.hid (show rmA a b (k + 1) = if b.testBit k then rmA a b k ^^^ (a <<< k) else rmA a b k from rfl)
      by_cases q : b.testBit k = true
      · rw [if_pos q] at hb
        have hs1 := HS.out
        rw [if_pos q] at hs1
        have HS1 := Lib.hid hs1
        clear hs1 q
        go_wp2
        go_round
        case rel =>
          exact ⟨k + 1, by omega, by go_num, by rw [HS1.out, HXR.out]⟩
        case measure => simp [intOf]; omega
      · rw [if_neg q] at hb
        have hs1 := HS.out
        rw [if_neg q] at hs1
        have HS1 := Lib.hid hs1
        clear hs1 q
        go_wp2
        go_round
        case rel =>
          exact ⟨k + 1, by omega, by go_num, by rw [HS1.out]⟩
        case measure => simp [intOf]; omega
    · obtain rfl : k = 8 := by omega
      have hP := HL.out 8 (Nat.le_refl _)
      generalize rmA a b 8 = P at *
      have HB := Lib.hid (fun t ht => rmB_lt hP t ht)
      go_wp2
      go_loop [5, 7] (fun p i => ∃ j : Nat, 7 ≤ j ∧ j ≤ 15 ∧ i = .int .i64 (j : Int) ∧ p = .int .i64 ((rmB P (15 - j) : Nat) : Int)) (fun _ i => (intOf i).toNat)
      case atStart => exact ⟨15, by omega, by omega, rfl, rfl⟩
      case round =>
        obtain ⟨j, hj1, hj2, rfl, rfl⟩ := hrel
        by_cases hlt : 8 ≤ j
        · have hlt2 := HB.out (15 - j) (by omega)
          have hS : rmB P (15 - (j - 1)) = rmS (rmB P (15 - j)) (285 <<< (7 - (15 - j))) (15 - (15 - j)) := by
            rw [show 15 - (j - 1) = (15 - j) + 1 by omega]; rfl
          rw [show 15 - (15 - j) = j by omega, show 7 - (15 - j) = j - 8 by omega] at hS
          unfold rmS at hS
          generalize rmB P (15 - j) = r at *
          have hb := bit_i64 r j hlt2
          have hs := shl_i64 285 (j - 8) (by omega) (by omega)
          have hxr := i64_xor_nat r (285 <<< (j - 8)) (by omega) (by
            have h1 : 2 ^ (j - 8) ≤ 2 ^ 7 := Nat.pow_le_pow_right (by omega) (by omega)
            have h2 := Nat.mul_le_mul (show 285 ≤ 285 by omega) h1
            rw [Nat.shiftLeft_eq]; omega)
          have HXR := Lib.hid (show bits .xor .i64 (r : Int) (wrap64 (285 * 2 ^ (j - 8))) = ((r ^^^ 285 <<< (j - 8) : Nat) : Int) by rw [show wrap64 (285 * 2 ^ (j - 8)) = _ from hs]; exact hxr)
          have HS := Lib.hid hS
          clear hS hs hxr
          by_cases q : r.testBit j = true
          · rw [if_pos q] at hb
            have hs1 := HS.out
            rw [if_pos q] at hs1
            have HS1 := Lib.hid hs1
            clear hs1 q
            go_wp2
            go_round
            case rel =>
              exact ⟨j - 1, by omega, by omega, by go_num, by rw [HS1.out, HXR.out]⟩
            case measure => simp [intOf]; omega
          · rw [if_neg q] at hb
            have hs1 := HS.out
            rw [if_neg q] at hs1
            have HS1 := Lib.hid hs1
            clear hs1 q
            go_wp2
            go_round
            case rel =>
              exact ⟨j - 1, by omega, by omega, by go_num, by rw [HS1.out]⟩
            case measure => simp [intOf]; omega
        · obtain rfl : j = 7 := by omega
          have HE := Lib.hid (show rmB P (15 - 7) = z from HX.out)
          rw [HE.out]
          go_wp2
          go_ret
          exact ⟨rfl, rfl⟩

theorem rinv_any (w : World) (x : B) (hx0 : x ≠ 0) :
    Calls Tryz.prog 129 #[bv x] w fun e w' => e = .returned (.tuple #[bv x.inv, .int .i64 0]) ∧ w = w' := by
  have h1 : x * x.inv = 1 := B.mul_inv hx0
  have h2 : x.inv ≠ 0 := fun e => by
    rw [e] at h1
    exact B.one_ne (by grind)
  have h3 : x.inv.v ≠ 0 := fun e => h2 (B.ext e)
  have HU := Lib.hid (fun (k : Nat) (hk : k < 256) (hne : k ≠ x.inv.v) => (show (x * (⟨k, hk⟩ : B)).v ≠ 1 from fun e => hne (by
    have e1 : x * (⟨k, hk⟩ : B) = 1 := B.ext e
    have e2 : (⟨k, hk⟩ : B) = x.inv := by grind
    rw [← e2])))
  have HI := Lib.hid (show (x * (⟨x.inv.v, x.inv.lt⟩ : B)).v = 1 from congrArg B.v h1)
  have hl := x.inv.lt
  obtain ⟨m, hm⟩ : ∃ m, x.inv.v = m := ⟨_, rfl⟩
  unfold bv
  simp only [hm] at *
  clear h1 h2 hm
  go_enter Tryz.func129, Tryz.ntmps129
  go_wp2
  go_loop [4] (fun i => ∃ k : Nat, 1 ≤ k ∧ k ≤ m ∧ i = .int .i64 (k : Int)) (fun i => 256 - (intOf i).toNat)
  case atStart => exact ⟨1, by omega, by omega, rfl⟩
  case round =>
    obtain ⟨k, hk1, hk2, rfl⟩ := hrel
    by_cases e : k = m
    · subst e
      have hi := HI.out
      go_wp2_with fail
      refine (rmul_any w x ⟨k, hl⟩).mono ?_
      rintro e w' ⟨rfl, rfl⟩
      unfold bv
      rw [hi]
      go_wp2
      go_ret2
      exact ⟨rfl, rfl⟩
    · have hne := HU.out k (by omega) e
      have hk3 : k < 256 := by omega
      have hne2 : (((x * (⟨k, hk3⟩ : B)).v : Int) == 1) = false := by simp; omega
      go_wp2_with fail
      refine (rmul_any w x ⟨k, hk3⟩).mono ?_
      rintro e w' ⟨rfl, rfl⟩
      unfold bv
      generalize (x * (⟨k, hk3⟩ : B)).v = r at *
      go_wp2
      go_round
      case rel => exact ⟨k + 1, by omega, by omega, by go_num⟩
      case measure => simp [intOf]; omega

theorem rdiv_any (w : World) (x y : B) (hy0 : y ≠ 0) :
    Calls Tryz.prog 114 #[bv x, bv y] w fun e w' => e = .returned (.tuple #[bv (x * y.inv), .int .i64 0]) ∧ w = w' := by
  have HY := Lib.hid hy0
  clear hy0
  go_enter Tryz.func114, Tryz.ntmps114
  go_wp2_with fail
  refine (rinv_any w y HY.out).mono ?_
  rintro e w' ⟨rfl, rfl⟩
  go_wp2_with fail
  refine (rmul_any w x y.inv).mono ?_
  rintro e w' ⟨rfl, rfl⟩
  go_wp2
  go_ret2
  exact ⟨rfl, rfl⟩
end -- RefB

section -- RefC
open Go.RowKit Go.Maps
set_option linter.unusedVariables false
set_option maxRecDepth 100000
set_option maxHeartbeats 2000000

theorem rvalue_any (w : World) (v : Value) (p : List B) (x : B) (hv : BytesAt w v p) (hl : p.length ≤ 1000000) :
    Calls Tryz.prog 96 #[v, bv x] w fun e w' => e = .returned (bv (ev p x)) ∧ w = w' := by
  obtain ⟨pa, ca, rfl, hh⟩ := hv
  have HA := Lib.hid hh
  clear hh
  have H0 := Lib.hid (show bv (ev (p.take 0) x) = .int .u8 0 ∧ bv (pw x 0) = .int .u8 1 from ⟨rfl, rfl⟩)
  go_enter Tryz.func96, Tryz.ntmps96
  go_wp2
  go_loop [5, 6, 7] (fun s q i => ∃ k : Nat, k ≤ p.length ∧ i = .int .i64 (k : Int) ∧ s = bv (ev (p.take k) x) ∧ q = bv (pw x k)) (fun _ _ i => p.length - (intOf i).toNat)
  case atStart => exact ⟨0, Nat.zero_le _, rfl, H0.out.1.symm, H0.out.2.symm⟩
  case round =>
    obtain ⟨k, hk, rfl, rfl, rfl⟩ := hrel
    by_cases hlt : k < p.length
    · obtain ⟨g, off, rfl, hc⟩ := HA.out (by omega)
      have d1 := hc k hlt
      have HE := Lib.hid (ev_take hlt x)
      have HP := Lib.hid (show pw x (k + 1) = pw x k * x from rfl)
      obtain ⟨c, hc'⟩ : ∃ c, p.getD k 0 = c := ⟨_, rfl⟩
      obtain ⟨s, hs'⟩ : ∃ s, ev (p.take k) x = s := ⟨_, rfl⟩
      obtain ⟨q, hq'⟩ : ∃ q, pw x k = q := ⟨_, rfl⟩
      rw [hc'] at d1 HE
      rw [hs'] at HE ⊢
      rw [hq'] at HE HP ⊢
      clear hc hc' hs' hq'
      go_wp2_with fail
      refine (rmul_any w c q).mono ?_
      rintro e w' ⟨rfl, rfl⟩
      have hxor := u8_xor_nat s.v (c * q).v s.lt (c * q).lt
      have HXS := Lib.hid (show (s + c * q).v = s.v ^^^ (c * q).v from rfl)
      go_wp2_with fail
      refine (rmul_any w q x).mono ?_
      rintro e w' ⟨rfl, rfl⟩
      go_wp2
      go_round
      case rel =>
        exact ⟨k + 1, by omega, by go_num, by rw [HE.out]; rfl, by rw [HP.out]⟩
      case measure => simp [intOf]; omega
    · obtain rfl : k = p.length := by omega
      rw [List.take_length]
      go_wp2
      go_ret
      exact ⟨rfl, rfl⟩

/-- Append of nothing. -/
theorem app_none {ops : Array Oper} {rest : List Oper} {o : Oper} {a : Act} {Q : Exit → Act → World → Prop} {W : World} (t e : TypeId) (size bytes : Nat) (z : Value) (ht : Tryz.prog.underlying t = some (.slice e))
    (hinfo : (Tryz.prog.info? e).map (fun i => (i.zero, i.size, i.bytes)) = some (some z, size, bytes))
    (hgd : o.guard = none) (s x : Operand) (ho : o.op = .call { callee := .builtin .append, args := #[s, x], argTypes := #[t, t] })
    (base n : Nat) (v : Value) (us : List Value) (hs : a.eval s = v) (hown : W.ownsRow base e size v n us) (p : Option Addr) (c : Nat)
    (hx : a.eval x = .slice p 0 c)
    (h : wpList Tryz.prog ops Q rest (a.put o.dst v) W) : wpList Tryz.prog ops Q (o :: rest) a W := by
  obtain ⟨i, hi, hz, hsize, hbytes⟩ := info_parts hinfo
  have hr : (Builtin.append_ #[t, t] o.type #[v, .slice p 0 c]).run Tryz.prog W = .ok v W := by
    have hld : ∀ b : Addr, (loadCells b 0).run Tryz.prog W = .ok #[] W := fun b => run_loadCells_list (P := Tryz.prog) (w := W) b [] (fun j v h => by simp at h)
    rcases hown.2 with ⟨rfl, rfl⟩ | ⟨g, cap, cur, rfl, _, _, hnc, _⟩
    · cases p <;> simp [Builtin.append_, run_underlying ht, sizeOf, typeInfo, hi, Builtin.lenOf, Builtin.firstCells, hld]
    · cases p <;> simp [Builtin.append_, run_underlying ht, sizeOf, typeInfo, hi, Builtin.lenOf, Builtin.firstCells, hnc, storeCells, hld]
  refine wpList_plain hgd fun K hK => ?_
  unfold Oper.wp execOp
  simp only [ho, resolve, invoke, builtin, Sem.run_bind, Sem.run_pure, Result.andThen_ok, List.map_toArray, List.map_cons, List.map_nil, hs, hx, hr]
  exact hK _ _ h

/-- A polynomial that is made: as long at most, of that value everywhere. -/
def PolyAt (w : World) (base n : Nat) (f : B → B) (v : Value) : Prop := ∃ l, Own w base v l ∧ l.length ≤ n ∧ ∀ x, ev l x = f x

theorem empty_own (w : World) : Own (w.alloc (.cells #[] 5)) w.heap.size (.slice (some ⟨w.heap.size, 0, none⟩) 0 0) [] := World.ownsRow_lit w #[] 0 (Nat.le_refl _) (by unfold maxLen; omega) rfl

theorem ev_full {l : List B} {n : Nat} (h : l.length = n) (x : B) : ev (l.take n) x = ev l x := by rw [← h, List.take_length]

theorem lean_any (w : World) (base n : Nat) (f : B → B) (v : Value) (hv : PolyAt w base n f v) (hn : n ≤ 1000000) :
    Calls Tryz.prog 116 #[v] w fun e w' => ∃ v', e = .returned v' ∧ PolyAt w' w.heap.size n f v' ∧ Below w.heap.size w w' := by
  obtain ⟨l, ho, hln, hf⟩ := hv
  have HF := Lib.hid hf
  have HO := Lib.hid ho
  have HB0 := Lib.hid (show Below w.heap.size w (w.alloc (.cells #[] 5)) from (Below.refl _ _).alloc (Nat.le_refl _) _)
  have HE0 := Lib.hid (empty_own w)
  clear hf
  go_enter Tryz.func116, Tryz.ntmps116
  by_cases hl0 : l.length = 0
  · obtain rfl : l = [] := List.eq_nil_of_length_eq_zero hl0
    obtain ⟨p, c, rfl⟩ := ho.shape
    clear ho
    have HFin := Lib.hid (show PolyAt (w.alloc (.cells #[] 5)) w.heap.size n f (.slice (some ⟨w.heap.size, 0, none⟩) 0 0) from ⟨[], HE0.out, by simp, HF.out⟩)
    cases p with
    | none =>
      go_wp2
      go_loop [3] (fun i => i = .int .i64 0) (fun i => 0)
      case atStart => rfl
      case round =>
        subst hrel
        go_wp2
        go_ret
        exact ⟨_, rfl, HFin.out, HB0.out⟩
    | some p =>
      go_wp2
      go_loop [3] (fun i => i = .int .i64 0) (fun i => 0)
      case atStart => rfl
      case round =>
        subst hrel
        go_wp2
        go_ret
        exact ⟨_, rfl, HFin.out, HB0.out⟩
  · obtain ⟨g, c, rfl, hbg, hr⟩ := ho.row (by omega)
    obtain ⟨n0, hn0⟩ : ∃ n0, l.length = n0 := ⟨_, rfl⟩
    have HR := Lib.hid hr
    have hcap : l.length ≤ c := by
      obtain ⟨C, h1, h2, h3, _⟩ := hr
      exact h3
    rw [hn0] at hcap hln
    have hnb : n0 ≤ 1000000 := by omega
    clear ho hr
    rw [hn0]
    have HN0 := Lib.hid hn0
    clear hn0
    go_wp2
    go_loop [3] (fun i => ∃ m : Nat, m ≤ n0 ∧ i = .int .i64 (m : Int) ∧ ∀ x, ev (l.take m) x = f x) (fun i => (intOf i).toNat)
    case atStart => exact ⟨n0, Nat.le_refl _, rfl, fun x => by rw [ev_full HN0.out]; exact HF.out x⟩
    case round =>
      obtain ⟨m, hm, rfl, hx⟩ := hrel
      have HX := Lib.hid hx
      clear hx
      by_cases hm0 : m = 0
      · subst hm0
        go_wp2
        go_ret
        exact ⟨_, rfl, ⟨[], HE0.out, by simp, HX.out⟩, HB0.out⟩
      · obtain ⟨q, rfl⟩ : ∃ q, m = q + 1 := ⟨m - 1, by omega⟩
        have d1 := HR.out.cell (i := q) (by rw [HN0.out]; omega)
        by_cases hz : l.getD q 0 = 0
        · rw [hz] at d1
          have HX2 := Lib.hid (show ∀ x, ev (l.take q) x = f x from fun x => by
            rw [← HX.out x, ← ev_drop (by rw [HN0.out]; omega) hz x])
          clear hz
          go_wp2
          go_round
          case rel => exact ⟨q, by omega, by go_num, HX2.out⟩
          case measure => simp [intOf]
        · obtain ⟨c0, hc0⟩ : ∃ c0, l.getD q 0 = c0 := ⟨_, rfl⟩
          rw [hc0] at d1 hz
          have hz1 : c0.v ≠ 0 := fun e => hz (B.ext e)
          have hz2 : ((c0.v : Int) == 0) = false := by simp; omega
          have hg : g < w.heap.size := HR.out.lt
          have HC := Lib.hid (show ∀ i, i < q + 1 → (w.alloc (.cells #[] 5)).cell? ⟨g, 0 + i, none⟩ = some (bv ((l.take (q + 1)).getD i 0)) from fun i hi => by
            rw [Nat.zero_add, ((Kept.alloc (fun _ => False) w _).at0 i hg), HR.out.cell (by rw [HN0.out]; omega), List.getD_eq_getElem?_getD, List.getD_eq_getElem?_getD, List.getElem?_take, if_pos hi])
          have HML := Lib.hid (show (l.take (q + 1)).length = q + 1 by rw [List.length_take, HN0.out]; omega)
          have hsz : (w.alloc (.cells #[] 5)).heap.size = w.heap.size + 1 := by simp
          clear hz hc0
          go_wp2_with (at_builtin; refine app_bytes 50 Tryz.underlying50 rfl _ _ rfl w.heap.size 0 (q + 1) _ [] (l.take (q + 1)) rfl HML.out rfl HE0.out g 0 _ rfl HC.out (by omega) (by omega) (by omega) ?_; intro g' c' w6 hR6 hb6 hk6 hg6)
          go_ret
          refine ⟨_, rfl, ⟨l.take (q + 1), ?_, by rw [HML.out]; omega, HX.out⟩, HB0.out.trans ⟨hk6.os, hk6.tape, hk6.output, hk6.size, fun i hi => hk6.block i (by omega) (fun e => ?_)⟩⟩
          · have := hR6.own hb6
            rw [List.nil_append, HML.out] at this
            exact this
          · have e2 : w.heap.size = i := own_is e
            omega
end -- RefC

end Go.Proofs.YtanjchpkekehgaaGreat
