/-
  RefB: Walks of the reference, layer 1 (field): Mul, Inv, Div.
  RefC: Walks of the reference, layer 2 (poly): Value, Lean, Add.
-/
import Derived.Test.YtanjchpkekehgaaMxad
import Derived.Test.YtanjchpkekehgaaMxag
import Derived.Test.YtanjchpkekehgaaMxaw
import Derived.Test.YtanjchpkekehgaaMxao
import Derived.Test.YtanjchpkekehgaaMxal
import Derived.Lib.MinMax
namespace Go.Proofs.Ytanjchpkekehgaa

section -- RefB
open Go.RowKit Go.Maps
set_option linter.unusedVariables false
set_option maxRecDepth 100000
set_option maxHeartbeats 2000000

theorem rmA_lt {a b : Nat} (ha : a < 256) : ∀ i, i ≤ 8 → rmA a b i < 2 ^ 16
  | 0, _ => by simp [rmA]
  | i + 1, h => by
    have ih := rmA_lt (b := b) ha i (by omega)
    simp only [rmA]
    split
    · refine Nat.xor_lt_two_pow ih ?_
      rw [Nat.shiftLeft_eq]
      have : 2 ^ i ≤ 2 ^ 7 := Nat.pow_le_pow_right (by omega) (by omega)
      have := Nat.mul_le_mul (show a ≤ 255 by omega) this
      omega
    · exact ih
theorem rmB_lt {p : Nat} (hp : p < 2 ^ 16) : ∀ t, t ≤ 8 → rmB p t < 2 ^ 16
  | 0, _ => hp
  | t + 1, h => by
    have ih := rmB_lt hp t (by omega)
    simp only [rmB, rmS]
    split
    · refine Nat.xor_lt_two_pow ih ?_
      rw [Nat.shiftLeft_eq]
      have : 2 ^ (7 - t) ≤ 2 ^ 7 := Nat.pow_le_pow_right (by omega) (by omega)
      have := Nat.mul_le_mul (show 285 ≤ 285 by omega) this
      omega
    · exact ih

theorem i64_and_nat' (a b : Nat) (ha : a < 4611686018427387904) (hb : b < 4611686018427387904) : bits .and .i64 (a : Int) (b : Int) = ((a &&& b : Nat) : Int) := by
  have hx : a &&& b < 2 ^ 62 := Nat.and_lt_two_pow _ (by omega)
  show IntKind.i64.wrap ((BitVec.ofInt 64 (a : Int) &&& BitVec.ofInt 64 (b : Int)).toNat : Int) = _
  rw [BitVec.toNat_and, ofInt_u64 a (by omega), ofInt_u64 b (by omega)]
  exact IntWalk.i64_in ((a &&& b : Nat) : Int) (by omega)

theorem bit_u8 (b k : Nat) (hb : b < 256) : bits .and .u8 ((b : Int) / 2 ^ k) 1 = if b.testBit k then 1 else 0 := by
  have e : (b : Int) / 2 ^ k = ((b / 2 ^ k : Nat) : Int) := by simp
  have h1 : b / 2 ^ k ≤ b := Nat.div_le_self _ _
  have h := u8_and_nat (b / 2 ^ k) 1 (by omega) (by omega)
  rw [e, show (1 : Int) = ((1 : Nat) : Int) from rfl, h, Nat.and_one_is_mod, Nat.testBit_eq_decide_div_mod_eq]
  have : b / 2 ^ k % 2 = 0 ∨ b / 2 ^ k % 2 = 1 := by omega
  rcases this with q | q <;> simp [q]
theorem bit_i64 (b k : Nat) (hb : b < 65536) : bits .and .i64 ((b : Int) / 2 ^ k) 1 = if b.testBit k then 1 else 0 := by
  have e : (b : Int) / 2 ^ k = ((b / 2 ^ k : Nat) : Int) := by simp
  have h1 : b / 2 ^ k ≤ b := Nat.div_le_self _ _
  have h := i64_and_nat' (b / 2 ^ k) 1 (by omega) (by omega)
  rw [e, show (1 : Int) = ((1 : Nat) : Int) from rfl, h, Nat.and_one_is_mod, Nat.testBit_eq_decide_div_mod_eq]
  have : b / 2 ^ k % 2 = 0 ∨ b / 2 ^ k % 2 = 1 := by omega
  rcases this with q | q <;> simp [q]
theorem shl_i64 (a k : Nat) (ha : a < 512) (hk : k < 8) : wrap64 ((a : Int) * 2 ^ k) = ((a <<< k : Nat) : Int) := by
  have e : (a : Int) * 2 ^ k = ((a * 2 ^ k : Nat) : Int) := by simp
  have h1 : 2 ^ k ≤ 2 ^ 7 := Nat.pow_le_pow_right (by omega) (by omega)
  have h2 := Nat.mul_le_mul (show a ≤ 511 by omega) h1
  rw [e, Nat.shiftLeft_eq]
  unfold wrap64
  omega
end -- RefB

section -- RefC
open Go.RowKit Go.Maps
set_option linter.unusedVariables false
set_option maxRecDepth 100000
set_option maxHeartbeats 2000000

/-- Append of nothing. -/
theorem app_none {ops : Array Oper} {rest : List Oper} {o : Oper} {a : Act} {Q : Exit → Act → World → Prop} {W : World} (t e : TypeId) (size bytes : Nat) (z : Value) (ht : Try.prog.underlying t = some (.slice e))
    (hinfo : (Try.prog.info? e).map (fun i => (i.zero, i.size, i.bytes)) = some (some z, size, bytes))
    (hgd : o.guard = none) (s x : Operand) (ho : o.op = .call { callee := .builtin .append, args := #[s, x], argTypes := #[t, t] })
    (base n : Nat) (v : Value) (us : List Value) (hs : a.eval s = v) (hown : W.ownsRow base e size v n us) (p : Option Addr) (c : Nat)
    (hx : a.eval x = .slice p 0 c)
    (h : wpList Try.prog ops Q rest (a.put o.dst v) W) : wpList Try.prog ops Q (o :: rest) a W := by
  obtain ⟨i, hi, hz, hsize, hbytes⟩ := info_parts hinfo
  have hr : (Builtin.append_ #[t, t] o.type #[v, .slice p 0 c]).run Try.prog W = .ok v W := by
    have hld : ∀ b : Addr, (loadCells b 0).run Try.prog W = .ok #[] W := fun b => run_loadCells_list (P := Try.prog) (w := W) b [] (fun j v h => by simp at h)
    rcases hown.2 with ⟨rfl, rfl⟩ | ⟨g, cap, cur, rfl, _, _, hnc, _⟩
    · cases p <;> simp [Builtin.append_, run_underlying ht, sizeOf, typeInfo, hi, Builtin.lenOf, Builtin.firstCells, hld]
    · cases p <;> simp [Builtin.append_, run_underlying ht, sizeOf, typeInfo, hi, Builtin.lenOf, Builtin.firstCells, hnc, storeCells, hld]
  refine wpList_plain hgd fun K hK => ?_
  unfold Oper.wp execOp
  simp only [ho, resolve, invoke, builtin, Sem.run_bind, Sem.run_pure, Result.andThen_ok, List.map_toArray, List.map_cons, List.map_nil, hs, hx, hr]
  exact hK _ _ h

/-- A polynomial that is made: as long at most, of that value everywhere. -/
def PolyAt (w : World) (base n : Nat) (f : B → B) (v : Value) : Prop := ∃ l, Own w base v l ∧ l.length ≤ n ∧ ∀ x, ev l x = f x

theorem empty_own (w : World) : Own (w.alloc (.cells #[] 5)) w.heap.size (.slice (some ⟨w.heap.size, 0, none⟩) 0 0) [] := World.ownsRow_lit w #[] 0 (Nat.le_refl _) (by unfold maxLen; omega) rfl

theorem ev_full {l : List B} {n : Nat} (h : l.length = n) (x : B) : ev (l.take n) x = ev l x := by rw [← h, List.take_length]
end -- RefC

end Go.Proofs.Ytanjchpkekehgaa
