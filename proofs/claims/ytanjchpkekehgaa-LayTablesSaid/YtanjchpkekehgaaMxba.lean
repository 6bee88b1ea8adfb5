/-
  RefG: Walks of the reference, layer 4 (lagr): Value, Weights, Values.
  KitA: Walks of the kit: mark, markByte.
-/
import Derived.Test.YtanjchpkekehgaaMxaz
namespace Go.Proofs.Ytanjchpkekehgaa

section -- RefG
open Go.RowKit Go.Maps
set_option linter.unusedVariables false
set_option maxRecDepth 100000
set_option maxHeartbeats 2000000

/-- Append of one byte. -/
theorem app_own {ops : Array Oper} {rest : List Oper} {o : Oper} {a : Act} {Q : Exit → Act → World → Prop} {W : World}
    (hgd : o.guard = none) (s x : Operand) (ho : o.op = .call { callee := .builtin .append, args := #[s, x], argTypes := #[37, 37] })
    (base n : Nat) (v : Value) (l : List B) (y : B) (hln : l.length = n) (hown : Own W base v l) (hs : a.eval s = v)
    (hx : a.eval x = .slice (some ⟨W.heap.size, 0, none⟩) 1 1) (hn : n < 1000000000000) (hbase : base ≤ W.heap.size)
    (h : ∀ g' c' w', Own w' base (.slice (some ⟨g', 0, none⟩) (n + 1) c') (l ++ [y]) → Kept (fun k => v.ownBlock = some k) W w' → W.heap.size < w'.heap.size → (v.ownBlock = some g' ∨ W.heap.size < g') →
      wpList Try.prog ops Q rest (a.put o.dst (.slice (some ⟨g', 0, none⟩) (n + 1) c')) w') : wpList Try.prog ops Q (o :: rest) a (W.alloc (.cells #[bv y] 5)) := by
  subst hln
  refine app_el 37 5 1 1 (.int .u8 0) Try.underlying37 infoB rfl (by decide) hgd s x ho base l.length v (l.map bv) hs hown [bv y] rfl (one_bv y) hx hn hbase ?_
  intro g' c' w' ho' hk hs' hg'
  refine h g' c' w' ?_ hk hs' hg'
  unfold Own
  rw [List.length_append, ← map_snoc_bv]
  exact ho'
theorem RowF.made1 (w : World) (n k : Nat) (x : B) : RowF (w.alloc (.cells ((Array.replicate n (.int .u8 0)).setIfInBounds k (bv x)) 5)) w.heap.size ((List.replicate n 0).set k x) := by
  refine (heap_alloc_new w _).trans ?_
  rw [List.map_set, show (List.replicate n (0 : B)).map bv = List.replicate n (.int .u8 0) from by rw [List.map_replicate]; rfl]
  rw [← List.setIfInBounds_toArray, List.toArray_replicate]

theorem wts_unit {xs : List B} {j : Nat} (hj : j < xs.length) (x : B) : sm xs.length (fun i => lag xs i x * ((List.replicate xs.length 0).set j 1).getD i 0) = lag xs j x := by
  rw [sm_one hj (fun i hi hne => by
    rw [getD_set_ne (fun e => hne e.symm), List.getD_eq_getElem?_getD, List.getElem?_replicate]
    simp [hi]
    grind)]
  rw [List.getD_eq_getElem?_getD, List.getElem?_set_self (by simpa using hj)]
  show lag xs j x * 1 = _
  grind
end -- RefG

section -- KitA
open Go.RowKit Go.Maps
set_option linter.unusedVariables false
set_option maxRecDepth 100000
set_option maxHeartbeats 2000000

def mkN (k i : Nat) : Nat := 1000003 * (k + 7) + i
theorem mark_any (w : World) (k i : Nat) (hk : k ≤ 1000000) (hi : i ≤ 1000000) :
    Calls Try.prog 29 #[.int .i64 (k : Int), .int .i64 (i : Int)] w fun e w' => e = .returned (.int .i64 ((mkN k i : Nat) : Int)) ∧ w = w' := by
  have HM := Lib.hid (show ((mkN k i : Nat) : Int) = 1000003 * ((k : Int) + 7) + i by unfold mkN; omega)
  go_enter Try.func29, Try.ntmps29
  go_wp2
  go_ret
  exact ⟨by rw [HM.out]; rfl, rfl⟩

def mkB (k i : Nat) : B := ⟨mkN k i * 11400714819323198485 % 18446744073709551616 / 72057594037927936, by omega⟩
end -- KitA

end Go.Proofs.Ytanjchpkekehgaa
