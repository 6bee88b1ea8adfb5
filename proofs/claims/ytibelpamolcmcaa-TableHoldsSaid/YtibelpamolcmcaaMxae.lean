/-
  TbA: Rows of elements of several cells, over any program: copy, clear, append at one operation of a drawn region.
  CodeSa: Numbers, sorted: slices.Values, its iterator, AppendSeq, Collect, Sorted.
  CodeSb: What is wrong with indexes: by their sorted list: plain.
-/
import Derived.Test.YtibelpamolcmcaaMxad
import Derived.Lib.AppendZerosOnto
import Derived.Lib.Overlaps
import Derived.Test.YtibelpamolcmcaaShelf
import Derived.RangeFuncNested
import Derived.RangeFuncBound
import Derived.RangeFuncCalls
import Derived.RangeFuncLeaves
import Derived.RangeFuncBox
import Derived.RangeFuncMany
import Derived.Shelf.Abstract
import Derived.TacticsInMore
import Derived.LoopNIn
import Derived.LoopIn
import Derived.Maps.AppendAt
import Derived.Sort.MapsRangeIn
import Derived.Sort.OwnSortedInts
namespace Go.Proofs.Ytibelpamolcmcaa

section -- TbA
open Go.RowKit Go.Maps
set_option linter.unusedVariables false

section
variable {P : Program} (w : World)
/-- A copy between rows of elements of so many cells. -/
theorem run_copy_k (dT sT ty elem : TypeId) (size : Nat) (hu : P.underlying dT = some (.slice elem)) (hs : (P.info? elem).map (·.size) = some size) (g o dLen dCap gs os sLen sCap : Nat) (cur : Array Value) (t : TypeId) (cs : List Value)
    (hg : w.heap[g]? = some (.cells cur t (0, 0))) (hn : cs.length = Nat.min sLen dLen * size) (hsrc : ∀ j v, cs[j]? = some v → w.cell? ⟨gs, os + j, none⟩ = some v) (hfit : o + cs.length ≤ cur.size) (h1 : ∀ v ∈ cs, v.oneCell' = true) :
    (Builtin.copy_ #[dT, sT] ty #[.slice (some ⟨g, o, none⟩) dLen dCap, .slice (some ⟨gs, os, none⟩) sLen sCap]).run P w =
      .ok (goInt (Nat.min sLen dLen)) (w.setRow g (cur.toList.take o ++ cs ++ cur.toList.drop (o + cs.length)).toArray) := by
  have hl := run_loadCells_list (P := P) w ⟨gs, os, none⟩ cs (fun j v hj => by rw [add_off]; exact hsrc j v hj)
  have hst := run_storeCells_at P g o t cs 0 cur w hg (by simpa using hfit) h1
  cases hq : P.info? elem with
  | none => simp [hq] at hs
  | some i =>
    have hi : i.size = size := by simpa [hq] using hs
    simp only [Nat.add_zero] at hst
    rw [hn] at hl
    simp [Builtin.copy_, run_underlying hu, Builtin.lenOf, Builtin.firstCells, sizeOf, typeInfo, hq, hi, hl, hst]
/-- The elements are made zero values. -/
theorem run_clear_k (t e ty : TypeId) (z : Value) (ht : P.underlying t = some (.slice e)) (hv : ∀ w, (zeroValue e).run P w = .ok z w) (g o n c : Nat) (cur : Array Value) (te : TypeId)
    (hg : w.heap[g]? = some (.cells cur te (0, 0))) (hn : 0 < n) (hfit : o + n * z.cells.size ≤ cur.size) (h1 : ∀ u ∈ (Builtin.zeroCells z.cells n).toList, u.oneCell' = true) :
    (Builtin.clear_ #[t] ty #[.slice (some ⟨g, o, none⟩) n c]).run P w = .ok (.tuple #[]) (w.setRow g (cur.toList.take o ++ (Builtin.zeroCells z.cells n).toList ++ cur.toList.drop (o + n * z.cells.size)).toArray) := by
  have hst := run_storeCells_at P g o te (Builtin.zeroCells z.cells n).toList 0 cur w hg (by simp [size_zeroCells]; exact hfit) h1
  simp only [Nat.add_zero, Array.length_toList, size_zeroCells] at hst
  cases n with
  | zero => exact absurd hn (Nat.lt_irrefl 0)
  | succ n =>
    simp [Builtin.clear_, run_underlying ht, hv, hst]
end

section
variable {P : Program} {ops : Array Oper} {o : Oper} {a : Act} {w : World} {K : Act → World → Prop} {Q : Exit → Act → World → Prop} {E : Prop}
theorem step_append_run (hgd : o.guard = none) (s x : Operand) (t tn : TypeId) (hop : o.op = .call { callee := .builtin .append, args := #[s, x], argTypes := #[t, tn] })
    (v u : Value) (hs : a.eval s = v) (hx : a.eval x = u) {v' : Value} {w' : World} (hr : (Builtin.append_ #[t, tn] o.type #[v, u]).run P w = .ok v' w') (h : K (a.put o.dst v') w') :
    if Region.wanted o (yielded ops a.tmps) = true then Oper.wp P o a w K Q else E := by
  rw [if_pos (by simp [Region.wanted, hgd])]
  exact Lib.wp_append_run w s x t tn hop v u hs hx v' w' hr h
theorem step_copy_run (hgd : o.guard = none) (s x : Operand) (t tn : TypeId) (hop : o.op = .call { callee := .builtin .copy, args := #[s, x], argTypes := #[t, tn] })
    (v u : Value) (hs : a.eval s = v) (hx : a.eval x = u) {v' : Value} {w' : World} (hr : (Builtin.copy_ #[t, tn] o.type #[v, u]).run P w = .ok v' w') (h : K (a.put o.dst v') w') :
    if Region.wanted o (yielded ops a.tmps) = true then Oper.wp P o a w K Q else E := by
  rw [if_pos (by simp [Region.wanted, hgd])]
  unfold Oper.wp execOp
  simp only [hop, resolve, invoke, builtin, Sem.run_bind, Sem.run_pure, Result.andThen_ok, List.map_toArray, List.map_cons, List.map_nil, hs, hx, hr]
  exact h
theorem wpList_copy_run {rest : List Oper} (hgd : o.guard = none) (s x : Operand) (t tn : TypeId) (hop : o.op = .call { callee := .builtin .copy, args := #[s, x], argTypes := #[t, tn] })
    (v u : Value) (hs : a.eval s = v) (hx : a.eval x = u) {v' : Value} {w' : World} (hr : (Builtin.copy_ #[t, tn] o.type #[v, u]).run P w = .ok v' w') (h : wpList P ops Q rest (a.put o.dst v') w') : wpList P ops Q (o :: rest) a w :=
  wpList_plain hgd fun _ hK => by
    unfold Oper.wp execOp
    simp only [hop, resolve, invoke, builtin, Sem.run_bind, Sem.run_pure, Result.andThen_ok, List.map_toArray, List.map_cons, List.map_nil, hs, hx, hr]
    exact hK _ _ h
theorem wpList_clear_run {rest : List Oper} (hgd : o.guard = none) (x : Operand) (t : TypeId) (hop : o.op = .call { callee := .builtin .clear, args := #[x], argTypes := #[t] })
    (u : Value) (hx : a.eval x = u) {v' : Value} {w' : World} (hr : (Builtin.clear_ #[t] o.type #[u]).run P w = .ok v' w') (h : wpList P ops Q rest (a.put o.dst v') w') : wpList P ops Q (o :: rest) a w :=
  wpList_plain hgd fun _ hK => by
    unfold Oper.wp execOp
    simp only [hop, resolve, invoke, builtin, Sem.run_bind, Sem.run_pure, Result.andThen_ok, List.map_toArray, List.map_cons, List.map_nil, hx, hr]
    exact hK _ _ h
end

theorem Kept.setRow (w : World) (g : Nat) (C : Array Value) : Kept (fun k => k = g) w (w.setRow g C) := ⟨rfl, rfl, rfl, by simp, fun k _ hk => setRow_other w g k _ hk⟩
end -- TbA

section -- CodeSa
open Go.RowKit Go.Maps Go.Shelf Go.Sort
set_option linter.unusedVariables false

attribute [local go_sem] Oper.semAt_some

set_option maxRecDepth 100000
set_option maxHeartbeats 1000000

/-- A slice reads as numbers. -/
def IntsAt (w : World) (v : Value) (xs : List Int) : Prop := ∃ p cap, v = .slice p xs.length cap ∧ xs.length ≤ cap ∧ (0 < xs.length → ∃ g off, p = some ⟨g, off, none⟩ ∧ ∀ i, i < xs.length → w.cell? ⟨g, off + i, none⟩ = some (.int .i64 (xs.getD i 0)))
theorem IntsAt.kept {S : Nat → Prop} {w w' : World} {v : Value} {xs : List Int} (h : IntsAt w v xs) (hk : Kept S w w') (hS : ∀ k, k < w.heap.size → ¬ S k) : IntsAt w' v xs := by
  obtain ⟨p, cap, rfl, hcap, hh⟩ := h
  refine ⟨p, cap, rfl, hcap, fun hl => ?_⟩
  obtain ⟨g, off, rfl, hc⟩ := hh hl
  have hlt := blt (hc 0 hl)
  exact ⟨g, off, rfl, fun i hi => (hk.cell (p := ⟨g, off + i, none⟩) hlt (hS g hlt)).trans (hc i hi)⟩
theorem IntsAt.below {w w' : World} {v : Value} {xs : List Int} (h : IntsAt w v xs) (hb : Below w.heap.size w w') : IntsAt w' v xs := h.kept (Kept.below hb) (fun _ _ h => h)
theorem IntsAt.of_owns {w : World} {base : Nat} {v : Value} {xs : List Int} (h : w.ownsRow base 3 1 v xs.length (xs.map (Value.int .i64))) : IntsAt w v xs := by
  obtain ⟨h0, h1⟩ := h
  rcases h1 with ⟨rfl, hz⟩ | ⟨g, cap, cur, rfl, h2, h3, h4, h5, h6, h7⟩
  · exact ⟨none, 0, by rw [hz], by omega, fun hl => by omega⟩
  · refine ⟨_, cap, rfl, h4, fun _ => ⟨g, 0, rfl, fun i hi => ?_⟩⟩
    have : (xs.map (Value.int .i64))[i]? = some (.int .i64 (xs.getD i 0)) := by
      rw [List.getElem?_map, List.getD_eq_getElem?_getD, List.getElem?_eq_getElem hi]; rfl
    rw [← h7, List.getElem?_take, if_pos (by omega), Array.getElem?_toList] at this
    rw [Nat.zero_add]
    simp [World.cell?, h3, this]

theorem int_snoc {xs : List Int} {k : Nat} (h : k < xs.length) : xs.take k ++ [xs.getD k 0] = xs.take (k + 1) := by
  rw [List.take_succ_eq_append_getElem h, List.getD_eq_getElem?_getD, List.getElem?_eq_getElem h]; rfl

theorem infoI : (Try.prog.info? 3).map (fun i => (i.zero, i.size, i.bytes)) = some (some (.int .i64 0), 1, 8) := by kernel_rfl

/-- The numbers, sorted. -/
def sortL (xs : List Int) : List Int := xs.mergeSort fun x y => decide (x ≤ y)
end -- CodeSa

section -- CodeSb
set_option linter.unusedVariables false

/-- The error of indexes. -/
def askE (n k : Nat) (xs : List Int) : Int := if xs.all (fun x => decide (0 ≤ x) && decide (x < n)) then (if xs.Nodup then (if xs.length < k then 8 else 0) else 9) else 2

theorem sortL_perm (xs : List Int) : (sortL xs).Perm xs := List.mergeSort_perm xs _
theorem sortL_len (xs : List Int) : (sortL xs).length = xs.length := (sortL_perm xs).length_eq
theorem sortL_pair (xs : List Int) : (sortL xs).Pairwise (fun a b => a ≤ b) := by
  have := List.pairwise_mergeSort (le := fun x y : Int => decide (x ≤ y)) (fun a b c h1 h2 => by simp at *; omega) (fun a b => by simp; omega) xs
  exact this.imp (fun h => by simpa using h)
theorem sortL_le {xs : List Int} {i j : Nat} (hij : i ≤ j) (hj : j < xs.length) : (sortL xs).getD i 0 ≤ (sortL xs).getD j 0 := by
  have hl := sortL_len xs
  rw [List.getD_eq_getElem?_getD, List.getD_eq_getElem?_getD, List.getElem?_eq_getElem (by omega : i < (sortL xs).length), List.getElem?_eq_getElem (by omega : j < (sortL xs).length)]
  by_cases e : i = j
  · subst e; exact Int.le_refl _
  · exact List.pairwise_iff_getElem.1 (sortL_pair xs) i j (by omega) (by omega) (by omega)
theorem sortL_mem {xs : List Int} {i : Nat} (hi : i < xs.length) : (sortL xs).getD i 0 ∈ xs := by
  have hl := sortL_len xs
  rw [List.getD_eq_getElem?_getD, List.getElem?_eq_getElem (by omega : i < (sortL xs).length)]
  exact (sortL_perm xs).mem_iff.1 (List.getElem_mem _)
theorem mem_sortL {xs : List Int} {x : Int} (hx : x ∈ xs) : ∃ i, i < xs.length ∧ (sortL xs).getD i 0 = x := by
  obtain ⟨i, hi, e⟩ := List.mem_iff_getElem.1 ((sortL_perm xs).mem_iff.2 hx)
  have hl := sortL_len xs
  exact ⟨i, by omega, by rw [List.getD_eq_getElem?_getD, List.getElem?_eq_getElem hi]; exact e⟩

theorem ask_out {n : Nat} {xs : List Int} (h0 : 0 < xs.length) : (xs.all (fun x => decide (0 ≤ x) && decide (x < n)) = false) ↔ ((sortL xs).getD 0 0 < 0 ∨ (n : Int) ≤ (sortL xs).getD (xs.length - 1) 0) := by
  rw [List.all_eq_false]
  constructor
  · rintro ⟨x, hx, h⟩
    obtain ⟨i, hi, e⟩ := mem_sortL hx
    have h1 := sortL_le (xs := xs) (i := 0) (j := i) (by omega) hi
    have h2 := sortL_le (xs := xs) (i := i) (j := xs.length - 1) (by omega) (by omega)
    rw [e] at h1 h2
    by_cases q : 0 ≤ x
    · right
      have : ¬ x < n := by simpa [q] using h
      omega
    · left; omega
  · rintro (h | h)
    · refine ⟨_, sortL_mem h0, ?_⟩
      generalize (sortL xs).getD 0 0 = y at h
      simp; omega
    · refine ⟨_, sortL_mem (i := xs.length - 1) (by omega), ?_⟩
      generalize (sortL xs).getD (xs.length - 1) 0 = y at h
      simp; omega
end -- CodeSb

end Go.Proofs.Ytibelpamolcmcaa
