/-
  CodeSa: Numbers, sorted: slices.Values, its iterator, AppendSeq, Collect, Sorted.
  CodeSb: What is wrong with indexes: by their sorted list: plain.
-/
import Derived.Test.YtojbbmfndlcgkaaGreatMxad
import Derived.Test.YtojbbmfndlcgkaaGreatShelf
import Derived.RangeFuncNested
import Derived.RangeFuncBound
import Derived.RangeFuncCalls
import Derived.RangeFuncLeaves
import Derived.RangeFuncBox
import Derived.RangeFuncMany
import Derived.Shelf.Abstract
import Derived.TacticsInMore
import Derived.LoopNIn
import Derived.LoopIn
import Derived.Maps.AppendAt
import Derived.Sort.MapsRangeIn
import Derived.Sort.OwnSortedInts
namespace Go.Proofs.YtojbbmfndlcgkaaGreat

section -- CodeSa
open Go.RowKit Go.Maps Go.Shelf Go.Sort
set_option linter.unusedVariables false

attribute [local go_sem] Oper.semAt_some

set_option maxRecDepth 100000
set_option maxHeartbeats 1000000

/-- A slice reads as numbers. -/
def IntsAt (w : World) (v : Value) (xs : List Int) : Prop := ∃ p cap, v = .slice p xs.length cap ∧ xs.length ≤ cap ∧ (0 < xs.length → ∃ g off, p = some ⟨g, off, none⟩ ∧ ∀ i, i < xs.length → w.cell? ⟨g, off + i, none⟩ = some (.int .i64 (xs.getD i 0)))
theorem IntsAt.kept {S : Nat → Prop} {w w' : World} {v : Value} {xs : List Int} (h : IntsAt w v xs) (hk : Kept S w w') (hS : ∀ k, k < w.heap.size → ¬ S k) : IntsAt w' v xs := by
  obtain ⟨p, cap, rfl, hcap, hh⟩ := h
  refine ⟨p, cap, rfl, hcap, fun hl => ?_⟩
  obtain ⟨g, off, rfl, hc⟩ := hh hl
  have hlt := blt (hc 0 hl)
  exact ⟨g, off, rfl, fun i hi => (hk.cell (p := ⟨g, off + i, none⟩) hlt (hS g hlt)).trans (hc i hi)⟩
theorem IntsAt.below {w w' : World} {v : Value} {xs : List Int} (h : IntsAt w v xs) (hb : Below w.heap.size w w') : IntsAt w' v xs := h.kept (Kept.below hb) (fun _ _ h => h)
theorem IntsAt.of_owns {w : World} {base : Nat} {v : Value} {xs : List Int} (h : w.ownsRow base 3 1 v xs.length (xs.map (Value.int .i64))) : IntsAt w v xs := by
  obtain ⟨h0, h1⟩ := h
  rcases h1 with ⟨rfl, hz⟩ | ⟨g, cap, cur, rfl, h2, h3, h4, h5, h6, h7⟩
  · exact ⟨none, 0, by rw [hz], by omega, fun hl => by omega⟩
  · refine ⟨_, cap, rfl, h4, fun _ => ⟨g, 0, rfl, fun i hi => ?_⟩⟩
    have : (xs.map (Value.int .i64))[i]? = some (.int .i64 (xs.getD i 0)) := by
      rw [List.getElem?_map, List.getD_eq_getElem?_getD, List.getElem?_eq_getElem hi]; rfl
    rw [← h7, List.getElem?_take, if_pos (by omega), Array.getElem?_toList] at this
    rw [Nat.zero_add]
    simp [World.cell?, h3, this]

theorem int_snoc {xs : List Int} {k : Nat} (h : k < xs.length) : xs.take k ++ [xs.getD k 0] = xs.take (k + 1) := by
  rw [List.take_succ_eq_append_getElem h, List.getD_eq_getElem?_getD, List.getElem?_eq_getElem h]; rfl

/-- slices.Values's iterator, for every loop body. -/
theorem values1_in (F : Fence) (m : Nat) (hf : F.fn 102) (hro : F.round = none) (hm1 : 1 ≤ m) (n₀ l Bs : Nat) (v : Value) (xs : List Int) (hl9 : xs.length ≤ 1000000000) (J Jx : List Int → World → Prop)
    (hY : ∀ pre x W, J pre W → pre.length < xs.length → YieldAt F (m - 1) Tryz.prog l #[.int .i64 x] W fun e W' =>
      (e = .returned (.bool true) ∧ J (pre ++ [x]) W' ∧ Below n₀ W W') ∨ (e = .returned (.bool false) ∧ Jx (pre ++ [x]) W'))
    (W : World) (hs : W.cell? ⟨Bs, 0, none⟩ = some v) (hv : IntsAt W v xs) (hvb : 0 < xs.length → ∀ b, v.ownBlock = some b → b < n₀) (h0 : J [] W) :
    CallsIn F m Tryz.prog 102 #[.func (.yield l) #[] #[], .pointer (some ⟨Bs, 0, none⟩)] W fun e W' => (∃ v, e = .returned v) ∧
      ((∃ ss : List Int, ss = xs ∧ J ss W') ∨ (∃ pre, True ∧ Jx pre W')) := by
  obtain ⟨p, cap, rfl, hcap, hh⟩ := hv
  have HH := Lib.hid hh
  clear hh
  refine callsIn_of_wp Tryz.func102 rfl hf ?_ hro
  simp only [Tryz.ntmps102, List.size_toArray, List.length_cons, List.length_nil, Nat.reduceAdd, Nat.reduceSub, Array.replicate_succ, Array.replicate_zero, List.push_toArray, List.append_toArray, List.nil_append, List.cons_append]
  gi_wp2
  gi_loopw [4, 7] (fun _ i wr => ∃ k : Nat, k ≤ xs.length ∧ i = .int .i64 (k : Int) ∧ J (xs.take k) wr ∧ Below n₀ W wr)
    (fun _ i _ => xs.length - (intOf i).toNat)
  case atStart => exact ⟨0, Nat.zero_le _, rfl, by simpa using h0, Below.refl _ _⟩
  case round =>
    obtain ⟨k, hk, rfl, hJ, hB⟩ := hrel
    have HJ := Lib.hid hJ
    clear hJ
    by_cases hlt : k < xs.length
    · obtain ⟨g, off, rfl, hc⟩ := HH.out (by omega)
      have hck := (hB.cell (p := ⟨g, off + k, none⟩) (hvb (by omega) g rfl)).trans (hc k hlt)
      clear hc
      have HS := Lib.hid (int_snoc hlt)
      obtain ⟨x, hx⟩ : ∃ x, xs.getD k 0 = x := ⟨_, rfl⟩
      rw [hx] at hck HS
      clear hx
      obtain ⟨fn, tmps, assign, body, hy, hR⟩ := hY (xs.take k) x wr HJ.out (by simp; omega)
      gi_wp2
      refine hR.mono ?_
      rintro e W3 (⟨rfl, hJ3, hk3⟩ | ⟨rfl, hJx3⟩)
      · rw [HS.out] at hJ3
        have HJ3 := Lib.hid hJ3
        clear hJ3
        gi_wp2
        go_roundw
        case rel => exact ⟨k + 1, by omega, by go_num, HJ3.out, hB.trans hk3⟩
        case measure => simp [intOf]; omega
      · gi_wp2
        refine bodyPost_ret (results_none rfl _ _ _) rfl ?_
        exact ⟨⟨_, rfl⟩, .inr ⟨_, trivial, hJx3⟩⟩
    · have hJ := HJ.out
      rw [List.take_of_length_le (by omega)] at hJ
      have HJ2 := Lib.hid hJ
      clear hJ
      gi_wp2
      go_end0
      exact ⟨⟨_, rfl⟩, .inl ⟨xs, rfl, HJ2.out⟩⟩

/-- what slices.Values handed back stops. -/
theorem values_stops (F : Fence) (m : Nat) (hf : F.fn 102) (hro : F.round = none) (hm1 : 1 ≤ m) (Bs : Nat) (v : Value) (xs : List Int) (hl9 : xs.length ≤ 1000000000) (w : World)
    (hs : w.cell? ⟨Bs, 0, none⟩ = some v) (hv : IntsAt w v xs) :
    SeqStopsK F m Tryz.prog 102 #[.pointer (some ⟨Bs, 0, none⟩)] (fun x : Int => #[Value.int .i64 x]) (Below w.heap.size) (fun ss => ss = xs) (fun _ => True) xs.length w := fun l J Jx W hW hJ _ hY h0 => by
  refine values1_in F m hf hro hm1 w.heap.size l Bs v xs hl9 J Jx hY W ((hW.cell (p := ⟨Bs, 0, none⟩) (blt hs)).trans hs) (hv.below hW) (fun hx b hb => ?_) h0
  obtain ⟨p, cap, rfl, _, hh⟩ := hv
  obtain ⟨g, off, rfl, hc⟩ := hh hx
  have e : g = b := by simpa [Value.ownBlock] using hb
  rw [← e]
  exact blt (hc 0 hx)

theorem infoI : (Tryz.prog.info? 3).map (fun i => (i.zero, i.size, i.bytes)) = some (some (.int .i64 0), 1, 8) := by kernel_rfl

/-- slices.AppendSeq(nil, values). -/
theorem appendVals_in (F : Fence) (m : Nat) (hf : F.fn 63) (hg : F.fn 102) (hro : F.round = none) (hm : 3 ≤ m) (Bs : Nat) (v : Value) (xs : List Int) (hl9 : xs.length ≤ 1000000) (w : World)
    (hcm : w.cell? ⟨Bs, 0, none⟩ = some v) (hv : IntsAt w v xs) :
    CallsIn F m Tryz.prog 63 #[.slice none 0 0, .func (.func 102) #[] #[.pointer (some ⟨Bs, 0, none⟩)]] w fun e W' => ∃ (v : Value), e = .returned v ∧ W'.ownsRow w.heap.size 3 1 v xs.length (xs.map (Value.int .i64)) ∧ Below w.heap.size w W' := by
  have h1 : 1 ≤ m := by omega
  have hBm := blt hcm
  obtain ⟨i0, hi, hz0, hz1, hz2⟩ := info_parts infoI
  refine callsIn_of_wp_marks Tryz.func63 rfl hf ?_ hro
  simp only [Tryz.ntmps63, List.size_toArray, List.length_cons, List.length_nil, Nat.reduceAdd, Nat.reduceSub, Array.replicate_succ, Array.replicate_zero, List.push_toArray, List.append_toArray, List.nil_append, List.cons_append]
  gi_wp2
  have bO := Boxed.new w 23 (.slice none 0 0)
  have hB0 : Below w.heap.size w (w.alloc (.cells #[.slice none 0 0] 23)) := (Below.refl _ w).alloc (Nat.le_refl _) _
  refine wpIn_rangeFunc_ownG hro h1 (gf := 102) (lb := #[.pointer (some ⟨Bs, 0, none⟩)]) rfl hg (enters_of Tryz.func102 (by kernel_rfl) rfl)
    (values_stops F (m - 1) hg hro (by omega) Bs v xs (by omega) w hcm hv) (fun h k => belowK_t h k) (belowK_b (by simp)) hB0 (fun _ => rfl)
    (fun pre W => (∃ v, Boxed W w.heap.size 23 v ∧ W.ownsRow w.heap.size 3 1 v pre.length (pre.map (Value.int .i64)) ∧ (v = .slice none 0 0 ↔ pre = [])) ∧ Below w.heap.size w W)
    (fun _ _ _ => False)
    (OwnFrom.and (Own.from (holdsRow_own w.heap.size w.heap.size 23 3 1 (fun pre : List Int => pre.length) (fun pre => pre.map (Value.int .i64)) (fun pre v => v = .slice none 0 0 ↔ pre = [])) _) (ownFrom_below (Nat.le_refl _) (by simp)))
    (fun _ _ _ _ _ hs _ _ => hs)
    ⟨⟨_, bO, World.ownsRow_nil _ _ _ _, by simp⟩, hB0⟩
    (fun x => { tmps := #[.slice none 0 0, .func (.func 102) #[] #[.pointer (some ⟨Bs, 0, none⟩)], .pointer (some ⟨w.heap.size, 0, none⟩), undef, .slice none 0 0, .int .i64 x, .func (.func 102) #[] #[.pointer (some ⟨Bs, 0, none⟩)], .int .i64 x, undef, undef, undef, undef, undef], defers := [] }) ?assign ?body ?done ?stop
  case assign =>
    intro l x W K hK
    gi_wp2
    exact hK
  case body =>
    rintro l pre x W ⟨⟨v, hv, hrow, hnil⟩, hB⟩ hlt
    have hc := hv.cell
    gi_wp2_with (gi_at_builtin; refine wpListIn_append_own _ rfl _ _ 23 rfl w.heap.size 3 i0 (.int .i64 0) 1 8 Tryz.underlying23 hi hz0 hz1 hz2 rfl (by decide) _ _ _ rfl (hrow.alloc _) ⟨W.heap.size, 0, none⟩ 1 1 [.int .i64 x] rfl rfl (cell_one_new _ _ _) (by simp [Value.oneCell']) (by unfold maxLen; omega) (by omega) (by have := hB.size; simp; omega) ?_; intro v' w1 hown' hgrow _; obtain ⟨g', cap', rfl⟩ := ownsRow_succ hown'; obtain ⟨hv1, hv2, hr2, hk2, hb2⟩ := hv.appended (by decide) hrow hB.size (Nat.le_refl _) hown' hgrow; have hc1 := hv1.cell; have hf1 := hv1.frozen)
    exact ⟨hk2.from _, hb2, ⟨_, hv2, by simpa using hr2, by simp⟩, hB.trans hb2⟩
  case done =>
    rintro D ys W hD hS ⟨⟨v', hv', hrow, hnil⟩, hB⟩ hK
    subst hS
    have hc := hv'.cell
    gi_wp2
    refine ⟨by simp, .inl ⟨_, _, rfl, run_takeDeferred hK, ?_⟩⟩
    exact ⟨_, results_tmp rfl _ _ _, v', rfl, ownsRow_putObj hrow _ hK rfl, hB.trans (belowK_b (w := w) (Nat.le_refl _) W D _ _ (by simp at hD; omega) hK rfl rfl)⟩
  case stop =>
    rintro D c pre W _ _ h _
    exact h.elim

/-- slices.Collect(values). -/
theorem collectVals_in (F : Fence) (m : Nat) (h0 : F.fn 50) (hf : F.fn 63) (hg : F.fn 102) (hro : F.round = none) (hm : 4 ≤ m) (Bs : Nat) (v : Value) (xs : List Int) (hl9 : xs.length ≤ 1000000) (w : World)
    (hcm : w.cell? ⟨Bs, 0, none⟩ = some v) (hv : IntsAt w v xs) :
    CallsIn F m Tryz.prog 50 #[.func (.func 102) #[] #[.pointer (some ⟨Bs, 0, none⟩)]] w fun e W' => ∃ (v : Value), e = .returned v ∧ W'.ownsRow w.heap.size 3 1 v xs.length (xs.map (Value.int .i64)) ∧ Below w.heap.size w W' := by
  have h1 : 1 ≤ m := by omega
  refine callsIn_of_wp Tryz.func50 rfl h0 ?_ hro
  simp only [Tryz.ntmps50, List.size_toArray, List.length_cons, List.length_nil, Nat.reduceAdd, Nat.reduceSub, Array.replicate_succ, Array.replicate_zero, List.push_toArray, List.append_toArray, List.nil_append, List.cons_append]
  gi_wp2_with (gi_at_call 63; refine (appendVals_in F (m - 1) hf hg hro (by omega) Bs v xs hl9 _ hcm hv).mono ?_; rintro e w' ⟨v, rfl, hrow, hb⟩)
  go_ret
  exact ⟨v, rfl, hrow, hb⟩

/-- The numbers, sorted. -/
def sortL (xs : List Int) : List Int := xs.mergeSort fun x y => decide (x ≤ y)

/-- slices.Sorted(values), plain. -/
theorem sortedVals_any (Bs : Nat) (v : Value) (xs : List Int) (hl9 : xs.length ≤ 1000000) (w : World)
    (hcm : w.cell? ⟨Bs, 0, none⟩ = some v) (hv : IntsAt w v xs) :
    Calls Tryz.prog 38 #[.func (.func 102) #[] #[.pointer (some ⟨Bs, 0, none⟩)]] w fun e W' => ∃ (v : Value), e = .returned v ∧ W'.ownsRow w.heap.size 3 1 v xs.length ((sortL xs).map (Value.int .i64)) ∧ Below w.heap.size w W' := by
  have HC := Lib.hid (callsIn_wide.1 (collectVals_in Fence.wide 4 trivial trivial trivial rfl (Nat.le_refl _) Bs v xs hl9 w hcm hv))
  clear hcm hv
  go_enter Tryz.func38, Tryz.ntmps38
  go_wp2_with (go_at_call 50; refine HC.out.mono ?_; rintro e W ⟨v, rfl, hrow, hb⟩)
  rcases hrow.2 with ⟨rfl, hz⟩ | ⟨gb, cap, cur, rfl, hbase, hgb, r1, r2, r3, r4⟩
  · have hss : xs = [] := List.eq_nil_of_length_eq_zero hz
    subst hss
    go_wp2_with (go_at_call 51; refine (Tryz.slices_Sort_int_none none 0 W).mono ?_; rintro e w' ⟨rfl, rfl⟩)
    go_ret
    exact ⟨_, rfl, by simpa [sortL] using hrow, hb⟩
  · have hH : Holds (Value.int .i64) W gb 0 xs.toArray := holds_of_blockI hgb (by simpa using r4)
    have hgl : gb < W.heap.size := (Array.getElem?_eq_some_iff.1 hgb).1
    have HS := Lib.hid (Tryz.slices_Sort_int gb 0 cap xs W hH hgl (by omega))
    clear hH
    go_wp2_with (go_at_call 51; refine HS.out.mono ?_; rintro e w' ⟨rfl, nn, os, rfl⟩)
    go_ret
    refine ⟨_, rfl, ?_, hb.grown (grownBy_sortedI _) hb.size (fun j hj => by cases hj; exact hbase)⟩
    exact ownsRow_sortedI (n := nn) (os := os) (ts := sortL xs) (by simp [sortL]) hbase hgb r1 r2 r3
end -- CodeSa

section -- CodeSb
set_option linter.unusedVariables false

/-- The error of indexes. -/
def askE (n k : Nat) (xs : List Int) : Int := if xs.all (fun x => decide (0 ≤ x) && decide (x < n)) then (if xs.Nodup then (if xs.length < k then 8 else 0) else 9) else 2

theorem sortL_perm (xs : List Int) : (sortL xs).Perm xs := List.mergeSort_perm xs _
theorem sortL_len (xs : List Int) : (sortL xs).length = xs.length := (sortL_perm xs).length_eq
theorem sortL_pair (xs : List Int) : (sortL xs).Pairwise (fun a b => a ≤ b) := by
  have := List.pairwise_mergeSort (le := fun x y : Int => decide (x ≤ y)) (fun a b c h1 h2 => by simp at *; omega) (fun a b => by simp; omega) xs
  exact this.imp (fun h => by simpa using h)
theorem sortL_le {xs : List Int} {i j : Nat} (hij : i ≤ j) (hj : j < xs.length) : (sortL xs).getD i 0 ≤ (sortL xs).getD j 0 := by
  have hl := sortL_len xs
  rw [List.getD_eq_getElem?_getD, List.getD_eq_getElem?_getD, List.getElem?_eq_getElem (by omega : i < (sortL xs).length), List.getElem?_eq_getElem (by omega : j < (sortL xs).length)]
  by_cases e : i = j
  · subst e; exact Int.le_refl _
  · exact List.pairwise_iff_getElem.1 (sortL_pair xs) i j (by omega) (by omega) (by omega)
theorem sortL_mem {xs : List Int} {i : Nat} (hi : i < xs.length) : (sortL xs).getD i 0 ∈ xs := by
  have hl := sortL_len xs
  rw [List.getD_eq_getElem?_getD, List.getElem?_eq_getElem (by omega : i < (sortL xs).length)]
  exact (sortL_perm xs).mem_iff.1 (List.getElem_mem _)
theorem mem_sortL {xs : List Int} {x : Int} (hx : x ∈ xs) : ∃ i, i < xs.length ∧ (sortL xs).getD i 0 = x := by
  obtain ⟨i, hi, e⟩ := List.mem_iff_getElem.1 ((sortL_perm xs).mem_iff.2 hx)
  have hl := sortL_len xs
  exact ⟨i, by omega, by rw [List.getD_eq_getElem?_getD, List.getElem?_eq_getElem hi]; exact e⟩

theorem ask_out {n : Nat} {xs : List Int} (h0 : 0 < xs.length) : (xs.all (fun x => decide (0 ≤ x) && decide (x < n)) = false) ↔ ((sortL xs).getD 0 0 < 0 ∨ (n : Int) ≤ (sortL xs).getD (xs.length - 1) 0) := by
  rw [List.all_eq_false]
  constructor
  · rintro ⟨x, hx, h⟩
    obtain ⟨i, hi, e⟩ := mem_sortL hx
    have h1 := sortL_le (xs := xs) (i := 0) (j := i) (by omega) hi
    have h2 := sortL_le (xs := xs) (i := i) (j := xs.length - 1) (by omega) (by omega)
    rw [e] at h1 h2
    by_cases q : 0 ≤ x
    · right
      have : ¬ x < n := by simpa [q] using h
      omega
    · left; omega
  · rintro (h | h)
    · refine ⟨_, sortL_mem h0, ?_⟩
      generalize (sortL xs).getD 0 0 = y at h
      simp; omega
    · refine ⟨_, sortL_mem (i := xs.length - 1) (by omega), ?_⟩
      generalize (sortL xs).getD (xs.length - 1) 0 = y at h
      simp; omega

theorem compact_len (zs : List Int) : (Go.Lib.compact zs).length = ((List.range zs.length).filter (Go.Lib.keeps zs.toArray)).length := by
  unfold Go.Lib.compact Go.Lib.compactUpTo
  simp

theorem keeps_sort {xs : List Int} {j : Nat} (hj : j < xs.length) : Go.Lib.keeps (sortL xs).toArray j = decide (j = 0 ∨ (sortL xs).getD j 0 ≠ (sortL xs).getD (j - 1) 0) := by
  have hl := sortL_len xs
  unfold Go.Lib.keeps
  have e : ∀ i, i < xs.length → (sortL xs).toArray[i]! = (sortL xs).getD i 0 := fun i hi => by
    rw [List.getD_eq_getElem?_getD, List.getElem?_eq_getElem (by omega : i < (sortL xs).length)]
    simp [getElem!_pos, hl, hi]
  rw [e j hj, e (j - 1) (by omega)]

theorem ask_twice (xs : List Int) : (Go.Lib.compact (sortL xs)).length < xs.length ↔ ¬ xs.Nodup := by
  have hl := sortL_len xs
  rw [compact_len, hl]
  constructor
  · intro h hn
    have hn' : (sortL xs).Nodup := (sortL_perm xs).nodup_iff.2 hn
    have : (List.range xs.length).filter (Go.Lib.keeps (sortL xs).toArray) = List.range xs.length := by
      rw [List.filter_eq_self]
      intro j hj
      have hj := List.mem_range.1 hj
      rw [keeps_sort hj]
      refine decide_eq_true ?_
      by_cases e : j = 0
      · exact .inl e
      · right
        intro q
        rw [List.getD_eq_getElem?_getD, List.getD_eq_getElem?_getD, List.getElem?_eq_getElem (by omega : j < (sortL xs).length), List.getElem?_eq_getElem (by omega : j - 1 < (sortL xs).length)] at q
        have := List.pairwise_iff_getElem.1 (List.nodup_iff_pairwise_ne.1 hn') (j - 1) j (by omega) (by omega) (by omega)
        exact this q.symm
    rw [this] at h
    simp at h
  · intro hn
    have hn' : ¬ (sortL xs).Nodup := fun q => hn ((sortL_perm xs).nodup_iff.1 q)
    rw [List.nodup_iff_pairwise_ne, List.pairwise_iff_getElem] at hn'
    simp only [Classical.not_forall, Classical.not_not] at hn'
    obtain ⟨i, j, hi, hj, hij, e⟩ := hn'
    have e' : (sortL xs).getD i 0 = (sortL xs).getD j 0 := by
      rw [List.getD_eq_getElem?_getD, List.getD_eq_getElem?_getD, List.getElem?_eq_getElem hi, List.getElem?_eq_getElem hj]; exact e
    have h1 := sortL_le (xs := xs) (i := i) (j := j - 1) (by omega) (by omega)
    have h2 := sortL_le (xs := xs) (i := j - 1) (j := j) (by omega) (by omega)
    have hk : Go.Lib.keeps (sortL xs).toArray j = false := by
      rw [keeps_sort (by omega)]
      refine decide_eq_false ?_
      rintro (q | q)
      · omega
      · exact q (by omega)
    have := (List.length_filter_lt_length_iff_exists (p := Go.Lib.keeps (sortL xs).toArray) (l := List.range xs.length)).2 ⟨j, List.mem_range.2 (show j < xs.length by omega), by rw [hk]; simp⟩
    simpa using this
end -- CodeSb

end Go.Proofs.YtojbbmfndlcgkaaGreat
