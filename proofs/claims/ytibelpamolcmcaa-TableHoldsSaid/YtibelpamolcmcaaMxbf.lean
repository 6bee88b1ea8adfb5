/-
  TbR: Layer 18: Close.
  TbS: Layer 18: Put where it refuses; New.
  TbT: Layer 18: the law's own functions: of, has, SameInts.
-/
import Derived.Test.YtibelpamolcmcaaMxbe
namespace Go.Proofs.Ytibelpamolcmcaa

section -- TbR
open Go.RowKit Go.Maps Go.Shelf Go.Sort

attribute [local go_sem] Oper.semAt_some
set_option linter.unusedVariables false
set_option linter.unusedSimpArgs false
set_option maxRecDepth 100000
set_option maxHeartbeats 4000000

theorem results_cell2 {P : Program} {fn : Func} {p q : Tmp} {ty ty2 : TypeId} (h : fn.results = #[.cell p ty, .cell q ty2]) (tmps : Array Value) (w : World) (g g2 : Nat) (v v2 : Value)
    (hp : tmps.getD p undef = .pointer (some ⟨g, 0, none⟩)) (hq : tmps.getD q undef = .pointer (some ⟨g2, 0, none⟩)) (hg : w.cell? ⟨g, 0, none⟩ = some v) (hg2 : w.cell? ⟨g2, 0, none⟩ = some v2) (ha : ∀ w, (isAgg ty).run P w = .ok false w) (ha2 : ∀ w, (isAgg ty2).run P w = .ok false w) :
    (results fn tmps).run P w = .ok (.tuple #[v, v2]) w := by
  have hp' : tmps[p]?.getD undef = .pointer (some ⟨g, 0, none⟩) := by simpa using hp
  have hq' : tmps[q]?.getD undef = .pointer (some ⟨g2, 0, none⟩) := by simpa using hq
  simp [results, h, hp', hq', asAddr, loadVar, ha, ha2, run_load P, hg, hg2]
theorem agg46 (w : World) : (isAgg 46).run Try.prog w = .ok false w := by kernel_rfl
theorem agg4 (w : World) : (isAgg 4).run Try.prog w = .ok false w := by kernel_rfl

/-- What Close's loop keeps beside the table: none was found yet. -/
def CloI (w : World) (wl tb : Nat) (v : Value) (pre : List GD) (W : World) : Prop := pre = [] ∧ (∃ u, Boxed W w.heap.size 46 u) ∧ (∃ u, Boxed W (w.heap.size + 1) 4 u) ∧ Kept (RowS tb v) w W ∧ wl ≤ W.heap.size
/-- Where it is left: one was found. -/
def CloX (w : World) (wl tb : Nat) (v : Value) (pre : List GD) (W : World) : Prop := ∃ x, pre = [x] ∧ Boxed W w.heap.size 46 (ptrG x) ∧ Boxed W (w.heap.size + 1) 4 (.bool true) ∧ Kept (RowS tb v) w W ∧ wl ≤ W.heap.size
theorem CloI.step {w A C : World} {wl tb : Nat} {v : Value} {pre : List GD} (h : CloI w wl tb v pre A) (hk : Kept (RowS tb v) A C) (h1 : ¬ RowS tb v w.heap.size) (h2 : ¬ RowS tb v (w.heap.size + 1)) : CloI w wl tb v pre C := by
  obtain ⟨h0, ⟨u1, hb1⟩, ⟨u2, hb2⟩, hkp, hsz⟩ := h
  exact ⟨h0, ⟨u1, zk2 hb1 hk h1⟩, ⟨u2, zk2 hb2 hk h2⟩, hkp.trans hk (fun _ _ h => h), Nat.le_trans hsz hk.size⟩
theorem CloI.nonC {w A C : World} {wl tb B : Nat} {v : Value} {pre : List GD} (h : CloI w wl tb v pre A) (hB : w.heap.size ≤ B) (hk : Kept (NonC B A) A C) : CloI w wl tb v pre C := by
  obtain ⟨h0, ⟨u1, hb1⟩, ⟨u2, hb2⟩, hkp, hsz⟩ := h
  exact ⟨h0, ⟨u1, zk2 hb1 hk (nonC_cells hb1)⟩, ⟨u2, zk2 hb2 hk (nonC_cells hb2)⟩, hkp.trans hk (fun i hi hs => absurd hs.1 (by omega)), Nat.le_trans hsz hk.size⟩
theorem CloX.nonC {w A C : World} {wl tb B : Nat} {v : Value} {pre : List GD} (h : CloX w wl tb v pre A) (hB : w.heap.size ≤ B) (hk : Kept (NonC B A) A C) : CloX w wl tb v pre C := by
  obtain ⟨x, h0, hb1, hb2, hkp, hsz⟩ := h
  exact ⟨x, h0, zk2 hb1 hk (nonC_cells hb1), zk2 hb2 hk (nonC_cells hb2), hkp.trans hk (fun i hi hs => absurd hs.1 (by omega)), Nat.le_trans hsz hk.size⟩

theorem kept_two (W : World) (k1 k2 : Nat) (a b : Value) : Kept (fun k => k = k1 ∨ k = k2) W ((W.setCell ⟨k1, 0, none⟩ a).setCell ⟨k2, 0, none⟩ b) := ((Kept.set1 W k1 0 a).mono (fun _ _ h => .inl h)).trans (Kept.set1 _ k2 0 b) (fun _ _ h => .inr h)
theorem put_nonC {W : World} {B D : Nat} (hK : W.heap[D]? = some (.deferred (some []))) (hD : B ≤ D) : Kept (NonC B W) W (W.putObj D (.deferred none)) := kept_grown (grownBy_putObj' W D _) (fun r e => by cases e; exact ⟨hD, _, hK, rfl⟩)
theorem find_some {f : Int} {gs : List GD} {x : GD} (h1 : [x].length ≤ (gs.filter (fun g => (fun x : Ent => decide (x.2.1 = f)) (entG g))).length) (h2 : [x] = (gs.filter (fun g => (fun x : Ent => decide (x.2.1 = f)) (entG g))).take [x].length) : findV f gs = .tuple #[ptrG x, .bool true] := by
  have hlt : firstP (fun g => (fun x : Ent => decide (x.2.1 = f)) (entG g)) gs < gs.length := by
    refine Classical.byContradiction fun h => ?_
    rw [firstP_none h] at h1
    exact absurd h1 (by simp)
  obtain ⟨_, h3⟩ := cutsP_next (p := (fun g => (fun x : Ent => decide (x.2.1 = f)) (entG g))) (gs := gs) (m := 0) (Nat.zero_le _) hlt
  have h4 : [x] = [gs.getD (firstP (fun g => (fun x : Ent => decide (x.2.1 = f)) (entG g)) gs) default] := h2.trans h3
  have h5 : x = gs.getD (firstP (fun g => (fun x : Ent => decide (x.2.1 = f)) (entG g)) gs) default := List.singleton_inj.1 h4
  have h6 : findV f gs = .tuple #[ptrG (gs.getD (firstP (fun g => (fun x : Ent => decide (x.2.1 = f)) (entG g)) gs) default), .bool true] := if_pos hlt
  rw [h6, ← h5]
theorem find_none {f : Int} {gs : List GD} (h : ¬ firstP (fun g => (fun x : Ent => decide (x.2.1 = f)) (entG g)) gs < gs.length) : findV f gs = .tuple #[.pointer none, .bool false] ∧ cutP (fun g => (fun x : Ent => decide (x.2.1 = f)) (entG g)) gs = gs := by
  refine ⟨if_neg h, ?_⟩
  unfold cutP
  rw [List.take_of_length_le (by omega), List.drop_of_length_le (by omega), List.append_nil]
section
variable {w w' : World} {base tb : Nat} {gn cn : Int} {v : Value} {gs : List GD}
theorem tclose_any (ht : TabS w base tb gn cn v gs) (hb : base ≤ w.heap.size) (f : Int) :
    Calls Try.prog 17 #[.pointer (some ⟨tb, 0, none⟩), .int .i64 f] w fun e w' => ∃ v', e = .returned (findV f gs) ∧ TabS w' base tb gn cn v' (cutP (fun g => decide (g.H.frame = f)) gs) ∧ v'.ownBlock = v.ownBlock ∧ (∀ g ∈ gs, GDAt w' base g) ∧ Kept (RowS tb v) w w' := by
  have HT := Lib.hid ht
  have HB2 := Lib.hid (show Below w.heap.size w ((w.alloc (.cells #[.pointer none] 46)).alloc (.cells #[.bool false] 4)) from below_more (balT w _) (balT _ _) (balT w _).size)
  have HMD := Lib.hid (made_any (ht.below HB2.out).row)
  have q0 := Boxed.new w 46 (.pointer none)
  have q1 := Boxed.new (w.alloc (.cells #[.pointer none] 46)) 4 (.bool false)
  rw [World.size_alloc] at q1
  have Q0 := Lib.hid (q0.alloc (.cells #[.bool false] 4))
  have Q1 := Lib.hid q1
  clear ht q0 q1
  refine (callsIn_wide (n := 9)).1 ?_
  have h1 : 1 ≤ 9 := by omega
  have hf1 : Fence.wide.fn 25 := trivial
  refine callsIn_of_wp_marks Try.func17 rfl trivial ?_ rfl
  simp only [Try.ntmps17, List.size_toArray, List.length_cons, List.length_nil, Nat.reduceAdd, Nat.reduceSub, Array.replicate_succ, Array.replicate_zero, List.push_toArray, List.append_toArray, List.nil_append, List.cons_append]
  gi_wp2_with (gi_at_call 25; refine (callsIn_wide.2 HMD.out).mono ?_; rintro e w' ⟨rfl, rfl⟩)
  generalize ((w.alloc (.cells #[.pointer none] 46)).alloc (.cells #[.bool false] 4)) = w2 at *
  have HD := Lib.hid (show Below w2.heap.size w2 w2.drew from (Kept.refl (fun _ => False) w2).drew.toBelow (Nat.le_refl _) (fun _ h => h.elim))
  refine wpIn_wide.2 ?_
  refine s_start 6 (fun W => Below w2.heap.size w2 W) (by as_aux_lemma => kernel_rfl) (by as_aux_lemma => kernel_rfl) HD.out ?_
  refine s_take 0 (by as_aux_lemma => kernel_rfl) (by as_aux_lemma => kernel_rfl) (by as_aux_lemma => kernel_rfl) (by as_aux_lemma => kernel_rfl) HD.out (fun oi ho => ?_)
  simp only [List.getElem?_toArray, List.getElem?_cons_succ, List.getElem?_cons_zero, Option.some.injEq] at ho
  subst ho
  refine ⟨?_, Or.inl ⟨by rfl, fun w _ => ?_⟩, ?_⟩
  rotate_left
  · (go_simp <;> with_reducible rfl)
  try simp only [Act.put, List.setIfInBounds_toArray, List.set_cons_zero, List.set_cons_succ]
  refine s_take 1 (by as_aux_lemma => kernel_rfl) (by as_aux_lemma => kernel_rfl) (by as_aux_lemma => kernel_rfl) (by as_aux_lemma => kernel_rfl) HD.out (fun oi ho => ?_)
  simp only [List.getElem?_toArray, List.getElem?_cons_succ, List.getElem?_cons_zero, Option.some.injEq] at ho
  subst ho
  refine ⟨?_, Or.inl ⟨by rfl, fun w _ => ?_⟩, ?_⟩
  rotate_left
  · (go_simp <;> with_reducible rfl)
  try simp only [Act.put, List.setIfInBounds_toArray, List.set_cons_zero, List.set_cons_succ]
  refine s_take 2 (by as_aux_lemma => kernel_rfl) (by as_aux_lemma => kernel_rfl) (by as_aux_lemma => kernel_rfl) (by as_aux_lemma => kernel_rfl) HD.out (fun oi ho => ?_)
  simp only [List.getElem?_toArray, List.getElem?_cons_succ, List.getElem?_cons_zero, Option.some.injEq] at ho
  subst ho
  refine ⟨?_, Or.inl ⟨by rfl, fun w _ => ?_⟩, ?_⟩
  rotate_left
  · (go_simp <;> with_reducible rfl)
  try simp only [Act.put, List.setIfInBounds_toArray, List.set_cons_zero, List.set_cons_succ]
  refine s_take 3 (by as_aux_lemma => kernel_rfl) (by as_aux_lemma => kernel_rfl) (by as_aux_lemma => kernel_rfl) (by as_aux_lemma => kernel_rfl) HD.out (fun oi ho => ?_)
  simp only [List.getElem?_toArray, List.getElem?_cons_succ, List.getElem?_cons_zero, Option.some.injEq] at ho
  subst ho
  refine ⟨?_, Or.inl ⟨by rfl, fun w _ => ?_⟩, ?_⟩
  rotate_left
  · (go_simp <;> with_reducible rfl)
  try simp only [Act.put, List.setIfInBounds_toArray, List.set_cons_zero, List.set_cons_succ]
  refine s_all (rs := [4]) (by as_aux_lemma => kernel_rfl) (by simp) ?_
  refine s_step 4 (by as_aux_lemma => kernel_rfl) (fun o ho K hK => ?_) AllReadyH.nil
  simp only [List.getElem?_toArray, List.getElem?_cons_succ, List.getElem?_cons_zero, Option.some.injEq] at ho
  subst ho
  go_simp
  refine (of_any _ f).mono ?_
  rintro e w3 ⟨rfl, e3⟩
  have HX3 := Lib.hid (mk_box e3)
  have HB3 := Lib.hid (show Below w2.heap.size w2 w3 from by rw [← e3]; exact HD.out.alloc HD.out.size _)
  clear e3
  go_wp2_with fail
  refine hK.out _ _ HB3.out ?_
  clear hK K
  try simp only [Act.put, List.setIfInBounds_toArray, List.set_cons_zero, List.set_cons_succ]
  refine s_all (rs := [5]) (by as_aux_lemma => kernel_rfl) (by simp) ?_
  refine s_step 5 (by as_aux_lemma => kernel_rfl) (fun o ho K hK => ?_) AllReadyH.nil
  simp only [List.getElem?_toArray, List.getElem?_cons_succ, List.getElem?_cons_zero, Option.some.injEq] at ho
  subst ho
  go_simp
  refine (taken_any _ tb _ ⟨_, _, rfl⟩).mono ?_
  rintro e w4 ⟨rfl, e4⟩
  have HB4 := Lib.hid (show Below w2.heap.size w2 w4 from by rw [e4]; exact below_more HB3.out (below_more (balT w3 _) (balT _ _) (balT w3 _).size) HB3.out.size)
  have HB34 := Lib.hid (show Below w3.heap.size w3 w4 from by rw [e4]; exact below_more (balT w3 _) (balT _ _) (balT w3 _).size)
  have HQ4 := Lib.hid (show w4.cell? ⟨w3.heap.size, 0, none⟩ = some (.pointer (some ⟨tb, 0, none⟩)) ∧ w4.cell? ⟨w3.heap.size + 1, 0, none⟩ = some (.func (.func 54) #[] #[.pointer (some ⟨w2.heap.size, 0, none⟩)]) from by
    rw [e4]
    exact ⟨Lib.cell?_alloc_some _ (new_at w3 _ _ w3.heap.size _ rfl rfl), new_at (w3.alloc _) _ _ (w3.heap.size + 1) _ (by simp) rfl⟩)
  clear e4
  go_wp2_with fail
  refine hK.out _ _ HB4.out ?_
  clear hK K
  try simp only [Act.put, List.setIfInBounds_toArray, List.set_cons_zero, List.set_cons_succ]
  refine s_done (by as_aux_lemma => kernel_rfl) ?_
  skip
  have hq0 := HX3.out
  have hw2 : w2.drew.heap.size = w2.heap.size := rfl
  rw [hw2] at hq0
  have hbq : w2.heap.size < w3.heap.size := blt hq0
  have hr1 : w.heap.size + 1 < w2.heap.size := Q1.out.lt
  have hs23 := HB3.out.size
  have hs34 := HB34.out.size
  have hBi : w3.heap.size + 1 < w4.heap.size := blt HQ4.out.2
  have HBW := Lib.hid (show Below w.heap.size w w4 from below_more HB2.out HB4.out HB2.out.size)
  have HNR := Lib.hid (show ∀ k, w.heap.size ≤ k → ¬ RowS tb v k from fun k hk hs => by
    rcases hs with e | e
    · have := HT.out.row.lt
      omega
    · have := (HT.out.row.ents.lt k e).2
      omega)
  have HBM := Lib.hid (show ∀ g ∈ gs, g.bm < w4.heap.size from fun g hg => by have h1 := (HT.out.grp g hg).map.lt; have h2 := HBW.out.size; omega)
  have H0 := Lib.hid (show TkC base tb gn cn v gs (fun g => (fun x : Ent => decide (x.2.1 = f)) (entG g)) w3.heap.size (w3.heap.size + 1) w2.heap.size 54 f [] w4 ∧ CloI w w4.heap.size tb v [] w4 from
    ⟨⟨⟨v, HT.out.below HBW.out, rfl⟩, Nat.zero_le _, rfl, fun g hg => GrpAt.below (HT.out.grp g hg) HBW.out, HT.out.far, HQ4.out.1, HQ4.out.2, (HB34.out.cell (p := ⟨w2.heap.size, 0, none⟩) hbq).trans hq0, HNR.out _ (by omega), HNR.out _ (by omega), HNR.out _ (by omega)⟩, ⟨rfl, ⟨_, zk2 Q0.out (Kept.below HB4.out) (fun h => h.elim)⟩, ⟨_, zk2 Q1.out (Kept.below HB4.out) (fun h => h.elim)⟩, (Kept.below HBW.out).mono (fun _ _ h => h.elim), Nat.le_refl _⟩⟩)
  have hww : w.heap.size ≤ w4.heap.size := HBW.out.size
  have hwr : w.heap.size + 1 < w2.heap.size := hr1
  have hw3 : w3.heap.size + 1 < w4.heap.size := hBi
  clear hq0 hw2 hr1 hBi
  gi_wp2
  refine wpIn_rangeFunc_w rfl h1 (gf := 44) (lb := #[.pointer (some ⟨w3.heap.size, 0, none⟩), .pointer (some ⟨w3.heap.size + 1, 0, none⟩)]) rfl trivial (enters_of Try.func44 (by kernel_rfl) rfl)
    (encs := fun x : GD => #[.agg #[.pointer (some ⟨x.blk, 0, none⟩), .int .i64 x.H.frame, .int .i64 x.H.deadline]])
    (fun pre W => TkC base tb gn cn v gs (fun g => (fun x : Ent => decide (x.2.1 = f)) (entG g)) w3.heap.size (w3.heap.size + 1) w2.heap.size 54 f pre W ∧ CloI w w4.heap.size tb v pre W)
    (fun pre x W => TkC base tb gn cn v gs (fun g => (fun x : Ent => decide (x.2.1 = f)) (entG g)) w3.heap.size (w3.heap.size + 1) w2.heap.size 54 f (pre ++ [x]) W ∧ CloI w w4.heap.size tb v pre W)
    (fun pre x a' W => (TkC base tb gn cn v gs (fun g => (fun x : Ent => decide (x.2.1 = f)) (entG g)) w3.heap.size (w3.heap.size + 1) w2.heap.size 54 f (pre ++ [x]) W ∧ CloI w w4.heap.size tb v pre W) ∧ ∃ bx, W.cell? ⟨bx, 0, none⟩ = some (ptrG x) ∧
      a' = { tmps := #[.pointer (some ⟨tb, 0, none⟩), .int .i64 f, undef, undef, .pointer (some ⟨w.heap.size, 0, none⟩), .pointer (some ⟨w.heap.size + 1, 0, none⟩), .pointer (some ⟨bx, 0, none⟩), .pointer (some ⟨tb, 0, none⟩), .bool true, .bool false, .pointer (some ⟨tb, 0, none⟩), .pointer (some ⟨tb, 0, none⟩), .pointer (some ⟨tb, 0, none⟩), .int .i64 f, .func (.func 54) #[] #[.pointer (some ⟨w2.heap.size, 0, none⟩)], .func (.func 44) #[] #[.pointer (some ⟨w3.heap.size, 0, none⟩), .pointer (some ⟨w3.heap.size + 1, 0, none⟩)], .agg #[.pointer (some ⟨x.blk, 0, none⟩), .int .i64 x.H.frame, .int .i64 x.H.deadline], undef, undef], defers := [] })
    (fun xs W => TkC base tb gn cn v gs (fun g => (fun x : Ent => decide (x.2.1 = f)) (entG g)) w3.heap.size (w3.heap.size + 1) w2.heap.size 54 f xs W ∧ CloI w w4.heap.size tb v xs W ∧ ¬ firstP (fun g => (fun x : Ent => decide (x.2.1 = f)) (entG g)) (cutsP (fun g => (fun x : Ent => decide (x.2.1 = f)) (entG g)) gs xs.length) < (cutsP (fun g => (fun x : Ent => decide (x.2.1 = f)) (entG g)) gs xs.length).length)
    (fun c pre W => c = .ret ∧ TkC base tb gn cn v gs (fun g => (fun x : Ent => decide (x.2.1 = f)) (entG g)) w3.heap.size (w3.heap.size + 1) w2.heap.size 54 f pre W ∧ CloX w w4.heap.size tb v pre W) ?hZ ?hY1 ?hDn ?hXs ?hps H0.out ?hiter ?hassign ?hbody ?hdone ?hstop
  case hZ =>
    intro pre A C row h hg hr
    have hk := kept_grown hg hr
    exact ⟨h.1.nonC HBM.out hk, h.2.nonC hww hk⟩
  case hY1 =>
    intro x a' pre A C row h hg hr
    have hk := kept_grown hg hr
    obtain ⟨⟨h1, h2⟩, bx, h3, h4⟩ := h
    exact ⟨⟨h1.nonC HBM.out hk, h2.nonC hww hk⟩, bx, cell_nonC h3 rfl hk, h4⟩
  case hDn =>
    intro pre A C row h hg hr
    have hk := kept_grown hg hr
    exact ⟨h.1.nonC HBM.out hk, h.2.1.nonC hww hk, h.2.2⟩
  case hps => exact fun _ => rfl
  case hXs =>
    intro c pre A C row h hg hr
    have hk := kept_grown hg hr
    exact ⟨h.1, h.2.1.nonC HBM.out hk, h.2.2.nonC hww hk⟩
  case hiter =>
    intro l L Lx W _ hL hLx hZ hL0 hY
    exact taken1_in (9 - 1) l w4.heap.size (by omega) (fun x : Ent => decide (x.2.1 = f)) eg_of (fun W h => of1_tells W _ f h) (CloI w w4.heap.size tb v) (fun c pre W => c = .ret ∧ TkC base tb gn cn v gs (fun g => (fun x : Ent => decide (x.2.1 = f)) (entG g)) w3.heap.size (w3.heap.size + 1) w2.heap.size 54 f pre W ∧ CloX w w4.heap.size tb v pre W) L Lx (fun pre A C h hk => h.step hk (HNR.out _ (by omega)) (HNR.out _ (by omega))) hL hY W hZ hL0
  case hassign =>
    intro l pre x W K hyx hK
    have HYX := Lib.hid hyx
    have HK := Lib.hid hK
    clear hyx hK
    gi_wp2
    refine HK.out _ _ ⟨by simp, fun k o _ hk _ => (Below.heap_alloc W _ k (Array.getElem?_eq_some_iff.1 hk).1).trans hk⟩ ⟨⟨HYX.out.1.below (balT W _), HYX.out.2.step ((Kept.below (balT W _)).mono (fun _ _ h => h.elim)) (HNR.out _ (by omega)) (HNR.out _ (by omega))⟩, W.heap.size, new_at W _ _ _ _ rfl rfl, rfl⟩
  case hbody =>
    rintro l pre x a' W ⟨⟨htk, hpe, ⟨u1, hb1⟩, ⟨u2, hb2⟩, hkp, hsz⟩, bx, hbx, rfl⟩
    have HTK := Lib.hid htk
    have HKP := Lib.hid hkp
    have HPE := Lib.hid hpe
    have HB1 := Lib.hid hb1
    have HB2' := Lib.hid hb2
    have hc1 := hb1.cell
    have hf1 := hb1.frozen
    have hc2 := hb2.cell
    have hf2 := hb2.frozen
    obtain ⟨xk, hxk⟩ : ∃ k, x.blk = k := ⟨_, rfl⟩
    have hp0 : W.cell? ⟨bx, 0, none⟩ = some (.pointer (some ⟨xk, 0, none⟩)) := by rw [hbx, ← hxk]; rfl
    have HXK := Lib.hid hxk
    have HNE := Lib.hid (show (⟨w.heap.size, 0, none⟩ : Addr) ≠ ⟨w.heap.size + 1, 0, none⟩ from fun e => by simp at e)
    obtain ⟨xf, hxf⟩ : ∃ k, x.H.frame = k := ⟨_, rfl⟩
    obtain ⟨xd, hxd⟩ : ∃ k, x.H.deadline = k := ⟨_, rfl⟩
    rw [hxk, hxf, hxd]
    clear htk hkp hpe hb1 hb2 hbx hxk hxf hxd
    gi_wp2
    have hk := kept_two W w.heap.size (w.heap.size + 1) (.pointer (some ⟨xk, 0, none⟩)) (.bool true)
    have hS : ∀ k, k < W.heap.size → (k = w.heap.size ∨ k = w.heap.size + 1) → w.heap.size ≤ k ∧ ∃ C t, W.heap[k]? = some (.cells C t (0, 0)) ∧ t ≠ 77 ∧ t ≠ 5 := fun k _ h => by
      rcases h with rfl | rfl
      · exact ⟨Nat.le_refl _, _, _, HB1.out, by decide, by decide⟩
      · exact ⟨Nat.le_succ _, _, _, HB2'.out, by decide, by decide⟩
    have hvl : ∀ g ∈ gs, ∀ k, g.vr.ownBlock = some k → k < w.heap.size := fun g hg k e => by
      obtain ⟨u, o, h5⟩ := GrpAt.vlt (HT.out.grp g hg) k e
      exact blt h5
    have htk2 := HTK.out.hi hk hS hvl HT.out.row.lt (fun k e => (HT.out.row.ents.lt k e).2) ⟨by omega, by omega, by omega⟩
    have hpt : ptrG x = .pointer (some ⟨xk, 0, none⟩) := by rw [← HXK.out]; rfl
    have b1 := zk2 (HB1.out.set (.pointer (some ⟨xk, 0, none⟩))) (Kept.set1 _ (w.heap.size + 1) 0 (.bool true)) (by omega)
    have b2 : Boxed (W.setCell ⟨w.heap.size, 0, none⟩ (.pointer (some ⟨xk, 0, none⟩))) (w.heap.size + 1) 4 u2 := zk2 HB2'.out (Kept.set1 W w.heap.size 0 _) (by omega)
    rw [← hpt] at b1
    refine ⟨⟨hk.size, fun k o hB hk9 hc9 => (hk.block k (Array.getElem?_eq_some_iff.1 hk9).1 (fun h7 => by rcases h7 with h7 | h7 <;> omega)).trans hk9⟩, rfl, htk2, x, by rw [HPE.out]; rfl, ?_, b2.set _, HKP.out.trans hk (fun i hi h7 => by rcases h7 with h7 | h7 <;> omega), Nat.le_trans hsz hk.size⟩
    rw [← hpt]
    exact b1
  case hdone =>
    rintro D xs W hD ⟨htk, ⟨rfl, ⟨u1, hb1⟩, ⟨u2, hb2⟩, hkp, hsz⟩, hend⟩ hK
    have HTK := Lib.hid htk
    have HKP := Lib.hid hkp
    have HB1 := Lib.hid hb1
    have HB2' := Lib.hid hb2
    have HEND := Lib.hid hend
    have hc1 := hb1.cell
    have hf1 := hb1.frozen
    have hc2 := hb2.cell
    have hf2 := hb2.frozen
    have HKD := Lib.hid hK
    clear htk hkp hb1 hb2 hend hK
    gi_wp2
    have hk := kept_two W w.heap.size (w.heap.size + 1) (.pointer none) (.bool false)
    have hS : ∀ k, k < W.heap.size → (k = w.heap.size ∨ k = w.heap.size + 1) → w.heap.size ≤ k ∧ ∃ C t, W.heap[k]? = some (.cells C t (0, 0)) ∧ t ≠ 77 ∧ t ≠ 5 := fun k _ h => by
      rcases h with rfl | rfl
      · exact ⟨Nat.le_refl _, _, _, HB1.out, by decide, by decide⟩
      · exact ⟨Nat.le_succ _, _, _, HB2'.out, by decide, by decide⟩
    have hvl : ∀ g ∈ gs, ∀ k, g.vr.ownBlock = some k → k < w.heap.size := fun g hg k e => by
      obtain ⟨u, o, h5⟩ := GrpAt.vlt (HT.out.grp g hg) k e
      exact blt h5
    have htk2 := HTK.out.hi hk hS hvl HT.out.row.lt (fun k e => (HT.out.row.ents.lt k e).2) ⟨by omega, by omega, by omega⟩
    have b1 := zk2 (HB1.out.set (.pointer none)) (Kept.set1 _ (w.heap.size + 1) 0 (.bool false)) (by omega)
    have b2 : Boxed (W.setCell ⟨w.heap.size, 0, none⟩ (.pointer none)) (w.heap.size + 1) 4 u2 := zk2 HB2'.out (Kept.set1 W w.heap.size 0 _) (by omega)
    have hK9 : ((W.setCell ⟨w.heap.size, 0, none⟩ (.pointer none)).setCell ⟨w.heap.size + 1, 0, none⟩ (.bool false)).heap[D]? = some (.deferred (some [])) := (hk.block D (Array.getElem?_eq_some_iff.1 HKD.out).1 (fun h7 => by rcases h7 with h7 | h7 <;> omega)).trans HKD.out
    have hkp := put_nonC hK9 hD
    have b2' := b2.set (.bool false)
    obtain ⟨e1, e2⟩ := find_none (gs := gs) HEND.out
    have htk3 := htk2.nonC HBM.out hkp
    obtain ⟨vt, htt, hvt⟩ := htk3.tab
    refine ⟨by simp, .inl ⟨_, _, rfl, run_takeDeferred hK9, ?_⟩⟩
    refine ⟨_, results_cell2 rfl _ _ w.heap.size (w.heap.size + 1) _ _ rfl rfl (Boxed.cell (zk2 b1 hkp (nonC_cells b1))) (Boxed.cell (zk2 b2' hkp (nonC_cells b2'))) agg46 agg4, by rw [e1], vt, ?_, hvt, htk3.all, (HKP.out.trans hk (fun i hi h7 => by rcases h7 with h7 | h7 <;> omega)).trans hkp (fun i hi h7 => absurd h7.1 (by omega))⟩
    rw [show cutP (fun g => decide (g.H.frame = f)) gs = gs from e2]
    exact htt
  case hstop =>
    rintro D c pre W hD ⟨rfl, htk, x, rfl, hb1, hb2, hkp, hsz⟩ hK
    have HTK := Lib.hid htk
    have HKP := Lib.hid hkp
    have HB1 := Lib.hid hb1
    have HB2' := Lib.hid hb2
    have HKD := Lib.hid hK
    clear htk hkp hb1 hb2 hK
    gi_wp2
    have hkp := put_nonC HKD.out hD
    have htk3 := HTK.out.nonC HBM.out hkp
    obtain ⟨vt, htt, hvt⟩ := htk3.tab
    have e1 := find_some htk3.le htk3.pre_is
    refine ⟨by simp, .inl ⟨_, _, rfl, run_takeDeferred HKD.out, ?_⟩⟩
    exact ⟨_, results_cell2 rfl _ _ w.heap.size (w.heap.size + 1) _ _ rfl rfl (Boxed.cell (zk2 HB1.out hkp (nonC_cells HB1.out))) (Boxed.cell (zk2 HB2'.out hkp (nonC_cells HB2'.out))) agg46 agg4, by rw [e1], vt, htt, hvt, htk3.all, HKP.out.trans hkp (fun i hi h7 => absurd h7.1 (by omega))⟩
end
end -- TbR

section -- TbS
open Go.RowKit Go.Maps Go.Shelf Go.Sort

set_option linter.unusedVariables false
set_option linter.unusedSimpArgs false
set_option maxRecDepth 100000
set_option maxHeartbeats 4000000

section
variable {w w' : World} {base tb : Nat} {gn cn : Int} {v : Value} {gs : List GD}
/-- Put where the block is refused: nothing is changed. -/
theorem put_bad (ht : TabS w base tb gn cn v gs) (h : HeadV) (vh : Value) (hv : TableAt w vh h.rows) (pb : Option Addr) (n c : Nat) (hn : n ≤ 140737488355328) (E : Int) (he : refE gs h n cn = E) (hE : E ≠ 0) :
    Calls Try.prog 12 #[.pointer (some ⟨tb, 0, none⟩), headVal h vh, .slice pb n c] w fun e w' => e = .returned (.tuple #[.slice none 0 0, .int .i64 E]) ∧ Below w.heap.size w w' := by
  have HE := Lib.hid he
  obtain ⟨pv, cv, hvv⟩ := hv.shape
  subst hvv
  have HVT := Lib.hid hv
  have hrf := fun W (hB : Below w.heap.size w W) => refuses_any (ht.below hB) h (.slice pv h.rows.length cv) (hv.below hB) pb n c hn
  rw [he] at hrf
  obtain ⟨hS, hF, hI, hN, hD, rows⟩ := h
  dsimp only at hrf HVT HE
  have HRF := Lib.hid hrf
  have HMD := Lib.hid (fun W (hB : Below w.heap.size w W) => made_any (ht.below hB).row)
  obtain ⟨M, hM⟩ : ∃ M, rows.length = M := ⟨_, rfl⟩
  rw [hM] at HRF HVT
  clear hrf ht hv he
  obtain ⟨w0, hw0⟩ : ∃ w0, w.alloc (.cells #[.int .i64 hS, .int .i64 hF, .int .i64 hI, .int .i64 hN, .int .i64 hD, .slice pv M cv] 31) = w0 := ⟨_, rfl⟩
  have HBX0 := HeadBox.new w ⟨hS, hF, hI, hN, hD, rows⟩ (.slice pv M cv)
  have HA := balT w (.cells #[.int .i64 hS, .int .i64 hF, .int .i64 hI, .int .i64 hN, .int .i64 hD, .slice pv M cv] 31)
  dsimp only at HBX0
  rw [hw0] at HBX0 HA
  have HBX := Lib.hid HBX0
  have HA := Lib.hid HA
  clear HBX0
  have y0 := HBX.out.c0
  have y1 := HBX.out.c1
  have y2 := HBX.out.c2
  have y3 := HBX.out.c3
  have y4 := HBX.out.c4
  have y5 := HBX.out.c5
  dsimp only at y0 y1 y2 y3 y4
  go_enter Try.func12, Try.ntmps12
  go_wp2_with fail
  refine (HMD.out _ HA.out).mono ?_
  rintro e w1 ⟨rfl, rfl⟩
  go_wp2_with fail
  refine (HRF.out _ HA.out).mono ?_
  rintro e w2 ⟨rfl, hB2⟩
  have HB02 := Lib.hid hB2
  have HB2 := Lib.hid (below_more HA.out hB2 HA.out.size)
  clear y0 y1 y2 y3 y4 y5 hB2
  go_wp2_with fail
  go_ret2
  exact ⟨rfl, HB2.out⟩
theorem tnew_ok (w : World) (hb : base ≤ w.heap.size) (h1 : 0 < gn) (h2 : gn ≤ 64) (h3 : 0 < cn) (h4 : cn ≤ 1048576) :
    Calls Try.prog 7 #[.int .i64 gn, .int .i64 cn] w fun e w' => e = .returned (.tuple #[.pointer (some ⟨w.heap.size, 0, none⟩), .int .i64 0]) ∧ TabS w' base w.heap.size gn cn (.slice none 0 0) [] ∧ Below w.heap.size w w' := by
  have q1 : ¬ gn ≤ 0 := by omega
  have q2 : ¬ 64 < gn := by omega
  have q3 : ¬ cn ≤ 0 := by omega
  have q4 : ¬ 1048576 < cn := by omega
  have HB := Lib.hid hb
  clear h1 h2 h3 h4 hb
  go_enter Try.func7, Try.ntmps7
  go_wp2_with fail
  go_ret2
  exact ⟨rfl, ⟨⟨World.alloc_heap_new w _, EntsAt.nil _ _, HB.out, by simp [Value.ownBlock], by simp⟩, fun g hg => absurd hg (List.not_mem_nil), fun g hg => absurd hg (List.not_mem_nil), List.nodup_nil⟩, balT w _⟩
theorem tnew_bad (w : World) (h : ¬ (0 < gn ∧ gn ≤ 64 ∧ 0 < cn ∧ cn ≤ 1048576)) :
    Calls Try.prog 7 #[.int .i64 gn, .int .i64 cn] w fun e w' => e = .returned (.tuple #[.pointer none, .int .i64 2]) ∧ w' = w := by
  by_cases q1 : gn ≤ 0
  · clear h
    go_enter Try.func7, Try.ntmps7
    go_wp2
    go_ret2
    exact ⟨rfl, rfl⟩
  · by_cases q2 : 64 < gn
    · clear h
      go_enter Try.func7, Try.ntmps7
      go_wp2
      go_ret2
      exact ⟨rfl, rfl⟩
    · by_cases q3 : cn ≤ 0
      · clear h
        go_enter Try.func7, Try.ntmps7
        go_wp2
        go_ret2
        exact ⟨rfl, rfl⟩
      · have q4 : 1048576 < cn := by omega
        clear h
        go_enter Try.func7, Try.ntmps7
        go_wp2
        go_ret2
        exact ⟨rfl, rfl⟩
end
end -- TbS

section -- TbT
open Go.RowKit Go.Maps Go.Shelf Go.Sort

set_option linter.unusedVariables false
set_option linter.unusedSimpArgs false
set_option maxRecDepth 100000
set_option maxHeartbeats 4000000

theorem lawof_any (w : World) (f d i a b : Int) :
    Calls Try.prog 23 #[.int .i64 f, .int .i64 d, .int .i64 i, .int .i64 a, .int .i64 b] w fun e w' => ∃ v, e = .returned (headVal ⟨1, f, i, 4, d, [(a, b)]⟩ v) ∧ TableAt w' v [(a, b)] ∧ (∀ k, v.ownBlock = some k → w.heap.size ≤ k) ∧ Below w.heap.size w w' := by
  go_enter Try.func23, Try.ntmps23
  have HB1 := Lib.hid (balT w (.cells #[.int .i64 1, .int .i64 f, .int .i64 i, .int .i64 4, .int .i64 d, .slice (some ⟨w.heap.size + 1, 0, none⟩) 1 1] 31))
  have HB2 := Lib.hid (balT (w.alloc (.cells #[.int .i64 1, .int .i64 f, .int .i64 i, .int .i64 4, .int .i64 d, .slice (some ⟨w.heap.size + 1, 0, none⟩) 1 1] 31)) (.cells #[.int .i64 a, .int .i64 b] 80))
  have hx := (HeadBox.new w ⟨1, f, i, 4, d, [(a, b)]⟩ (.slice (some ⟨w.heap.size + 1, 0, none⟩) 1 1)).below HB2.out
  have HX := Lib.hid hx
  clear hx
  go_wp2
  refine bodyPost_ret (results_cell_row rfl _ _ w.heap.size _ _ (0, 0) _ rfl HX.out Try.underlying31 rfl (by kernel_rfl)) rfl ⟨_, rfl, ?_, ?_, below_more HB1.out HB2.out HB1.out.size⟩
  · refine ⟨_, 1, rfl, Nat.le_refl _, fun _ => ⟨w.heap.size + 1, 0, rfl, fun j hj => ?_⟩⟩
    have e := World.cell?_alloc_new (w.alloc (.cells #[.int .i64 1, .int .i64 f, .int .i64 i, .int .i64 4, .int .i64 d, .slice (some ⟨w.heap.size + 1, 0, none⟩) 1 1] 31)) #[.int .i64 a, .int .i64 b] 80
    rw [World.size_alloc] at e
    obtain rfl : j = 0 := by simp at hj; omega
    exact ⟨e 0, e 1⟩
  · intro k e
    have : w.heap.size + 1 = k := by simpa [Value.ownBlock] using e
    omega

theorem lawhas_any (w : World) (v : Value) (xs : List Int) (x : Int) (hx : IntsAt w v xs) (hl : xs.length ≤ 1000000) :
    Calls Try.prog 14 #[v, .int .i64 x] w fun e w' => e = .returned (.bool (decide (x ∈ xs))) ∧ w' = w := by
  obtain ⟨p, c, rfl, hc, hh⟩ := hx
  have HH := Lib.hid hh
  obtain ⟨M, hM⟩ : ∃ M, xs.length = M := ⟨_, rfl⟩
  have HM := Lib.hid hM
  rw [hM] at hc hl ⊢
  clear hh hM
  go_enter Try.func14, Try.ntmps14
  go_wp2
  go_loopw [5] (fun i wr => ∃ k : Nat, k ≤ M ∧ i = .int .i64 (k : Int) ∧ (∀ j, j < k → xs.getD j 0 ≠ x) ∧ wr = w) (fun i _ => M - (intOf i).toNat)
  case atStart => exact ⟨0, Nat.zero_le _, rfl, fun j h => absurd h (by omega), rfl⟩
  case round =>
    obtain ⟨k, hk, rfl, hno, rfl⟩ := hrel
    have HN := Lib.hid hno
    clear hno
    by_cases hlt : k < M
    · obtain ⟨g, off, rfl, hcc⟩ := HH.out (by rw [HM.out]; omega)
      have hck := hcc k (by rw [HM.out]; exact hlt)
      obtain ⟨y, hy⟩ : ∃ y, xs.getD k 0 = y := ⟨_, rfl⟩
      have HY := Lib.hid hy
      rw [hy] at hck
      clear hy hcc
      by_cases hyx : y = x
      · have HE := Lib.hid (show decide (x ∈ xs) = true from decide_eq_true (by
          rw [← hyx, ← HY.out, List.getD_eq_getElem?_getD, List.getElem?_eq_getElem (by rw [HM.out]; exact hlt)]
          exact List.getElem_mem _))
        subst hyx
        go_wp2
        go_ret
        exact ⟨by rw [HE.out]; rfl, rfl⟩
      · have HE := Lib.hid (show xs.getD k 0 ≠ x by rw [HY.out]; exact hyx)
        go_wp2
        go_roundw
        case rel =>
          refine ⟨k + 1, by omega, by go_num, fun j hj => ?_, trivial⟩
          by_cases hjk : j < k
          · exact HN.out j hjk
          · obtain rfl : j = k := by omega
            exact HE.out
        case measure => simp [intOf]; omega
    · obtain rfl : k = M := by omega
      have HE := Lib.hid (show decide (x ∈ xs) = false from decide_eq_false (fun h => by
        obtain ⟨j, hj, e⟩ := List.getElem_of_mem h
        refine HN.out j (by have := HM.out; omega) ?_
        rw [List.getD_eq_getElem?_getD, List.getElem?_eq_getElem hj]
        exact e))
      go_wp2
      go_ret
      exact ⟨by rw [HE.out]; rfl, rfl⟩
end -- TbT

end Go.Proofs.Ytibelpamolcmcaa
