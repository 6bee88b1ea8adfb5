/-
  TbC: slices.Insert of one element into a row of elements of three cells.
  GpB: Layer 17, plain: bodies by their indexes, rising; what a group answers.
  GpC: Walks of layer 17: headers: between, Right, slices.Equal of rows, Like.
-/
import Derived.Test.YtibelpamolcmcaaMxau
import Derived.Test.YtibelpamolcmcaaMxam
import Derived.Test.YtibelpamolcmcaaMxan
import Derived.Test.YtibelpamolcmcaaMxad
namespace Go.Proofs.Ytibelpamolcmcaa

section -- TbC
open Go.RowKit Go.Maps
set_option linter.unusedVariables false
set_option linter.unusedSimpArgs false
set_option maxRecDepth 100000
set_option maxHeartbeats 4000000

/-- At the end. -/
theorem oins_end (w : World) (base : Nat) (v : Value) (n vb : Nat) (xs ys : List Value) (ho : w.ownsRow base 65 3 v n xs) (hy : ys.length = 3) (hy1 : ∀ u ∈ ys, u.oneCell' = true) (hv : ∀ j u, ys[j]? = some u → w.cell? ⟨vb, 0 + j, none⟩ = some u) (hn : n ≤ 1000000) (hb : base ≤ w.heap.size) :
    Calls Try.prog 53 #[v, .int .i64 (n : Int), .slice (some ⟨vb, 0, none⟩) 1 1] w fun e w' => ∃ g' c', e = .returned (.slice (some ⟨g', 0, none⟩) (n + 1) c') ∧ w'.ownsRow base 65 3 (.slice (some ⟨g', 0, none⟩) (n + 1) c') (n + 1) (xs ++ ys) ∧ Kept (fun k => v.ownBlock = some k) w w' ∧ (v.ownBlock = some g' ∨ w.heap.size ≤ g') := by
  obtain ⟨i0, hi0, hz0, hz1, hz2⟩ := info_parts infoOp
  have hr : ∀ ty, ∃ g' c' w', (Builtin.append_ #[56, 56] ty #[v, .slice (some ⟨vb, 0, none⟩) 1 1]).run Try.prog w = .ok (.slice (some ⟨g', 0, none⟩) (n + 1) c') w' ∧ w'.ownsRow base 65 3 (.slice (some ⟨g', 0, none⟩) (n + 1) c') (n + 1) (xs ++ ys) ∧ Kept (fun k => v.ownBlock = some k) w w' ∧ (v.ownBlock = some g' ∨ w.heap.size ≤ g') := fun ty => by
    have h := run_app (P := Try.prog) (w := w) base 56 ty 65 i0 _ Try.underlying56 hi0 hz0 (by rw [hz1]; rfl) v n xs (by rw [hz1]; exact ho) vb 0 1 1 ys (by rw [hz1]; exact hy) (by omega) (fun j u hj => by rw [add_off]; exact hv j u hj) hy1 (by omega) (by rw [hz2]; omega) hb
    rw [hz1] at h
    exact h
  have hsh : ∃ p c, v = .slice p n c ∧ n ≤ c := by
    rcases ho.2 with ⟨rfl, rfl⟩ | ⟨g, cap, cur, rfl, _, _, h, _⟩
    · exact ⟨none, 0, rfl, Nat.le_refl _⟩
    · exact ⟨_, cap, rfl, h⟩
  obtain ⟨p, c, hv2, hnc⟩ := hsh
  obtain ⟨g', c', w', h1, h2⟩ := hr 56
  have H1 := Lib.hid h1
  have H2 := Lib.hid h2
  subst hv2
  clear hr ho hv h1 h2
  go_enter Try.func53, Try.ntmps53
  go_wp2_with (at_builtin; refine Lib.wpList_append_run _ rfl _ _ _ _ rfl _ _ (by rfl) (by rfl) _ _ H1.out ?_)
  all_goals (go_ret; first | exact ⟨_, _, rfl, H2.out⟩ | (subst_vars; exact ⟨_, _, rfl, H2.out⟩))

/-- There is room: in place. -/
theorem oins_shift (w : World) (g n cap i vb : Nat) (cur V : Array Value) (ys : List Value) (hg : w.heap[g]? = some (.cells cur 65 (0, 0))) (hcs : cur.size = cap * 3) (hn : n + 1 ≤ cap) (hcm : cap ≤ maxLen) (hi : i < n) (h1 : ∀ u ∈ cur.toList.take (n * 3), u.oneCell' = true) (hne : vb ≠ g) (hvb : w.heap[vb]? = some (.cells V 65 (0, 0))) (hV : V.toList = ys) (hy : ys.length = 3) (hy1 : ∀ u ∈ ys, u.oneCell' = true) :
    Calls Try.prog 53 #[.slice (some ⟨g, 0, none⟩) n cap, .int .i64 (i : Int), .slice (some ⟨vb, 0, none⟩) 1 1] w fun e w' => e = .returned (.slice (some ⟨g, 0, none⟩) (n + 1) cap) ∧
      (∃ cur', w'.heap[g]? = some (.cells cur' 65 (0, 0)) ∧ cur'.size = cur.size ∧ cur'.toList.take ((n + 1) * 3) = (cur.toList.take (n * 3)).take (i * 3) ++ ys ++ (cur.toList.take (n * 3)).drop (i * 3)) ∧ Kept (fun k => k = g) w w' := by
  obtain ⟨i0, hi0, hz0, hz1, hz2⟩ := info_parts infoOp
  have hsz : (Try.prog.info? 65).map (·.size) = some 3 := by rw [hi0]; simp [hz1]
  have hsz2 : ∀ w, (Go.sizeOf 65).run Try.prog w = .ok 3 w := fun w => by simp [sizeOf, typeInfo, hi0, hz1]
  unfold maxLen at hcm
  have hov : ∀ lb cb, (callFunc 63 #[.slice (some ⟨vb, 0, none⟩) 1 1, .slice (some ⟨g, (i + 1) * 3, none⟩) lb cb]).run Try.prog w = .ok (.value (.bool false)) w := fun lb cb => by
    have hk : 0 < cur.size := by omega
    have hsa : w.shape? vb = some (65, V.size) := by simp [World.shape?, hvb]
    have hsb : w.shape? g = some (65, cur.size) := by simp [World.shape?, hg]
    rw [run_callFunc_extern Try.func63 (by kernel_rfl) (by kernel_rfl) (by kernel_rfl) (e := Extern.SlicesOverlaps.overlaps #[56, 56] #[4]) (by kernel_rfl),
      Lib.run_overlaps_apart w 56 4 65 Try.underlying56 3 hsz2 ⟨vb, 0, none⟩ ⟨g, (i + 1) * 3, none⟩ 1 1 lb cb hne 65 65 V.size cur.size hsa hsb (by omega) (fz_of hvb _) (fz_of hvb _)]
    rfl
  obtain ⟨xs, hxs⟩ : ∃ xs, cur.toList.take (n * 3) = xs := ⟨_, rfl⟩
  have hxl : xs.length = n * 3 := by rw [← hxs, List.length_take, Array.length_toList]; omega
  have hdl : (xs.drop (i * 3)).length = (n - i) * 3 := by rw [List.length_drop, hxl]; omega
  obtain ⟨X, hX⟩ : ∃ X, (cur.toList.take ((i + 1) * 3) ++ xs.drop (i * 3) ++ cur.toList.drop ((i + 1) * 3 + (xs.drop (i * 3)).length)).toArray = X := ⟨_, rfl⟩
  have HGD : w.drew.heap[g]? = some (.cells cur 65 (0, 0)) := hg
  have hcp1 : ∀ ty dc sc, (Builtin.copy_ #[56, 56] ty #[.slice (some ⟨g, (i + 1) * 3, none⟩) (n - i) dc, .slice (some ⟨g, i * 3, none⟩) (n + 1 - i) sc]).run Try.prog w.drew = .ok (goInt (Nat.min (n + 1 - i) (n - i))) (w.drew.setRow g X) := fun ty dc sc => by
    have h := run_copy_k (P := Try.prog) w.drew 56 56 ty 65 3 Try.underlying56 hsz g ((i + 1) * 3) (n - i) dc g (i * 3) (n + 1 - i) sc cur 65 (xs.drop (i * 3)) HGD (by rw [hdl, show Nat.min (n + 1 - i) (n - i) = n - i by simp only [Nat.min_def]; split <;> omega])
      (fun j u hj => by
        have hj1 := (List.getElem?_eq_some_iff.1 hj).1
        rw [hdl] at hj1
        rw [cell_of HGD, ← hj, List.getElem?_drop, ← hxs, List.getElem?_take, if_pos (by omega), Array.getElem?_toList])
      (by rw [hdl]; omega) (fun u hu => h1 u (by rw [hxs]; exact List.mem_of_mem_drop hu))
    rw [hX] at h
    exact h
  have hXs : X.size = cap * 3 := by
    rw [← hX]
    simp only [List.size_toArray, List.length_append, hdl, List.length_take, List.length_drop, Array.length_toList]
    omega
  have hX1 : X.toList.take (i * 3) = xs.take (i * 3) := by
    rw [← hX, ← hxs]
    show ((cur.toList.take ((i + 1) * 3) ++ _ ++ _).take (i * 3)) = _
    rw [List.append_assoc, List.take_append_of_le_length (by rw [List.length_take, Array.length_toList]; omega), List.take_take, List.take_take]
    congr 1
    omega
  have hX2 : X.toList.drop (i * 3 + 3) = xs.drop (i * 3) ++ cur.toList.drop ((n + 1) * 3) := by
    rw [← hX]
    show ((cur.toList.take ((i + 1) * 3) ++ _ ++ _).drop (i * 3 + 3)) = _
    have hl : (cur.toList.take ((i + 1) * 3)).length = i * 3 + 3 := by rw [List.length_take, Array.length_toList]; omega
    rw [List.append_assoc, ← hl, List.drop_left]
    congr 2
    rw [hdl]
    omega
  have HXG : (w.drew.setRow g X).heap[g]? = some (.cells X 65 (0, 0)) := setRow_heap w.drew g cur X 65 (0, 0) HGD
  have HXV : (w.drew.setRow g X).heap[vb]? = some (.cells V 65 (0, 0)) := (setRow_other w.drew g vb X hne).trans hvb
  obtain ⟨Y, hY⟩ : ∃ Y, (X.toList.take (i * 3) ++ ys ++ X.toList.drop (i * 3 + ys.length)).toArray = Y := ⟨_, rfl⟩
  have hcp2 : ∀ ty dc, (Builtin.copy_ #[56, 56] ty #[.slice (some ⟨g, i * 3, none⟩) (n + 1 - i) dc, .slice (some ⟨vb, 0, none⟩) 1 1]).run Try.prog (w.drew.setRow g X) = .ok (goInt (Nat.min 1 (n + 1 - i))) ((w.drew.setRow g X).setRow g Y) := fun ty dc => by
    have h := run_copy_k (P := Try.prog) (w.drew.setRow g X) 56 56 ty 65 3 Try.underlying56 hsz g (i * 3) (n + 1 - i) dc vb 0 1 1 X 65 ys HXG (by rw [hy, show Nat.min 1 (n + 1 - i) = 1 by simp only [Nat.min_def]; split <;> omega])
      (fun j u hj => by rw [cell_of HXV, Nat.zero_add, ← hj, ← hV, Array.getElem?_toList]) (by rw [hy]; omega) hy1
    rw [hY] at h
    exact h
  have hYs : Y.size = cap * 3 := by
    rw [← hY]
    simp only [List.size_toArray, List.length_append, List.length_take, List.length_drop, Array.length_toList, hy]
    omega
  have hYt : Y.toList.take ((n + 1) * 3) = xs.take (i * 3) ++ ys ++ xs.drop (i * 3) := by
    rw [← hY]
    show ((X.toList.take (i * 3) ++ ys ++ X.toList.drop (i * 3 + ys.length)).take ((n + 1) * 3)) = _
    rw [hy, hX2, hX1, ← List.append_assoc]
    have hl : (xs.take (i * 3) ++ ys ++ xs.drop (i * 3)).length = (n + 1) * 3 := by
      simp only [List.length_append, List.length_take, hxl, hy, hdl]
      omega
    rw [← hl]
    exact List.take_left
  have HY := Lib.hid hYt
  have HYZ := Lib.hid (show (w.drew.setRow g X).setRow g Y = (w.drew.setRow g X).setRow g Y ∧ Y.size = cur.size from ⟨rfl, by rw [hYs, hcs]⟩)
  have HFIN := Lib.hid (show ((w.drew.setRow g X).setRow g Y).heap[g]? = some (.cells Y 65 (0, 0)) from setRow_heap _ g X Y 65 (0, 0) HXG)
  have HK := Lib.hid (show Kept (fun k => k = g) w ((w.drew.setRow g X).setRow g Y) from ((Kept.refl (fun k => k = g) w).drew.trans (Kept.setRow w.drew g X) (fun _ _ h => h)).trans (Kept.setRow _ g Y) (fun _ _ h => h))
  have HKX := Lib.hid (show Kept (fun k => k = g) w (w.drew.setRow g X) from (Kept.refl (fun k => k = g) w).drew.trans (Kept.setRow w.drew g X) (fun _ _ h => h))
  have hcn1 : ¬ cap = i + 1 := by omega
  have hcn2 : ¬ cap = i := by omega
  have hni : ¬ ((i : Int) = (n : Int)) := by omega
  have hb1 : (0 : Int) ≤ (i : Int) + 1 ∧ (i : Int) + 1 ≤ (n : Int) + 1 := by omega
  have hb2 : (i : Int) ≤ (n : Int) + 1 := by omega
  have hnc : ¬ (cap : Int) < (n : Int) + 1 := by omega
  have hw1 : IntKind.i64.wrap ((i : Int) + 1) = (i : Int) + 1 := by rw [IntKind.wrap_i64]; omega
  have HXS := Lib.hid hxs
  have HCP1 := Lib.hid hcp1
  have HCP2 := Lib.hid hcp2
  clear hcp1 hcp2 hYt hYs HXG HXV hX1 hX2 hXs hdl hxl hX hxs hg hvb HGD hY h1
  go_enter Try.func53, Try.ntmps53
  go_wp2_with (simp only [hov])
  refine s_start 9 (fun W => Kept (fun k => k = g) w W) (by as_aux_lemma => kernel_rfl) (by as_aux_lemma => kernel_rfl) (Kept.refl _ w).drew ?_
  refine s_take 0 (by as_aux_lemma => kernel_rfl) (by as_aux_lemma => kernel_rfl) (by as_aux_lemma => kernel_rfl) (by as_aux_lemma => kernel_rfl) (Kept.refl _ w).drew (fun oi ho => ?_)
  simp only [List.getElem?_toArray, List.getElem?_cons_succ, List.getElem?_cons_zero, Option.some.injEq] at ho
  subst ho
  refine ⟨?_, Or.inl ⟨by rfl, fun w _ => ?_⟩, ?_⟩
  rotate_left
  · (go_simp <;> with_reducible rfl)
  try simp only [Act.put, List.setIfInBounds_toArray, List.set_cons_zero, List.set_cons_succ]
  refine s_take 1 (by as_aux_lemma => kernel_rfl) (by as_aux_lemma => kernel_rfl) (by as_aux_lemma => kernel_rfl) (by as_aux_lemma => kernel_rfl) (Kept.refl _ w).drew (fun oi ho => ?_)
  simp only [List.getElem?_toArray, List.getElem?_cons_succ, List.getElem?_cons_zero, Option.some.injEq] at ho
  subst ho
  refine ⟨?_, Or.inl ⟨by rfl, fun w _ => ?_⟩, ?_⟩
  rotate_left
  · (go_simp <;> with_reducible rfl)
  try simp only [Act.put, List.setIfInBounds_toArray, List.set_cons_zero, List.set_cons_succ]
  refine s_take 2 (by as_aux_lemma => kernel_rfl) (by as_aux_lemma => kernel_rfl) (by as_aux_lemma => kernel_rfl) (by as_aux_lemma => kernel_rfl) (Kept.refl _ w).drew (fun oi ho => ?_)
  simp only [List.getElem?_toArray, List.getElem?_cons_succ, List.getElem?_cons_zero, Option.some.injEq] at ho
  subst ho
  refine ⟨?_, Or.inl ⟨by rfl, fun w _ => ?_⟩, ?_⟩
  rotate_left
  · (go_simp <;> with_reducible rfl)
  try simp only [Act.put, List.setIfInBounds_toArray, List.set_cons_zero, List.set_cons_succ]
  refine s_take 3 (by as_aux_lemma => kernel_rfl) (by as_aux_lemma => kernel_rfl) (by as_aux_lemma => kernel_rfl) (by as_aux_lemma => kernel_rfl) (Kept.refl _ w).drew (fun oi ho => ?_)
  simp only [List.getElem?_toArray, List.getElem?_cons_succ, List.getElem?_cons_zero, Option.some.injEq] at ho
  subst ho
  refine ⟨.int .i64 ((i : Int) + 1), Or.inl ⟨by rfl, fun w' hS' => ?_⟩, ?_⟩
  · (go_simp <;> first | with_reducible rfl | simp [hw1])
  try simp only [Act.put, List.setIfInBounds_toArray, List.set_cons_zero, List.set_cons_succ]
  refine s_take 4 (by as_aux_lemma => kernel_rfl) (by as_aux_lemma => kernel_rfl) (by as_aux_lemma => kernel_rfl) (by as_aux_lemma => kernel_rfl) (Kept.refl _ w).drew (fun oi ho => ?_)
  simp only [List.getElem?_toArray, List.getElem?_cons_succ, List.getElem?_cons_zero, Option.some.injEq] at ho
  subst ho
  refine ⟨?_, Or.inl ⟨by rfl, fun w _ => ?_⟩, ?_⟩
  rotate_left
  · (go_simp <;> with_reducible rfl)
  try simp only [Act.put, List.setIfInBounds_toArray, List.set_cons_zero, List.set_cons_succ]
  refine s_take 5 (by as_aux_lemma => kernel_rfl) (by as_aux_lemma => kernel_rfl) (by as_aux_lemma => kernel_rfl) (by as_aux_lemma => kernel_rfl) (Kept.refl _ w).drew (fun oi ho => ?_)
  simp only [List.getElem?_toArray, List.getElem?_cons_succ, List.getElem?_cons_zero, Option.some.injEq] at ho
  subst ho
  refine ⟨?_, Or.inl ⟨by rfl, fun w _ => ?_⟩, ?_⟩
  rotate_left
  · (go_simp <;> with_reducible rfl)
  try simp only [Act.put, List.setIfInBounds_toArray, List.set_cons_zero, List.set_cons_succ]
  refine s_take 6 (by as_aux_lemma => kernel_rfl) (by as_aux_lemma => kernel_rfl) (by as_aux_lemma => kernel_rfl) (by as_aux_lemma => kernel_rfl) (Kept.refl _ w).drew (fun oi ho => ?_)
  simp only [List.getElem?_toArray, List.getElem?_cons_succ, List.getElem?_cons_zero, Option.some.injEq] at ho
  subst ho
  refine ⟨?_, Or.inl ⟨by rfl, fun w _ => ?_⟩, ?_⟩
  rotate_left
  · (go_simp <;> with_reducible rfl)
  try simp only [Act.put, List.setIfInBounds_toArray, List.set_cons_zero, List.set_cons_succ]
  refine s_take 7 (by as_aux_lemma => kernel_rfl) (by as_aux_lemma => kernel_rfl) (by as_aux_lemma => kernel_rfl) (by as_aux_lemma => kernel_rfl) (Kept.refl _ w).drew (fun oi ho => ?_)
  simp only [List.getElem?_toArray, List.getElem?_cons_succ, List.getElem?_cons_zero, Option.some.injEq] at ho
  subst ho
  refine ⟨?_, Or.inl ⟨by rfl, fun w _ => ?_⟩, ?_⟩
  rotate_left
  · (go_simp <;> with_reducible rfl)
  try simp only [Act.put, List.setIfInBounds_toArray, List.set_cons_zero, List.set_cons_succ]
  refine s_all (rs := [8]) (by as_aux_lemma => kernel_rfl) (by simp) ?_
  refine s_step 8 (by as_aux_lemma => kernel_rfl) (fun o ho K hK => ?_) AllReadyH.nil
  simp only [List.getElem?_toArray, List.getElem?_cons_succ, List.getElem?_cons_zero, Option.some.injEq] at ho
  subst ho
  refine step_copy_run rfl _ _ _ _ rfl _ _ (by rfl) (by rfl) (HCP1.out _ _ _) ?_
  refine hK.out _ _ HKX.out ?_
  clear hK K
  try simp only [Act.put, List.setIfInBounds_toArray, List.set_cons_zero, List.set_cons_succ]
  refine s_done (by as_aux_lemma => kernel_rfl) ?_
  skip
  have hcp2 := HCP2.out
  have hfin := HFIN.out
  generalize (w.drew.setRow g X).setRow g Y = WY at *
  generalize w.drew.setRow g X = WX at *
  go_wp2
  go_ret
  exact ⟨rfl, ⟨Y, HFIN.out, HYZ.out.2, by rw [HXS.out]; exact HY.out⟩, HK.out⟩

/-- There is no room: a new row. -/
theorem oins_grow (w : World) (g n cap i vb : Nat) (cur V : Array Value) (ys : List Value) (hg : w.heap[g]? = some (.cells cur 65 (0, 0))) (hcs : cur.size = cap * 3) (hn : n ≤ cap) (hnc : cap < n + 1) (hn1 : n ≤ 1000000) (hi : i < n) (h1 : ∀ u ∈ cur.toList.take (n * 3), u.oneCell' = true) (hvb : w.heap[vb]? = some (.cells V 65 (0, 0))) (hV : V.toList = ys) (hy : ys.length = 3) (hy1 : ∀ u ∈ ys, u.oneCell' = true) :
    Calls Try.prog 53 #[.slice (some ⟨g, 0, none⟩) n cap, .int .i64 (i : Int), .slice (some ⟨vb, 0, none⟩) 1 1] w fun e w' => ∃ c', e = .returned (.slice (some ⟨w.heap.size, 0, none⟩) (n + 1) c') ∧ n + 1 ≤ c' ∧ c' ≤ maxLen ∧
      (∃ cur', w'.heap[w.heap.size]? = some (.cells cur' 65 (0, 0)) ∧ cur'.size = c' * 3 ∧ cur'.toList.take ((n + 1) * 3) = (cur.toList.take (n * 3)).take (i * 3) ++ ys ++ (cur.toList.take (n * 3)).drop (i * 3)) ∧ Below w.heap.size w w' := by
  obtain ⟨i0, hi0, hz0, hz1, hz2⟩ := info_parts infoOp
  have hsz : (Try.prog.info? 65).map (·.size) = some 3 := by rw [hi0]; simp [hz1]
  obtain rfl : cap = n := by omega
  have hgl : g < w.heap.size := (Array.getElem?_eq_some_iff.1 hg).1
  have hvl : vb < w.heap.size := (Array.getElem?_eq_some_iff.1 hvb).1
  obtain ⟨xs, hxs⟩ : ∃ xs, cur.toList.take (cap * 3) = xs := ⟨_, rfl⟩
  have hxl : xs.length = cap * 3 := by rw [← hxs, List.length_take, Array.length_toList]; omega
  have hdl : (xs.drop (i * 3)).length = (cap - i) * 3 := by rw [List.length_drop, hxl]; omega
  have htl : (xs.take (i * 3)).length = i * 3 := by rw [List.length_take, hxl]; omega
  have hkk : (cap : Int) + 1 - (i : Int) = ((cap + 1 - i : Nat) : Int) := by omega
  have HGD : w.drew.heap[g]? = some (.cells cur 65 (0, 0)) := hg
  have hold : (Builtin.firstCells i0.size i (.slice (some ⟨g, 0, none⟩) i cap)).run Try.prog w.drew = .ok (xs.take (i * 3)).toArray w.drew := by
    rw [hz1]
    refine run_firstCells_some w.drew 3 i ⟨g, 0, none⟩ i cap (xs.take (i * 3)) htl (fun j u hj => ?_)
    have hj1 := (List.getElem?_eq_some_iff.1 hj).1
    rw [htl] at hj1
    rw [add_off, cell_of HGD, Nat.zero_add, ← hj, List.getElem?_take, if_pos hj1, ← hxs, List.getElem?_take, if_pos (by omega), Array.getElem?_toList]
  obtain ⟨G, hG⟩ : ∃ G, grownCap w (cap + 1) cap 65 = G := ⟨_, rfl⟩
  have hGn : cap + 1 ≤ G := hG ▸ grownCap_ge w (cap + 1) cap 65
  have hGm : G ≤ maxLen := hG ▸ grownCap_le_maxLen w (cap + 1) cap 65 (by unfold maxLen; omega)
  obtain ⟨R, hR⟩ : ∃ R, ((xs.take (i * 3)).toArray ++ Builtin.zeroCells (Value.agg #[.pointer none, .int .i64 0, .int .i64 0]).cells (cap + 1 - i) ++ Builtin.zeroCells (Value.agg #[.pointer none, .int .i64 0, .int .i64 0]).cells (G - (cap + 1))) = R := ⟨_, rfl⟩
  have hRs : R.size = G * 3 := by
    rw [← hR]
    simp only [Array.size_append, List.size_toArray, htl, size_zeroCells]
    show i * 3 + (cap + 1 - i) * 3 + (G - (cap + 1)) * 3 = G * 3
    omega
  have hRt : R.toList.take (i * 3) = xs.take (i * 3) := by
    rw [← hR]
    simp only [Array.toList_append, List.append_assoc]
    rw [List.take_append_of_le_length (by simp [htl])]
    exact List.take_of_length_le (by simp [htl])
  have hrz : ∀ ty, (Builtin.append_ #[56, 3] ty #[.slice (some ⟨g, 0, none⟩) i cap, .int .i64 ((cap : Int) + 1 - (i : Int))]).run Try.prog w =
      .ok (.slice (some ⟨w.heap.size, 0, none⟩) (cap + 1) G) (w.drew.alloc (.cells R 65)) := fun ty => by
    have h := Lib.run_append_grow_zeros (P := Try.prog) w 56 3 ty 65 i0 _ .i64 .i64 Try.underlying56 Try.underlying3 hi0 hz0 (some ⟨g, 0, none⟩) i cap (xs.take (i * 3)) hold (cap + 1 - i) (by omega) (by omega) (by omega) (by omega) (by rw [hz2]; omega) (by rw [hz2, show i + (cap + 1 - i) = cap + 1 by omega]; exact growslice_fits hnc (by omega))
    rw [show i + (cap + 1 - i) = cap + 1 by omega, hG, hR] at h
    rw [hkk]
    exact h
  obtain ⟨W1, hW1⟩ : ∃ W1, W1 = w.drew.alloc (.cells R 65) := ⟨_, rfl⟩
  rw [← hW1] at hrz
  have h1R : W1.heap[w.heap.size]? = some (.cells R 65 (0, 0)) := hW1 ▸ heap_alloc_new w.drew _
  have h1V : W1.heap[vb]? = some (.cells V 65 (0, 0)) := by rw [hW1]; exact (Below.heap_alloc w.drew _ vb hvl).trans hvb
  have h1G : W1.heap[g]? = some (.cells cur 65 (0, 0)) := by rw [hW1]; exact (Below.heap_alloc w.drew _ g hgl).trans HGD
  obtain ⟨X, hX⟩ : ∃ X, (R.toList.take (i * 3) ++ ys ++ R.toList.drop (i * 3 + ys.length)).toArray = X := ⟨_, rfl⟩
  have hcp1 : ∀ ty dc, (Builtin.copy_ #[56, 56] ty #[.slice (some ⟨w.heap.size, i * 3, none⟩) (cap + 1 - i) dc, .slice (some ⟨vb, 0, none⟩) 1 1]).run Try.prog W1 = .ok (goInt (Nat.min 1 (cap + 1 - i))) (W1.setRow w.heap.size X) := fun ty dc => by
    have h := run_copy_k (P := Try.prog) W1 56 56 ty 65 3 Try.underlying56 hsz w.heap.size (i * 3) (cap + 1 - i) dc vb 0 1 1 R 65 ys h1R (by rw [hy, show Nat.min 1 (cap + 1 - i) = 1 by simp only [Nat.min_def]; split <;> omega])
      (fun j u hj => by rw [cell_of h1V, Nat.zero_add, ← hj, ← hV, Array.getElem?_toList]) (by rw [hy]; omega) hy1
    rw [hX] at h
    exact h
  obtain ⟨W2, hW2⟩ : ∃ W2, W2 = W1.setRow w.heap.size X := ⟨_, rfl⟩
  rw [← hW2] at hcp1
  have h2X : W2.drew.heap[w.heap.size]? = some (.cells X 65 (0, 0)) := by rw [hW2]; exact setRow_heap W1 w.heap.size R X 65 (0, 0) h1R
  have h2G : W2.drew.heap[g]? = some (.cells cur 65 (0, 0)) := by rw [hW2]; exact (setRow_other W1 w.heap.size g X (by omega)).trans h1G
  have hXs : X.size = G * 3 := by
    rw [← hX]
    simp only [List.size_toArray, List.length_append, List.length_take, List.length_drop, Array.length_toList, hy]
    omega
  have hXt : X.toList.take ((i + 1) * 3) = xs.take (i * 3) ++ ys := by
    rw [← hX, hRt]
    show ((xs.take (i * 3) ++ ys ++ _).take ((i + 1) * 3)) = _
    have hl : (xs.take (i * 3) ++ ys).length = (i + 1) * 3 := by rw [List.length_append, htl, hy]; omega
    rw [← hl]
    exact List.take_left
  obtain ⟨Y, hY⟩ : ∃ Y, (X.toList.take ((i + 1) * 3) ++ xs.drop (i * 3) ++ X.toList.drop ((i + 1) * 3 + (xs.drop (i * 3)).length)).toArray = Y := ⟨_, rfl⟩
  have hcp2 : ∀ ty dc sc, (Builtin.copy_ #[56, 56] ty #[.slice (some ⟨w.heap.size, (i + 1) * 3, none⟩) (cap - i) dc, .slice (some ⟨g, i * 3, none⟩) (cap - i) sc]).run Try.prog W2.drew = .ok (goInt (Nat.min (cap - i) (cap - i))) (W2.drew.setRow w.heap.size Y) := fun ty dc sc => by
    have h := run_copy_k (P := Try.prog) W2.drew 56 56 ty 65 3 Try.underlying56 hsz w.heap.size ((i + 1) * 3) (cap - i) dc g (i * 3) (cap - i) sc X 65 (xs.drop (i * 3)) h2X (by rw [hdl, show Nat.min (cap - i) (cap - i) = cap - i from Nat.min_self _])
      (fun j u hj => by
        have hj1 := (List.getElem?_eq_some_iff.1 hj).1
        rw [hdl] at hj1
        rw [cell_of h2G, ← hj, List.getElem?_drop, ← hxs, List.getElem?_take, if_pos (by omega), Array.getElem?_toList])
      (by rw [hdl]; omega) (fun u hu => h1 u (by rw [hxs]; exact List.mem_of_mem_drop hu))
    rw [hY] at h
    exact h
  have hYs : Y.size = G * 3 := by
    rw [← hY]
    simp only [List.size_toArray, List.length_append, List.length_take, List.length_drop, Array.length_toList, hdl]
    omega
  have hYt : Y.toList.take ((cap + 1) * 3) = xs.take (i * 3) ++ ys ++ xs.drop (i * 3) := by
    rw [← hY, hXt]
    have hl : (xs.take (i * 3) ++ ys ++ xs.drop (i * 3)).length = (cap + 1) * 3 := by
      simp only [List.length_append, htl, hy, hdl]
      omega
    rw [← hl]
    exact List.take_left
  have hKW1 : Below w.heap.size w W1 := by
    rw [hW1]
    exact ((Kept.refl (fun _ => False) w).drew.toBelow (Nat.le_refl _) (fun _ h => h.elim)).alloc (Nat.le_refl _) _
  have hKW2 : Below w.heap.size w W2 := by
    rw [hW2]
    exact hKW1.trans ((Kept.setRow W1 w.heap.size X).toBelow hKW1.size (fun k e => by omega))
  have hKD : Below w.heap.size w W2.drew := ⟨hKW2.os, hKW2.tape, hKW2.output, hKW2.size, hKW2.block⟩
  have HKD := Lib.hid hKD
  have HKY := Lib.hid (hKD.trans ((Kept.setRow W2.drew w.heap.size Y).toBelow hKD.size (fun k e => by omega)))
  have HFIN := Lib.hid (show (W2.drew.setRow w.heap.size Y).heap[w.heap.size]? = some (.cells Y 65 (0, 0)) from setRow_heap _ w.heap.size X Y 65 (0, 0) h2X)
  have HXS := Lib.hid (show cur.toList.take (cap * 3) = xs ∧ Y.toList.take ((cap + 1) * 3) = xs.take (i * 3) ++ ys ++ xs.drop (i * 3) ∧ Y.size = G * 3 from ⟨hxs, hYt, hYs⟩)
  have HCP2 := Lib.hid hcp2
  have hGn1 : ¬ G = i + 1 := by omega
  have hGn2 : ¬ G = i := by omega
  have hcn : ¬ cap = i := by omega
  have hni : ¬ ((i : Int) = (cap : Int)) := by omega
  have hb1 : (0 : Int) ≤ (i : Int) + 1 ∧ (i : Int) + 1 ≤ (cap : Int) + 1 := by omega
  have hb2 : (i : Int) ≤ (cap : Int) + 1 := by omega
  have hbc : (cap : Int) < (cap : Int) + 1 := by omega
  have hile : i ≤ cap := by omega
  have hw1 : IntKind.i64.wrap ((i : Int) + 1) = (i : Int) + 1 := by rw [IntKind.wrap_i64]; omega
  clear hcp2 hYt hYs hXt hXs h2X h2G h1R h1V h1G hRt hRs hX hY hR hdl htl hxl hxs hg hvb HGD h1 hold hKW1 hKW2 hKD hkk hG
  clear hW2
  clear hW1
  go_enter Try.func53, Try.ntmps53
  go_wp2_with (first
    | (at_builtin; refine Lib.wpList_append_run _ rfl _ _ _ _ rfl _ _ (by rfl) (by rfl) _ _ (hrz _) ?_)
    | (at_builtin; refine wpList_copy_run rfl _ _ _ _ rfl _ _ (by rfl) (by rfl) (hcp1 _ _) ?_))
  refine s_start 9 (fun W => Below w.heap.size w W) (by as_aux_lemma => kernel_rfl) (by as_aux_lemma => kernel_rfl) HKD.out ?_
  refine s_take 0 (by as_aux_lemma => kernel_rfl) (by as_aux_lemma => kernel_rfl) (by as_aux_lemma => kernel_rfl) (by as_aux_lemma => kernel_rfl) HKD.out (fun oi ho => ?_)
  simp only [List.getElem?_toArray, List.getElem?_cons_succ, List.getElem?_cons_zero, Option.some.injEq] at ho
  subst ho
  refine ⟨?_, Or.inl ⟨by rfl, fun w _ => ?_⟩, ?_⟩
  rotate_left
  · (go_simp <;> with_reducible rfl)
  try simp only [Act.put, List.setIfInBounds_toArray, List.set_cons_zero, List.set_cons_succ]
  refine s_take 1 (by as_aux_lemma => kernel_rfl) (by as_aux_lemma => kernel_rfl) (by as_aux_lemma => kernel_rfl) (by as_aux_lemma => kernel_rfl) HKD.out (fun oi ho => ?_)
  simp only [List.getElem?_toArray, List.getElem?_cons_succ, List.getElem?_cons_zero, Option.some.injEq] at ho
  subst ho
  refine ⟨?_, Or.inl ⟨by rfl, fun w _ => ?_⟩, ?_⟩
  rotate_left
  · (go_simp <;> with_reducible rfl)
  try simp only [Act.put, List.setIfInBounds_toArray, List.set_cons_zero, List.set_cons_succ]
  refine s_take 2 (by as_aux_lemma => kernel_rfl) (by as_aux_lemma => kernel_rfl) (by as_aux_lemma => kernel_rfl) (by as_aux_lemma => kernel_rfl) HKD.out (fun oi ho => ?_)
  simp only [List.getElem?_toArray, List.getElem?_cons_succ, List.getElem?_cons_zero, Option.some.injEq] at ho
  subst ho
  refine ⟨?_, Or.inl ⟨by rfl, fun w _ => ?_⟩, ?_⟩
  rotate_left
  · (go_simp <;> with_reducible rfl)
  try simp only [Act.put, List.setIfInBounds_toArray, List.set_cons_zero, List.set_cons_succ]
  refine s_take 3 (by as_aux_lemma => kernel_rfl) (by as_aux_lemma => kernel_rfl) (by as_aux_lemma => kernel_rfl) (by as_aux_lemma => kernel_rfl) HKD.out (fun oi ho => ?_)
  simp only [List.getElem?_toArray, List.getElem?_cons_succ, List.getElem?_cons_zero, Option.some.injEq] at ho
  subst ho
  refine ⟨.int .i64 ((i : Int) + 1), Or.inl ⟨by rfl, fun w' hS' => ?_⟩, ?_⟩
  · (go_simp <;> first | with_reducible rfl | simp [hw1])
  try simp only [Act.put, List.setIfInBounds_toArray, List.set_cons_zero, List.set_cons_succ]
  refine s_take 4 (by as_aux_lemma => kernel_rfl) (by as_aux_lemma => kernel_rfl) (by as_aux_lemma => kernel_rfl) (by as_aux_lemma => kernel_rfl) HKD.out (fun oi ho => ?_)
  simp only [List.getElem?_toArray, List.getElem?_cons_succ, List.getElem?_cons_zero, Option.some.injEq] at ho
  subst ho
  refine ⟨?_, Or.inl ⟨by rfl, fun w _ => ?_⟩, ?_⟩
  rotate_left
  · (go_simp <;> with_reducible rfl)
  try simp only [Act.put, List.setIfInBounds_toArray, List.set_cons_zero, List.set_cons_succ]
  refine s_take 5 (by as_aux_lemma => kernel_rfl) (by as_aux_lemma => kernel_rfl) (by as_aux_lemma => kernel_rfl) (by as_aux_lemma => kernel_rfl) HKD.out (fun oi ho => ?_)
  simp only [List.getElem?_toArray, List.getElem?_cons_succ, List.getElem?_cons_zero, Option.some.injEq] at ho
  subst ho
  refine ⟨?_, Or.inl ⟨by rfl, fun w _ => ?_⟩, ?_⟩
  rotate_left
  · (go_simp <;> with_reducible rfl)
  try simp only [Act.put, List.setIfInBounds_toArray, List.set_cons_zero, List.set_cons_succ]
  refine s_take 6 (by as_aux_lemma => kernel_rfl) (by as_aux_lemma => kernel_rfl) (by as_aux_lemma => kernel_rfl) (by as_aux_lemma => kernel_rfl) HKD.out (fun oi ho => ?_)
  simp only [List.getElem?_toArray, List.getElem?_cons_succ, List.getElem?_cons_zero, Option.some.injEq] at ho
  subst ho
  refine ⟨?_, Or.inl ⟨by rfl, fun w _ => ?_⟩, ?_⟩
  rotate_left
  · (go_simp <;> with_reducible rfl)
  try simp only [Act.put, List.setIfInBounds_toArray, List.set_cons_zero, List.set_cons_succ]
  refine s_take 7 (by as_aux_lemma => kernel_rfl) (by as_aux_lemma => kernel_rfl) (by as_aux_lemma => kernel_rfl) (by as_aux_lemma => kernel_rfl) HKD.out (fun oi ho => ?_)
  simp only [List.getElem?_toArray, List.getElem?_cons_succ, List.getElem?_cons_zero, Option.some.injEq] at ho
  subst ho
  refine ⟨?_, Or.inl ⟨by rfl, fun w _ => ?_⟩, ?_⟩
  rotate_left
  · (go_simp <;> with_reducible rfl)
  try simp only [Act.put, List.setIfInBounds_toArray, List.set_cons_zero, List.set_cons_succ]
  refine s_all (rs := [8]) (by as_aux_lemma => kernel_rfl) (by simp) ?_
  refine s_step 8 (by as_aux_lemma => kernel_rfl) (fun o ho K hK => ?_) AllReadyH.nil
  simp only [List.getElem?_toArray, List.getElem?_cons_succ, List.getElem?_cons_zero, Option.some.injEq] at ho
  subst ho
  refine step_copy_run rfl _ _ _ _ rfl _ _ (by rfl) (by rfl) (HCP2.out _ _ _) ?_
  refine hK.out _ _ HKY.out ?_
  clear hK K
  try simp only [Act.put, List.setIfInBounds_toArray, List.set_cons_zero, List.set_cons_succ]
  refine s_done (by as_aux_lemma => kernel_rfl) ?_
  skip
  go_wp2
  go_ret
  exact ⟨G, rfl, hGn, hGm, ⟨Y, HFIN.out, HXS.out.2.2, by rw [HXS.out.1]; exact HXS.out.2.1⟩, HKY.out⟩

/-- Wherever it goes, whether there is room or not. -/
theorem oins_any (w : World) (base : Nat) (v : Value) (n i vb : Nat) (xs ys : List Value) (V : Array Value) (ho : w.ownsRow base 65 3 v n xs) (hx1 : ∀ u ∈ xs, u.oneCell' = true) (hi : i ≤ n) (hne : v.ownBlock ≠ some vb) (hvb : w.heap[vb]? = some (.cells V 65 (0, 0))) (hV : V.toList = ys) (hy : ys.length = 3) (hy1 : ∀ u ∈ ys, u.oneCell' = true) (hn : n ≤ 1000000) (hb : base ≤ w.heap.size) :
    Calls Try.prog 53 #[v, .int .i64 (i : Int), .slice (some ⟨vb, 0, none⟩) 1 1] w fun e w' => ∃ g' c', e = .returned (.slice (some ⟨g', 0, none⟩) (n + 1) c') ∧ w'.ownsRow base 65 3 (.slice (some ⟨g', 0, none⟩) (n + 1) c') (n + 1) (xs.take (i * 3) ++ ys ++ xs.drop (i * 3)) ∧ Kept (fun k => v.ownBlock = some k) w w' ∧ (v.ownBlock = some g' ∨ w.heap.size ≤ g') := by
  have hlen : (xs.take (i * 3) ++ ys ++ xs.drop (i * 3)).length = (n + 1) * 3 := by
    have := ho.1
    simp only [List.length_append, List.length_take, List.length_drop, hy]
    omega
  by_cases hin : i = n
  · subst hin
    have h := oins_end w base v i vb xs ys ho hy hy1 (fun j u hj => by rw [cell_of hvb, Nat.zero_add, ← hj, ← hV, Array.getElem?_toList]) hn hb
    have e1 : xs.take (i * 3) = xs := List.take_of_length_le (by have := ho.1; omega)
    have e2 : xs.drop (i * 3) = [] := List.drop_eq_nil_of_le (by have := ho.1; omega)
    rw [e1, e2, List.append_nil]
    exact h
  · rcases ho.2 with ⟨rfl, rfl⟩ | ⟨g, cap, cur, rfl, hbg, hg, hnc, hcm, hcs, htake⟩
    · omega
    · have hgn : vb ≠ g := fun e => hne (by simp [Value.ownBlock, e])
      by_cases hroom : n + 1 ≤ cap
      · refine (oins_shift w g n cap i vb cur V ys hg hcs hroom hcm (by omega) (by rw [htake]; exact hx1) hgn hvb hV hy hy1).mono ?_
        rintro e w' ⟨rfl, ⟨cur', h1, h2, h3⟩, hk⟩
        rw [htake] at h3
        exact ⟨g, cap, rfl, ⟨hlen, .inr ⟨g, cap, cur', rfl, hbg, h1, hroom, hcm, by rw [h2, hcs], h3⟩⟩, hk.mono (fun k _ e => by simp [Value.ownBlock, e]), .inl rfl⟩
      · refine (oins_grow w g n cap i vb cur V ys hg hcs hnc (by omega) hn (by omega) (by rw [htake]; exact hx1) hvb hV hy hy1).mono ?_
        rintro e w' ⟨c', rfl, h0, h4, ⟨cur', h1, h2, h3⟩, hk⟩
        rw [htake] at h3
        exact ⟨w.heap.size, c', rfl, ⟨hlen, .inr ⟨w.heap.size, c', cur', rfl, hb, h1, h0, h4, h2, h3⟩⟩, (Kept.below hk).mono (fun _ _ h => h.elim), .inr (Nat.le_refl _)⟩
/-- Delete of one element. -/
theorem odel_row (w : World) (base : Nat) (v : Value) (n i : Nat) (xs : List Value) (ho : w.ownsRow base 65 3 v n xs) (hx1 : ∀ u ∈ xs, u.oneCell' = true) (hi : i < n) :
    Calls Try.prog 48 #[v, .int .i64 (i : Int), .int .i64 ((i : Int) + 1)] w fun e w' => ∃ v', e = .returned v' ∧ w'.ownsRow base 65 3 v' (n - 1) (xs.take (i * 3) ++ xs.drop ((i + 1) * 3)) ∧ Kept (fun k => v.ownBlock = some k) w w' ∧ v'.ownBlock = v.ownBlock := by
  rcases ho.2 with ⟨rfl, rfl⟩ | ⟨g, cap, cur, rfl, hbg, hg, hnc, hcm, hcs, htake⟩
  · omega
  · refine (odel_any w g n cap i cur hg hcs hnc hcm hi (by rw [htake]; exact hx1)).mono ?_
    rintro e w' ⟨rfl, ⟨cur', h1, h2, h3⟩, hk⟩
    rw [htake] at h3
    refine ⟨_, rfl, ⟨?_, .inr ⟨g, cap, cur', rfl, hbg, h1, by omega, hcm, by rw [h2, hcs], h3⟩⟩, hk.mono (fun k _ e => by simp [Value.ownBlock, e]), rfl⟩
    have := ho.1
    simp only [List.length_append, List.length_take, List.length_drop]
    omega
end -- TbC

section -- GpB
set_option linter.unusedVariables false

/-- A header: of which stream, which frame; which datagram of how many; its deadline; its rows. -/
structure HeadV where
  stream : Int
  frame : Int
  index : Int
  n : Int
  deadline : Int
  rows : List (Int × Int)
deriving DecidableEq

/-- A header that is right. -/
def HeadOk (h : HeadV) : Prop := TableOk h.n h.rows ∧ 0 ≤ h.index ∧ h.index ≤ h.n - 1 ∧ 0 ≤ h.stream ∧ h.stream ≤ 65535 ∧ 1 ≤ h.frame ∧ h.frame ≤ 2147483647 ∧ 0 ≤ h.deadline ∧ h.deadline ≤ 2147483647
instance (h : HeadV) : Decidable (HeadOk h) := by unfold HeadOk; infer_instance
/-- Two of one frame. -/
def LikeH (a b : HeadV) : Prop := a.stream = b.stream ∧ a.frame = b.frame ∧ a.n = b.n ∧ a.deadline = b.deadline ∧ a.rows = b.rows
instance (a b : HeadV) : Decidable (LikeH a b) := by unfold LikeH; infer_instance

/-- A body more: where its index belongs. -/
def insH {α : Type} (k : Int) (x : α) : List (Int × α) → List (Int × α)
  | [] => [(k, x)]
  | (j, y) :: r => if k < j then (k, x) :: (j, y) :: r else (j, y) :: insH k x r
/-- Rising indexes. -/
def Rises {α : Type} (l : List (Int × α)) : Prop := l.Pairwise (fun a b => a.1 < b.1)
theorem insH_mem {α : Type} {k : Int} {x : α} {p : Int × α} : ∀ {l : List (Int × α)}, p ∈ insH k x l ↔ p = (k, x) ∨ p ∈ l
  | [] => by simp [insH]
  | (j, y) :: r => by
    unfold insH
    split
    · simp
    · rw [List.mem_cons, insH_mem, List.mem_cons]
      constructor
      · rintro (h | h | h)
        · exact .inr (.inl h)
        · exact .inl h
        · exact .inr (.inr h)
      · rintro (h | h | h)
        · exact .inr (.inl h)
        · exact .inl h
        · exact .inr (.inr h)
theorem insH_len {α : Type} {k : Int} {x : α} : ∀ {l : List (Int × α)}, (insH k x l).length = l.length + 1
  | [] => rfl
  | (j, y) :: r => by
    unfold insH
    split
    · rfl
    · rw [List.length_cons, insH_len, List.length_cons]
theorem insH_perm {α : Type} {k : Int} {x : α} : ∀ {l : List (Int × α)}, (insH k x l).Perm ((k, x) :: l)
  | [] => List.Perm.refl _
  | (j, y) :: r => by
    unfold insH
    split
    · exact List.Perm.refl _
    · exact (List.Perm.cons _ insH_perm).trans (List.Perm.swap _ _ _)
theorem insH_rises {α : Type} {k : Int} {x : α} : ∀ {l : List (Int × α)}, Rises l → (∀ p ∈ l, p.1 ≠ k) → Rises (insH k x l)
  | [], _, _ => by simp [insH, Rises]
  | (j, y) :: r, h, hn => by
    have h' := List.pairwise_cons.1 h
    unfold insH
    split
    · rename_i hk
      refine List.pairwise_cons.2 ⟨fun p hp => ?_, h⟩
      rcases List.mem_cons.1 hp with rfl | hp
      · exact hk
      · have := h'.1 p hp
        simp only at this ⊢
        omega
    · rename_i hk
      have hjk : j ≠ k := hn (j, y) (by simp)
      refine List.pairwise_cons.2 ⟨fun p hp => ?_, insH_rises h'.2 (fun p hp => hn p (by simp [hp]))⟩
      rcases insH_mem.1 hp with rfl | hp
      · simp only; omega
      · exact h'.1 p hp
theorem Rises.nodup {α : Type} {l : List (Int × α)} (h : Rises l) : (l.map (·.1)).Nodup := by
  refine List.pairwise_map.2 (h.imp ?_)
  intro a b hab
  omega
/-- Lists that rise and hold the same are the same. -/
theorem Rises.eq {α : Type} {l m : List (Int × α)} (hl : Rises l) (hm : Rises m) (hp : l.Perm m) : l = m :=
  List.Perm.eq_of_pairwise (le := fun (a b : Int × α) => a.1 < b.1) (fun a b _ _ h1 h2 => by omega) hl hm hp

/-- What Take answers. -/
def takeE (H : HeadV) (hs : List (Int × List B)) (h : HeadV) (b : List B) : Int :=
  if ¬ (HeadOk h ∧ LikeH h H) then 13 else if b.length ≠ atT H.rows H.rows.length then 2 else if h.index ∈ hs.map (·.1) then 9 else 0
/-- What is held behind it. -/
def takeH (H : HeadV) (hs : List (Int × List B)) (h : HeadV) (b : List B) : List (Int × List B) := if takeE H hs h b = 0 then insH h.index b hs else hs
end -- GpB

section -- GpC
open Go.RowKit Go.Maps
set_option linter.unusedVariables false
set_option linter.unusedSimpArgs false
set_option maxRecDepth 100000
set_option maxHeartbeats 2000000

/-- A header as a value; as a block of cells. -/
abbrev headVal (h : HeadV) (v : Value) : Value := .agg #[.int .i64 h.stream, .int .i64 h.frame, .int .i64 h.index, .int .i64 h.n, .int .i64 h.deadline, v]
def HeadBox (w : World) (g : Nat) (h : HeadV) (v : Value) : Prop := w.heap[g]? = some (.cells #[.int .i64 h.stream, .int .i64 h.frame, .int .i64 h.index, .int .i64 h.n, .int .i64 h.deadline, v] 31 (0, 0))
section
variable {w w' : World} {g : Nat} {h : HeadV} {v : Value}
theorem HeadBox.new (w : World) (h : HeadV) (v : Value) : HeadBox (w.alloc (.cells #[.int .i64 h.stream, .int .i64 h.frame, .int .i64 h.index, .int .i64 h.n, .int .i64 h.deadline, v] 31)) w.heap.size h v := heap_alloc_new w _
theorem HeadBox.lt (hb : HeadBox w g h v) : g < w.heap.size := (Array.getElem?_eq_some_iff.1 hb).1
theorem HeadBox.below (hb : HeadBox w g h v) (hB : Below w.heap.size w w') : HeadBox w' g h v := (hB.block g hb.lt).trans hb
theorem HeadBox.c0 (hb : HeadBox w g h v) : w.cell? ⟨g, 0, none⟩ = some (.int .i64 h.stream) := by rw [cell_of hb]; rfl
theorem HeadBox.c1 (hb : HeadBox w g h v) : w.cell? ⟨g, 1, none⟩ = some (.int .i64 h.frame) := by rw [cell_of hb]; rfl
theorem HeadBox.c2 (hb : HeadBox w g h v) : w.cell? ⟨g, 2, none⟩ = some (.int .i64 h.index) := by rw [cell_of hb]; rfl
theorem HeadBox.c3 (hb : HeadBox w g h v) : w.cell? ⟨g, 3, none⟩ = some (.int .i64 h.n) := by rw [cell_of hb]; rfl
theorem HeadBox.c4 (hb : HeadBox w g h v) : w.cell? ⟨g, 4, none⟩ = some (.int .i64 h.deadline) := by rw [cell_of hb]; rfl
theorem HeadBox.c5 (hb : HeadBox w g h v) : w.cell? ⟨g, 5, none⟩ = some v := by rw [cell_of hb]; rfl
end

theorem between_any (w : World) (a b c : Int) :
    Calls Try.prog 60 #[.int .i64 a, .int .i64 b, .int .i64 c] w fun e w' => e = .returned (.bool (decide (b ≤ a ∧ a ≤ c))) ∧ w = w' := by
  go_enter Try.func60, Try.ntmps60
  by_cases h1 : b ≤ a
  · by_cases h2 : a ≤ c
    · go_wp2
      go_ret
      exact ⟨by simp [h1, h2], rfl⟩
    · go_wp2
      go_ret
      exact ⟨by simp [h1, h2], rfl⟩
  · go_wp2
    go_ret
    exact ⟨by simp [h1]; omega, rfl⟩

theorem hright_any (w : World) (h : HeadV) (v : Value) (hv : TableAt w v h.rows) :
    Calls Try.prog 45 #[headVal h v] w fun e w' => e = .returned (.bool (decide (HeadOk h))) ∧ Below w.heap.size w w' := by
  have HV := Lib.hid hv
  obtain ⟨stream, frame, index, n, deadline, rows⟩ := h
  have HBX := Lib.hid (HeadBox.new w ⟨stream, frame, index, n, deadline, rows⟩ v)
  have HB0 := Lib.hid ((Below.refl w.heap.size w).alloc (Nat.le_refl _) (.cells #[.int .i64 stream, .int .i64 frame, .int .i64 index, .int .i64 n, .int .i64 deadline, v] 31))
  clear hv
  go_enter Try.func45, Try.ntmps45
  go_wp2_with fail
  generalize w.alloc (.cells #[.int .i64 stream, .int .i64 frame, .int .i64 index, .int .i64 n, .int .i64 deadline, v] 31) = w1 at *
  refine (tright_any w1 n v rows (HV.out.below HB0.out)).mono ?_
  rintro e w2 ⟨rfl, hB2⟩
  have HB2 := Lib.hid (show Below w.heap.size w w2 from below_more HB0.out hB2 HB0.out.size)
  have hbx := HBX.out.below hB2
  have c0 := hbx.c0
  have c1 := hbx.c1
  have c2 := hbx.c2
  have c3 := hbx.c3
  have c4 := hbx.c4
  dsimp only at c0 c1 c2 c3 c4
  clear hB2 hbx
  have HOK : HeadOk ⟨stream, frame, index, n, deadline, rows⟩ ↔ (TableOk n rows ∧ 0 ≤ index ∧ index ≤ n - 1 ∧ 0 ≤ stream ∧ stream ≤ 65535 ∧ 1 ≤ frame ∧ frame ≤ 2147483647 ∧ 0 ≤ deadline ∧ deadline ≤ 2147483647) := Iff.rfl
  by_cases hT : TableOk n rows
  rotate_left
  · simp only [hT, decide_false]
    go_wp2
    go_ret
    exact ⟨congrArg (fun b => Ending.returned (.bool b)) (decide_eq_false (fun e => hT (HOK.1 e).1)).symm, HB2.out⟩
  have hn1 := hT.1
  have hn2 := hT.2.1
  have HT := Lib.hid hT
  simp only [hT, decide_true]
  clear hT
  go_wp2_with fail
  refine (between_any w2 index 0 (n - 1)).mono ?_
  rintro e w3 ⟨rfl, rfl⟩
  by_cases hI : 0 ≤ index ∧ index ≤ n - 1
  rotate_left
  · simp only [hI, decide_false]
    go_wp2
    go_ret
    exact ⟨congrArg (fun b => Ending.returned (.bool b)) (decide_eq_false (fun e => hI ⟨(HOK.1 e).2.1, (HOK.1 e).2.2.1⟩)).symm, HB2.out⟩
  have HI := Lib.hid hI
  simp only [hI, and_self, decide_true]
  clear hI
  go_wp2_with fail
  refine (between_any w2 stream 0 65535).mono ?_
  rintro e w3 ⟨rfl, rfl⟩
  by_cases hS : 0 ≤ stream ∧ stream ≤ 65535
  rotate_left
  · simp only [hS, decide_false]
    go_wp2
    go_ret
    exact ⟨congrArg (fun b => Ending.returned (.bool b)) (decide_eq_false (fun e => hS ⟨(HOK.1 e).2.2.2.1, (HOK.1 e).2.2.2.2.1⟩)).symm, HB2.out⟩
  have HS := Lib.hid hS
  simp only [hS, and_self, decide_true]
  clear hS
  go_wp2_with fail
  refine (between_any w2 frame 1 2147483647).mono ?_
  rintro e w3 ⟨rfl, rfl⟩
  by_cases hF : 1 ≤ frame ∧ frame ≤ 2147483647
  rotate_left
  · simp only [hF, decide_false]
    go_wp2
    go_ret
    exact ⟨congrArg (fun b => Ending.returned (.bool b)) (decide_eq_false (fun e => hF ⟨(HOK.1 e).2.2.2.2.2.1, (HOK.1 e).2.2.2.2.2.2.1⟩)).symm, HB2.out⟩
  have HF := Lib.hid hF
  simp only [hF, and_self, decide_true]
  clear hF
  go_wp2_with fail
  refine (between_any w2 deadline 0 2147483647).mono ?_
  rintro e w3 ⟨rfl, rfl⟩
  by_cases hD : 0 ≤ deadline ∧ deadline ≤ 2147483647
  rotate_left
  · simp only [hD, decide_false]
    go_wp2
    go_ret
    exact ⟨congrArg (fun b => Ending.returned (.bool b)) (decide_eq_false (fun e => hD ⟨(HOK.1 e).2.2.2.2.2.2.2.1, (HOK.1 e).2.2.2.2.2.2.2.2⟩)).symm, HB2.out⟩
  have HD := Lib.hid hD
  simp only [hD, and_self, decide_true]
  clear hD
  go_wp2
  go_ret
  exact ⟨congrArg (fun b => Ending.returned (.bool b)) (decide_eq_true (HOK.2 ⟨HT.out, HI.out.1, HI.out.2, HS.out.1, HS.out.2, HF.out.1, HF.out.2, HD.out.1, HD.out.2⟩)).symm, HB2.out⟩
end -- GpC

end Go.Proofs.Ytibelpamolcmcaa
