/-
  StepR: A region that draws its order, within a round of a loop over an iterator: it is walked as one outside (StepQ, StepZ).
  LayV: Layer 10, walks: Gather.
  TbB: slices.Delete of one element of a row of elements of three cells.
-/
import Derived.Test.YtibelpamolcmcaaMxad
import Derived.Test.YtibelpamolcmcaaMxat
import Derived.RangeFuncCalls
import Derived.OrdersIn
import Derived.Test.YtibelpamolcmcaaMxas
import Derived.Test.YtibelpamolcmcaaMxae
namespace Go.Proofs.Ytibelpamolcmcaa

section -- StepR
open Go.RowKit Go.Maps
set_option linter.unusedVariables false

section
variable {P : Program} {Q : Exit → Act → World → Prop} {l n : Nat}
theorem uponIn_of_upon {o : Oper} {a : Act} {next : Act → World → Prop} {r : Result Next} (h : o.upon P a next Q r) : o.uponIn (Fence.wide.inRound l) n P a next Q r := by
  cases r with
  | ok x w' =>
    cases x <;> simp only [Oper.upon, Oper.uponIn] at h ⊢ <;> first | exact h | skip
    case enter f args => exact ⟨fun h => (by cases h), CallsIn.inRound l (callsIn_wide.2 h)⟩
    case row row args => exact ⟨fun h => (by cases h), fun c cs _ => let ⟨v, w2, r, s⟩ := h c cs; ⟨v, w2, r, stepsIn_wide.2 s⟩⟩
  | halt x w' => cases x <;> simp only [Oper.upon, Oper.uponIn] at h ⊢ <;> exact h
/-- No operation defers a call. -/
def noDefer (ops : Array Oper) : Bool := ops.all fun o => match o.op with | .defer _ => false | _ => true
theorem noDefer_at {ops : Array Oper} (h : noDefer ops = true) {i : Nat} {o : Oper} (hi : ops[i]? = some o) : ∀ c, o.op ≠ .defer c := fun c e => by
  obtain ⟨hl, e2⟩ := Array.getElem?_eq_some_iff.1 hi
  have := (Array.all_eq_true.1 h) i hl
  rw [e2, e] at this
  cases this
theorem wpIn_of_wp {o : Oper} {a : Act} {w : World} {next : Act → World → Prop} (hd : ∀ c, o.op ≠ .defer c) (h : o.wp P a w next Q) : o.wpIn (Fence.wide.inRound l) n P a w next Q := by
  refine ⟨fun f _ => trivial, ?_⟩
  rw [Oper.semAt_eq _ _ _ hd]
  exact uponIn_of_upon h
theorem wpOpIn_of_wpOp {ops : Array Oper} (hL : ¬ LetsOut Q) (hd : noDefer ops = true) {i : Nat} {a : Act} {w : World} {K : Act → World → Prop} (h : wpOp P ops Q i K a w) : wpOpIn (Fence.wide.inRound l) n P ops Q i K a w := by
  unfold wpOp at h
  unfold wpOpIn
  cases ho : ops[i]? with
  | none => rw [ho] at h; exact h
  | some o =>
    rw [ho] at h
    simp only at h ⊢
    split
    · rename_i hw
      rw [if_pos hw] at h
      exact wpIn_of_wp (noDefer_at hd ho) (h.elim id (fun h => absurd h.2 hL))
    · rename_i hw
      rw [if_neg hw] at h
      exact ⟨fun f _ => trivial, h⟩
theorem wpAnyIn_of_wpAny {ops : Array Oper} {md : Region.Mode} (hL : ¬ LetsOut Q) (hd : noDefer ops = true) : ∀ (fuel : Nat) (listed : Array Bool) (a : Act) (w : World), wpAny P md ops Q fuel listed a w → wpAnyIn (Fence.wide.inRound l) n P md ops Q fuel listed a w
  | 0, _, _, _, h => h
  | f + 1, _, _, _, h => ⟨h.1, fun i hi => wpOpIn_mono (fun a' w' h' => wpAnyIn_of_wpAny hL hd f _ a' w' h') (wpOpIn_of_wpOp hL hd (h.2 i hi))⟩
/-- Nothing but going on. -/
def Only (Q : Exit → Act → World → Prop) : Exit → Act → World → Prop
  | .normal, a, w => Q .normal a w
  | _, _, _ => False
theorem Only.imp : ∀ (e : Exit) (a : Act) (w : World), NoPanic (Only Q) e a w → Q e a w := fun e a w h => by
  cases e <;> first | exact h | exact (h : False).elim
theorem Only.shut : ¬ LetsOut (NoPanic (Only Q)) := fun ⟨_, _, h⟩ => (h : False)
/-- Begin, within a round. -/
theorem sr_start {ops : Array Oper} {a : Act} {w : World} {id : Nat} (k : Nat) (S : World → Prop) (hn : ops.size = k) (hm : P.follows .mixedOrders = true) (hd : noDefer ops = true) (hS : S w.drew) (h : wpAnyH P .any ops (NoPanic (Only Q)) S k (Array.replicate k false) a w.drew) : (Code.region id ops true).wpIn (Fence.wide.inRound l) n P Q a w :=
  Code.wpIn_mono Only.imp (wpIn_region_any hm (wpAnyIn_of_wpAny Only.shut hd _ _ _ _ (wpAny_of_held (S := S) _ _ _ _ (by rw [hn]; exact h))))
theorem zr_start {ops : Array Oper} {a : Act} {w : World} {id : Nat} (k : Nat) (S : World → Prop) (z : Nat) (hn : ops.size = k) (hm : P.follows .mixedOrders = true) (hd : noDefer ops = true) (h : wpAnyE P .any ops (NoPanic (Only Q)) S z k (Array.replicate k false) a w.drew) : (Code.region id ops true).wpIn (Fence.wide.inRound l) n P Q a w :=
  Code.wpIn_mono Only.imp (wpIn_region_any hm (wpAnyIn_of_wpAny Only.shut hd _ _ _ _ (wpAny_of_E (S := S) (z := z) _ _ _ _ (by rw [hn]; exact h))))
end
end -- StepR

section -- LayV
open Go.RowKit Go.Maps Go.Shelf

attribute [local go_sem] Oper.semAt_some
set_option linter.unusedVariables false
set_option linter.unusedSimpArgs false
set_option maxRecDepth 100000
set_option maxHeartbeats 4000000
end -- LayV

section -- TbB
open Go.RowKit Go.Maps
set_option linter.unusedVariables false
set_option linter.unusedSimpArgs false
set_option maxRecDepth 100000
set_option maxHeartbeats 4000000

theorem infoOp : (Try.prog.info? 65).map (fun i => (i.zero, i.size, i.bytes)) = some (some (.agg #[.pointer none, .int .i64 0, .int .i64 0]), 3, 24) := by kernel_rfl

theorem odel_any (w : World) (g n cap i : Nat) (cur : Array Value) (hg : w.heap[g]? = some (.cells cur 65 (0, 0))) (hcs : cur.size = cap * 3) (hn : n ≤ cap) (hcm : cap ≤ maxLen) (hi : i < n) (h1 : ∀ u ∈ cur.toList.take (n * 3), u.oneCell' = true) :
    Calls Try.prog 48 #[.slice (some ⟨g, 0, none⟩) n cap, .int .i64 (i : Int), .int .i64 ((i : Int) + 1)] w fun e w' => e = .returned (.slice (some ⟨g, 0, none⟩) (n - 1) cap) ∧
      (∃ cur', w'.heap[g]? = some (.cells cur' 65 (0, 0)) ∧ cur'.size = cur.size ∧ cur'.toList.take ((n - 1) * 3) = (cur.toList.take (n * 3)).take (i * 3) ++ (cur.toList.take (n * 3)).drop ((i + 1) * 3)) ∧ Kept (fun k => k = g) w w' := by
  have hlt : g < w.heap.size := (Array.getElem?_eq_some_iff.1 hg).1
  have HG := Lib.hid hg
  have H1 := Lib.hid h1
  have HCS := Lib.hid hcs
  unfold maxLen at hcm
  clear hg h1 hcs
  obtain ⟨J, hJ⟩ : ∃ J, (if cap = i + 1 then (0 : Nat) else (i + 1) * 3) = J := ⟨_, rfl⟩
  obtain ⟨X, hX⟩ : ∃ X, (cur.toList.take (i * 3) ++ (cur.toList.take (n * 3)).drop ((i + 1) * 3) ++ cur.toList.drop (i * 3 + (n - (i + 1)) * 3)).toArray = X := ⟨_, rfl⟩
  have hicap : i ≤ cap := by omega
  have hb : (0 : Int) ≤ (i : Int) + 1 ∧ (i : Int) + 1 ≤ (n : Int) := by omega
  obtain ⟨i0, hi0, hz0, hz1, hz2⟩ := info_parts infoOp
  have HGD : w.drew.heap[g]? = some (.cells cur 65 (0, 0)) := HG.out
  have hlen : ((cur.toList.take (n * 3)).drop ((i + 1) * 3)).length = (n - (i + 1)) * 3 := by
    have := HCS.out
    simp only [List.length_drop, List.length_take, Array.length_toList]
    omega
  have HAP := Lib.hid (show ∀ ty, (Builtin.append_ #[56, 56] ty #[.slice (some ⟨g, 0, none⟩) i cap, .slice (some ⟨g, J, none⟩) (n - (i + 1)) (cap - (i + 1))]).run Try.prog w.drew = .ok (.slice (some ⟨g, 0, none⟩) (n - 1) cap) (w.drew.setRow g X) from fun ty => by
    have h := run_append_room (P := Try.prog) w.drew 56 ty 65 i0 Try.underlying56 hi0 g i cap cur HGD ⟨g, J, none⟩ (n - (i + 1)) (cap - (i + 1)) ((cur.toList.take (n * 3)).drop ((i + 1) * 3)) (by rw [hz1]; exact hlen)
      (fun j u hj => by
        rw [add_off, cell_of HGD]
        have hj1 := (List.getElem?_eq_some_iff.1 hj).1
        rw [hlen] at hj1
        have hJ2 : J = (i + 1) * 3 := by
          rw [← hJ, if_neg]
          omega
        rw [List.getElem?_drop, List.getElem?_take] at hj
        split at hj
        · rw [hJ2, ← hj, Array.getElem?_toList]
        · cases hj)
      (fun u hu => H1.out u (List.mem_of_mem_drop hu)) (by omega) (by have := HCS.out; rw [hz1, hlen]; omega)
    rw [hz1, hlen, hX, show i + (n - (i + 1)) = n - 1 by omega] at h
    exact h)
  go_enter Try.func48, Try.ntmps48
  go_wp2_with fail
  refine s_start 8 (fun W => Kept (fun k => k = g) w W) (by as_aux_lemma => kernel_rfl) (by as_aux_lemma => kernel_rfl) (Kept.refl _ w).drew ?_
  refine s_take 0 (by as_aux_lemma => kernel_rfl) (by as_aux_lemma => kernel_rfl) (by as_aux_lemma => kernel_rfl) (by as_aux_lemma => kernel_rfl) (Kept.refl _ w).drew (fun oi ho => ?_)
  simp only [List.getElem?_toArray, List.getElem?_cons_succ, List.getElem?_cons_zero, Option.some.injEq] at ho
  subst ho
  refine ⟨?_, Or.inl ⟨by rfl, fun w _ => ?_⟩, ?_⟩
  rotate_left
  · (go_simp <;> with_reducible rfl)
  try simp only [Act.put, List.setIfInBounds_toArray, List.set_cons_zero, List.set_cons_succ]
  refine s_take 1 (by as_aux_lemma => kernel_rfl) (by as_aux_lemma => kernel_rfl) (by as_aux_lemma => kernel_rfl) (by as_aux_lemma => kernel_rfl) (Kept.refl _ w).drew (fun oi ho => ?_)
  simp only [List.getElem?_toArray, List.getElem?_cons_succ, List.getElem?_cons_zero, Option.some.injEq] at ho
  subst ho
  refine ⟨?_, Or.inl ⟨by rfl, fun w _ => ?_⟩, ?_⟩
  rotate_left
  · (go_simp <;> with_reducible rfl)
  try simp only [Act.put, List.setIfInBounds_toArray, List.set_cons_zero, List.set_cons_succ]
  refine s_take 2 (by as_aux_lemma => kernel_rfl) (by as_aux_lemma => kernel_rfl) (by as_aux_lemma => kernel_rfl) (by as_aux_lemma => kernel_rfl) (Kept.refl _ w).drew (fun oi ho => ?_)
  simp only [List.getElem?_toArray, List.getElem?_cons_succ, List.getElem?_cons_zero, Option.some.injEq] at ho
  subst ho
  refine ⟨?_, Or.inl ⟨by rfl, fun w _ => ?_⟩, ?_⟩
  rotate_left
  · (go_simp <;> with_reducible rfl)
  try simp only [Act.put, List.setIfInBounds_toArray, List.set_cons_zero, List.set_cons_succ]
  refine s_take 3 (by as_aux_lemma => kernel_rfl) (by as_aux_lemma => kernel_rfl) (by as_aux_lemma => kernel_rfl) (by as_aux_lemma => kernel_rfl) (Kept.refl _ w).drew (fun oi ho => ?_)
  simp only [List.getElem?_toArray, List.getElem?_cons_succ, List.getElem?_cons_zero, Option.some.injEq] at ho
  subst ho
  refine ⟨?_, Or.inl ⟨by rfl, fun w _ => ?_⟩, ?_⟩
  rotate_left
  · (go_simp <;> with_reducible rfl)
  try simp only [Act.put, List.setIfInBounds_toArray, List.set_cons_zero, List.set_cons_succ]
  refine s_take 4 (by as_aux_lemma => kernel_rfl) (by as_aux_lemma => kernel_rfl) (by as_aux_lemma => kernel_rfl) (by as_aux_lemma => kernel_rfl) (Kept.refl _ w).drew (fun oi ho => ?_)
  simp only [List.getElem?_toArray, List.getElem?_cons_succ, List.getElem?_cons_zero, Option.some.injEq] at ho
  subst ho
  refine ⟨?_, Or.inl ⟨by rfl, fun w _ => ?_⟩, ?_⟩
  rotate_left
  · (go_simp <;> with_reducible rfl)
  try simp only [Act.put, List.setIfInBounds_toArray, List.set_cons_zero, List.set_cons_succ]
  refine s_take 5 (by as_aux_lemma => kernel_rfl) (by as_aux_lemma => kernel_rfl) (by as_aux_lemma => kernel_rfl) (by as_aux_lemma => kernel_rfl) (Kept.refl _ w).drew (fun oi ho => ?_)
  simp only [List.getElem?_toArray, List.getElem?_cons_succ, List.getElem?_cons_zero, Option.some.injEq] at ho
  subst ho
  refine ⟨.slice (some ⟨g, J, none⟩) (n - (i + 1)) (cap - (i + 1)), Or.inl ⟨by rfl, fun w' hS' => ?_⟩, ?_⟩
  · go_simp
    subst hJ
    first | (rw [if_pos hb]; split <;> rfl) | (split <;> rfl)
  try simp only [Act.put, List.setIfInBounds_toArray, List.set_cons_zero, List.set_cons_succ]
  refine s_all (rs := [6]) (by as_aux_lemma => kernel_rfl) (by simp) ?_
  refine s_step 6 (by as_aux_lemma => kernel_rfl) (fun o ho K hK => ?_) AllReadyH.nil
  simp only [List.getElem?_toArray, List.getElem?_cons_succ, List.getElem?_cons_zero, Option.some.injEq] at ho
  subst ho
  refine step_append_run rfl _ _ _ _ rfl _ _ (by rfl) (by rfl) (HAP.out _) ?_
  refine hK.out _ _ ((Kept.refl (fun k => k = g) w).drew.trans (Kept.setRow w.drew g X) (fun _ _ h => h)) ?_
  clear hK K
  try simp only [Act.put, List.setIfInBounds_toArray, List.set_cons_zero, List.set_cons_succ]
  refine s_take 7 (by as_aux_lemma => kernel_rfl) (by as_aux_lemma => kernel_rfl) (by as_aux_lemma => kernel_rfl) (by as_aux_lemma => kernel_rfl) ((Kept.refl (fun k => k = g) w).drew.trans (Kept.setRow w.drew g X) (fun _ _ h => h)) (fun oi ho => ?_)
  simp only [List.getElem?_toArray, List.getElem?_cons_succ, List.getElem?_cons_zero, Option.some.injEq] at ho
  subst ho
  refine ⟨?_, Or.inl ⟨by rfl, fun w _ => ?_⟩, ?_⟩
  rotate_left
  · (go_simp <;> with_reducible rfl)
  try simp only [Act.put, List.setIfInBounds_toArray, List.set_cons_zero, List.set_cons_succ]
  refine s_done (by as_aux_lemma => kernel_rfl) ?_
  skip
  have hXs : X.size = cap * 3 := by
    rw [← hX]
    have := HCS.out
    simp only [List.size_toArray, List.length_append, hlen, List.length_take, List.length_drop, Array.length_toList]
    omega
  have hXt : X.toList.take ((n - 1) * 3) = cur.toList.take (i * 3) ++ (cur.toList.take (n * 3)).drop ((i + 1) * 3) := by
    rw [← hX]
    have hl2 : (cur.toList.take (i * 3) ++ (cur.toList.take (n * 3)).drop ((i + 1) * 3)).length = (n - 1) * 3 := by
      have := HCS.out
      rw [List.length_append, hlen, List.length_take, Array.length_toList]
      omega
    rw [← hl2]
    exact List.take_left
  have hzr : ∀ w, (zeroValue 65).run Try.prog w = .ok (.agg #[.pointer none, .int .i64 0, .int .i64 0]) w := fun w => by simp [zeroValue, typeInfo, hi0, hz0]
  have HXG : (w.drew.setRow g X).heap[g]? = some (.cells X 65 (0, 0)) := setRow_heap w.drew g cur X 65 (0, 0) HGD
  obtain ⟨Y, hY⟩ : ∃ Y, (X.toList.take ((n - 1) * 3) ++ (Builtin.zeroCells (Value.agg #[.pointer none, .int .i64 0, .int .i64 0]).cells 1).toList ++ X.toList.drop ((n - 1) * 3 + 1 * 3)).toArray = Y := ⟨_, rfl⟩
  have HCL := Lib.hid (show ∀ ty c, (Builtin.clear_ #[56] ty #[.slice (some ⟨g, (n - 1) * 3, none⟩) 1 c]).run Try.prog (w.drew.setRow g X) = .ok (.tuple #[]) ((w.drew.setRow g X).setRow g Y) from fun ty c => by
    have h := run_clear_k (P := Try.prog) (w.drew.setRow g X) 56 65 ty _ Try.underlying56 hzr g ((n - 1) * 3) 1 c X 65 HXG (by omega) (by show _ + 1 * 3 ≤ _; omega) (fun u hu => by
      simp [Builtin.zeroCells, Value.cells, Array.range, List.range_succ] at hu
      rcases hu with rfl | rfl | rfl <;> rfl)
    rw [show ((w.drew.setRow g X).setRow g Y) = (w.drew.setRow g X).setRow g (X.toList.take ((n - 1) * 3) ++ (Builtin.zeroCells (Value.agg #[.pointer none, .int .i64 0, .int .i64 0]).cells 1).toList ++ X.toList.drop ((n - 1) * 3 + 1 * 3)).toArray from by rw [hY]]
    exact h)
  have hsub : n - (n - 1) = 1 := by omega
  have hcn : ¬ cap = n - 1 := by omega
  have hn1 : n - 1 ≤ n := by omega
  generalize hWX : w.drew.setRow g X = WX at *
  have hcl := fun ty => HCL.out ty (cap - (n - 1))
  go_wp2
  go_ret
  subst hWX
  have hYs : Y.size = cap * 3 := by
    rw [← hY]
    simp only [List.size_toArray, List.length_append, List.length_take, List.length_drop, Array.length_toList, size_zeroCells]
    show _ + 1 * 3 + _ = _
    omega
  refine ⟨rfl, ⟨Y, setRow_heap _ g X Y 65 (0, 0) HXG, by rw [hYs, HCS.out], ?_⟩, ((Kept.refl (fun k => k = g) w).drew.trans (Kept.setRow w.drew g X) (fun _ _ h => h)).trans (Kept.setRow _ g Y) (fun _ _ h => h)⟩
  have hl3 : (X.toList.take ((n - 1) * 3)).length = (n - 1) * 3 := by rw [List.length_take, Array.length_toList]; omega
  rw [← hY]
  show ((X.toList.take ((n - 1) * 3) ++ _ ++ _).take ((n - 1) * 3)) = _
  rw [List.append_assoc, List.take_append_of_le_length (by omega), List.take_of_length_le (by omega), hXt, List.take_take]
  congr 2
  omega
end -- TbB

end Go.Proofs.Ytibelpamolcmcaa
