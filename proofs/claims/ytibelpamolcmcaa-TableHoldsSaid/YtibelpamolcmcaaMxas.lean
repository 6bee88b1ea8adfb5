/-
  LayR: Layer 10, walks: a layer out of its stripes.
  LayS: Rows that are cut, and what a loop's body keeps.
  LayH: Layer 10, walks: Long (the program's, the reference's).
-/
import Derived.Test.YtibelpamolcmcaaMxar
import Derived.Test.YtibelpamolcmcaaMxao
namespace Go.Proofs.Ytibelpamolcmcaa

section -- LayR
open Go.RowKit Go.Maps
set_option linter.unusedVariables false
set_option linter.unusedSimpArgs false
set_option maxRecDepth 100000
set_option maxHeartbeats 2000000

theorem decL_len (k : Nat) (ys : List B) (l : List (List B)) (d : Nat) : (decL k ys l d).length = k := by simp [decL, turnL]
theorem decL_wide {k : Nat} {ys : List B} {l : List (List B)} {d : Nat} : ∀ i, i < (decL k ys l d).length → ((decL k ys l d).getD i []).length = d := fun i h => by
  rw [decL_len] at h
  unfold decL turnL
  rw [List.map_map, getD_range _ _ h]
  exact mixL_len _ _ _
/-- The layer that comes of held rows, d wide. -/
def layD (k long d : Nat) (hs : List (Int × List B)) : List B := if d = wdN long k then joinL (decL k (idxB ((hIdx hs).take k)) (hRow hs) d) long else []
end -- LayR

section -- LayS
open Go.RowKit Go.Maps
set_option linter.unusedVariables false
set_option maxRecDepth 100000

section
variable {S : Nat → Prop} {W W' : World}
theorem kc_of_grown {row : Option Nat} (hg : W.grownBy W' row) (hr : ∀ r, row = some r → ∃ o, W.heap[r]? = some o ∧ o.isCells = false) : KC S W W' :=
  ⟨hg.size, fun k c e f _ hk => (hg.block k (Array.getElem?_eq_some_iff.1 hk).1 (fun q => by
    obtain ⟨o, ho, hc⟩ := hr k q.symm
    rw [hk] at ho; cases ho; cases hc)).trans hk⟩
theorem ownsRow_kc {base size k : Nat} {e : TypeId} {v : Value} {xs : List Value} (h : W.ownsRow base e size v k xs) (hk : KC S W W') (hS : ∀ g, v.ownBlock = some g → ¬ S g) : W'.ownsRow base e size v k xs := by
  refine ⟨h.1, ?_⟩
  rcases h.2 with ⟨rfl, hz⟩ | ⟨g, cap, cur, rfl, h2, h3, h4⟩
  · exact .inl ⟨rfl, hz⟩
  · exact .inr ⟨g, cap, cur, rfl, h2, hk.same g _ _ _ (hS g rfl) h3, h4⟩
theorem OwnL.kc {base : Nat} {v : Value} {l : List B} (h : OwnL W base v l) (hk : KC S W W') (hS : ∀ g, v.ownBlock = some g → ¬ S g) : OwnL W' base v l := by
  rcases h with h | ⟨g, rfl, h1, h2, C, h3, h4⟩
  · exact .inl (ownsRow_kc h hk hS)
  · exact .inr ⟨g, rfl, h1, h2, C, hk.same g _ _ _ (hS g rfl) h3, h4⟩
theorem RowsCut.kc {base : Nat} {v : Value} {ls : List (List B)} (h : RowsCut W base v ls) (hk : KC S W W') (hS : ∀ k, base ≤ k → ¬ S k) : RowsCut W' base v ls := by
  obtain ⟨us, h1, h2, h3⟩ := h
  exact ⟨us, ownsRow_kc h1 hk (fun g hg => hS g (h1.lt g hg).1), fun i u hi => ⟨(h2 i u hi).1.kc hk (fun g hg => hS g ((h2 i u hi).1.blk g hg).1), (h2 i u hi).2⟩, h3⟩
end
theorem rowsCut_own {β : Type} (base B : Nat) (t : TypeId) (f : β → List (List Go.Proofs.Ytibelpamolcmcaa.B)) : Go.Own (fun (s : β) (W : World) => ∃ v, Boxed W B t v ∧ RowsCut W base v (f s)) := fun s X Y row ⟨v, hv, hr⟩ hg hrow =>
  have hk : KC (fun _ => False) X Y := kc_of_grown hg (fun r e => hrow r e)
  ⟨v, hk.boxed (fun h => h) hv, hr.kc hk (fun _ _ h => h)⟩


/-- A row more, behind an append. -/
theorem RowsCut.snoc {W w' : World} {base n b0 g' c' : Nat} {v u : Value} {ls : List (List B)} {us : List Value} {l : List B} (hn : ls.length = n) (h1 : W.ownsRow base 32 1 v n us)
    (h2 : ∀ i z, us[i]? = some z → OwnL W base z (ls.getD i []) ∧ ∀ b, z.ownBlock = some b → v.ownBlock ≠ some b) (h3 : ∀ (i j : Nat) (y z : Value) (b : Nat), us[i]? = some y → us[j]? = some z → y.ownBlock = some b → z.ownBlock = some b → i = j)
    (hold : ∀ (i : Nat) (z : Value), us[i]? = some z → ∀ b, z.ownBlock = some b → b < b0) (hv0 : ∀ b, v.ownBlock = some b → b < b0) (hu : OwnL W b0 u l) (hb0 : base ≤ b0)
    (ho' : w'.ownsRow base 32 1 (.slice (some ⟨g', 0, none⟩) (n + 1) c') (n + 1) (us ++ [u])) (hk : Kept (fun k => v.ownBlock = some k) W w') (hg' : v.ownBlock = some g' ∨ W.heap.size ≤ g') :
    RowsCut w' base (.slice (some ⟨g', 0, none⟩) (n + 1) c') (ls ++ [l]) := by
  subst hn
  have hul : us.length = ls.length := by have := h1.1; omega
  have get : ∀ i z, (us ++ [u])[i]? = some z → (i < us.length ∧ us[i]? = some z) ∨ (i = us.length ∧ z = u) := by
    intro i z hi
    by_cases e : i < us.length
    · rw [List.getElem?_append_left e] at hi; exact .inl ⟨e, hi⟩
    · have hi' : i = us.length := by
        have := (List.getElem?_eq_some_iff.1 hi).1
        simp at this; omega
      subst hi'
      exact .inr ⟨rfl, by simpa using hi.symm⟩
  have old : ∀ b, v.ownBlock = some b ∨ W.heap.size ≤ b → ∀ c, c < W.heap.size → v.ownBlock ≠ some c → b ≠ c := by
    intro b hb c hc hne e
    subst e
    rcases hb with q | q
    · exact hne q
    · omega
  refine ⟨us ++ [u], by simpa using ho', fun i z hi => ?_, fun i j y z b hi hj hy hz => ?_⟩
  · rcases get i z hi with ⟨e, hi⟩ | ⟨rfl, rfl⟩
    · obtain ⟨q1, q2⟩ := h2 i z hi
      rw [getD_snoc_lt (by omega)]
      refine ⟨q1.kept hk (fun b hb e => q2 b hb e), fun b hb e => ?_⟩
      exact old g' hg' b (q1.blk b hb).2 (q2 b hb) (by simpa [Value.ownBlock] using e)
    · rw [hul, getD_snoc_last]
      have q2 : ∀ b, z.ownBlock = some b → v.ownBlock ≠ some b := fun b hb e => by have := (hu.blk b hb).1; have := hv0 b e; omega
      refine ⟨(hu.kept hk (fun b hb e => q2 b hb e)).weaken hb0, fun b hb e => ?_⟩
      exact old g' hg' b (hu.blk b hb).2 (q2 b hb) (by simpa [Value.ownBlock] using e)
  · rcases get i y hi with ⟨e1, hi'⟩ | ⟨ei, ey⟩ <;> rcases get j z hj with ⟨e2, hj'⟩ | ⟨ej, ez⟩
    · exact h3 i j y z b hi' hj' hy hz
    · have := hold i y hi' b hy
      subst ez
      have := (hu.blk b hz).1
      omega
    · have := hold j z hj' b hz
      subst ey
      have := (hu.blk b hy).1
      omega
    · rw [ei, ej]

/-- How wide stripe i is; the layer that comes of stripe i by row m; layers by whatever stripes. -/
def spW (t : List (Int × Int)) (i : Nat) : Nat := atT t (i + 1) - atT t i
def layG (t t' : List (Int × Int)) (hs : List (Int × List B)) (m i : Nat) : List B :=
  let r := t.getD m (0, 0)
  layD r.1.toNat r.2.toNat (spW t' i) (partH hs r.1.toNat (atT t' i) (spW t' i))
def laysG (t t' : List (Int × Int)) (hs : List (Int × List B)) (pre : List Nat) : List (List B) := (List.range pre.length).map fun m => layG t t' hs m (pre.getD m 0)
theorem laysG_len (t t' : List (Int × Int)) (hs : List (Int × List B)) (pre : List Nat) : (laysG t t' hs pre).length = pre.length := by simp [laysG]
theorem laysG_snoc (t t' : List (Int × Int)) (hs : List (Int × List B)) (pre : List Nat) (x : Nat) : laysG t t' hs (pre ++ [x]) = laysG t t' hs pre ++ [layG t t' hs pre.length x] := by
  unfold laysG
  rw [List.length_append, List.length_singleton, List.range_succ, List.map_append]
  congr 1
  · refine List.map_congr_left fun m hm => ?_
    have := List.mem_range.1 hm
    rw [List.getD_eq_getElem?_getD, List.getD_eq_getElem?_getD, List.getElem?_append_left this]
  · simp [List.getD_eq_getElem?_getD]
theorem spW_is {t : List (Int × Int)} {i : Nat} (h : i < t.length) : spW t i = wdT (t.getD i (0, 0)) := by
  unfold spW
  rw [atT_succ h]
  omega
theorem getD_takeT {t : List (Int × Int)} {m i : Nat} (h : i < m) : (t.take m).getD i (0, 0) = t.getD i (0, 0) := by
  rw [List.getD_eq_getElem?_getD, List.getD_eq_getElem?_getD, List.getElem?_take, if_pos h]
theorem atT_take {t : List (Int × Int)} {m i : Nat} (h : i ≤ m) : atT (t.take m) i = atT t i := by
  unfold atT
  rw [List.take_take, Nat.min_eq_left h]
theorem laysG_is {t : List (Int × Int)} {hs : List (Int × List B)} {m : Nat} (hm : m ≤ t.length) : laysG t (t.take m) hs (List.range m) = layersL t hs m := by
  unfold laysG layersL
  rw [List.length_range]
  refine List.map_congr_left fun i hi => ?_
  have hi' := List.mem_range.1 hi
  have e : (List.range m).getD i 0 = i := by simp [List.getD_eq_getElem?_getD, hi']
  have e2 : spW (t.take m) i = wdT (t.getD i (0, 0)) := by rw [spW_is (by rw [List.length_take]; omega), getD_takeT hi']
  rw [e]
  unfold layG layerL layD
  simp only
  rw [e2, atT_take (by omega), if_pos (show wdT (t.getD i (0, 0)) = wdN _ _ from rfl), partH_is]
theorem RowsOk.take {n : Int} {t : List (Int × Int)} (h : RowsOk n t t.length) {m : Nat} (hm : m ≤ t.length) : RowsOk n (t.take m) (t.take m).length := fun i hi => by
  rw [List.length_take] at hi
  have h1 := h i (by omega)
  rw [getD_takeT (by omega)]
  have e : leastT (t.take m) i = leastT t i := by
    cases i with
    | zero => rfl
    | succ j =>
      show ((t.take m).getD j (0, 0)).1 = (t.getD j (0, 0)).1
      rw [getD_takeT (by omega)]
  rw [e]
  exact h1
theorem TableAt.take {w : World} {p : Option Addr} {n c m : Nat} {t : List (Int × Int)} (h : TableAt w (.slice p n c) t) (hm : m ≤ t.length) : TableAt w (.slice p m c) (t.take m) := by
  obtain ⟨_, _, e, hcap, hh⟩ := h
  obtain ⟨rfl, rfl, rfl⟩ := Value.slice.inj e
  have hl : (t.take m).length = m := by rw [List.length_take]; omega
  refine ⟨p, c, by rw [hl], by omega, fun h0 => ?_⟩
  rw [hl] at h0
  obtain ⟨g, o, rfl, hc⟩ := hh (by omega)
  refine ⟨g, o, rfl, fun i hi => ?_⟩
  rw [hl] at hi
  rw [getD_takeT hi]
  exact hc i (by omega)
theorem atT_over (t : List (Int × Int)) : ∀ {i j : Nat}, i ≤ j → atT t i ≤ atT t j := fun {i j} h => by
  by_cases h1 : j ≤ t.length
  · exact atT_mono h h1
  · have e : atT t j = atT t t.length := by unfold atT; rw [List.take_of_length_le (by omega), List.take_length]
    rw [e]
    by_cases h2 : i ≤ t.length
    · exact atT_mono h2 (Nat.le_refl _)
    · have e2 : atT t i = atT t t.length := by unfold atT; rw [List.take_of_length_le (by omega), List.take_length]
      rw [e2]; exact Nat.le_refl _
theorem atT_top (t : List (Int × Int)) (i : Nat) : atT t i ≤ atT t t.length := by
  by_cases h : i ≤ t.length
  · exact atT_over t h
  · have e2 : atT t i = atT t t.length := by unfold atT; rw [List.take_of_length_le (by omega), List.take_length]
    rw [e2]; exact Nat.le_refl _
end -- LayS

section -- LayH
open Go.RowKit Go.Maps Go.Shelf

attribute [local go_sem] Oper.semAt_some
set_option linter.unusedVariables false
set_option linter.unusedSimpArgs false
set_option maxRecDepth 100000
set_option maxHeartbeats 2000000

theorem long_bad (w : World) (n : Int) (v : Value) (t : List (Int × Int)) (hv : TableAt w v t) (hd : ¬ TableOk n t) :
    Calls Try.prog 51 #[.int .i64 n, v] w fun e w' => e = .returned (.tuple #[.int .i64 0, .int .i64 2]) ∧ Below w.heap.size w w' := by
  have HR := Lib.hid (tright_any (w.alloc (.cells #[.int .i64 0] 3)) n v t (hv.below (balT w _)))
  rw [decide_eq_false hd] at HR
  have HB := Lib.hid (balT w (.cells #[.int .i64 0] 3))
  have hx0 := Boxed.new w 3 (.int .i64 0)
  clear hd
  obtain ⟨p, c, rfl⟩ := hv.shape
  clear hv
  go_enter Try.func51, Try.ntmps51
  go_wp2_with fail
  refine HR.out.mono ?_
  rintro e w2 ⟨rfl, hB2⟩
  have hx2 := (KC.below (S := fun _ => False) hB2).boxed (fun h => h) hx0
  have hxc := hx2.cell
  have hxf := hx2.frozen
  have HX3 := Lib.hid (hx2.set (.int .i64 0)).cell
  have HB2 := Lib.hid (below_more HB.out hB2 HB.out.size)
  clear hB2 hx2 hx0
  go_wp2
  refine bodyPost_ret (v := .tuple #[.int .i64 0, .int .i64 2]) ?_ rfl ⟨rfl, HB2.out.setCell (p := ⟨w.heap.size, 0, none⟩) (Nat.le_refl _) _⟩
  have h := HX3.out
  simp [results, Try.f51, go_sem, h]

def lastT (t : List (Int × Int)) (pre : List Nat) : Int := match pre.getLast? with | some x => ((atT t (x + 1) : Nat) : Int) | none => 0
theorem lastT_snoc (t : List (Int × Int)) (pre : List Nat) (x : Nat) : lastT t (pre ++ [x]) = ((atT t (x + 1) : Nat) : Int) := by simp [lastT]
theorem lastT_spans (t : List (Int × Int)) {m : Nat} (h : 1 ≤ m) : lastT t (List.range m) = ((atT t m : Nat) : Int) := by
  obtain ⟨k, rfl⟩ : ∃ k, m = k + 1 := ⟨m - 1, by omega⟩
  rw [List.range_succ, lastT_snoc]

theorem long_ok (w : World) (n : Int) (v : Value) (t : List (Int × Int)) (hv : TableAt w v t) (hd : TableOk n t) :
    Calls Try.prog 51 #[.int .i64 n, v] w fun e w' => e = .returned (.tuple #[.int .i64 ((atT t t.length : Nat) : Int), .int .i64 0]) ∧ Below w.heap.size w w' := by
  have HR := Lib.hid (tright_any (w.alloc (.cells #[.int .i64 0] 3)) n v t (hv.below (balT w _)))
  rw [decide_eq_true hd] at HR
  have HB := Lib.hid (balT w (.cells #[.int .i64 0] 3))
  have hx0 := Boxed.new w 3 (.int .i64 0)
  obtain ⟨hn1, hn2, hl1, hl2, hok⟩ := hd
  obtain ⟨p, c, rfl⟩ := hv.shape
  have HV := Lib.hid hv
  have HOK := Lib.hid hok
  clear hv hok
  refine (callsIn_wide (n := 8)).1 ?_
  have h1 : 1 ≤ 8 := by omega
  have hf12 : Fence.wide.fn 59 := trivial
  have hf22 : Fence.wide.fn 62 := trivial
  refine callsIn_of_wp_marks Try.func51 rfl trivial ?_ rfl
  simp only [Try.ntmps51, List.size_toArray, List.length_cons, List.length_nil, Nat.reduceAdd, Nat.reduceSub, Array.replicate_succ, Array.replicate_zero, List.push_toArray, List.append_toArray, List.nil_append, List.cons_append]
  gi_wp2_with (gi_at_call 59; refine (callsIn_wide.2 HR.out).mono ?_; rintro e w2 ⟨rfl, hB2⟩; have hx2 := (KC.below (S := fun _ => False) hB2).boxed (fun h => h) hx0; have HX2 := Lib.hid hx2; have HB2 := Lib.hid (below_more HB.out hB2 HB.out.size); have HS2 := Lib.hid (show w.heap.size < w2.heap.size from Nat.lt_of_lt_of_le (by simp) hB2.size); clear hB2 hx2 hx0)
  gi_wp2_with (gi_at_call 62; refine (stripes_in _ _ _ _ _).mono ?_; rintro e w3 ⟨rfl, rfl⟩)
  have hbx := Boxed.new w2 29 (.slice p t.length c)
  have hB3 : Below w.heap.size w (w2.alloc (.cells #[.slice p t.length c] 29)) := HB2.out.alloc HB2.out.size _
  have hx3 := HX2.out.alloc (.cells #[.slice p t.length c] 29)
  obtain ⟨w3, hw3⟩ : ∃ x, w2.alloc (.cells #[.slice p t.length c] 29) = x := ⟨_, rfl⟩
  have hs3 : w3.heap.size = w2.heap.size + 1 := by rw [← hw3]; simp
  rw [hw3] at hbx hB3 hx3
  rw [hw3]
  have hlt2 := HS2.out
  clear hw3
  refine wpIn_rangeFunc_ownG rfl h1 (gf := 68) (lb := #[.pointer (some ⟨w2.heap.size, 0, none⟩)]) rfl trivial (enters_of Try.func68 (by kernel_rfl) rfl)
    (stripes_stops (8 - 1) (by omega) w2.heap.size _ t n HOK.out hn2 hl2 w w3 HV.out (hB3) (fun k => k = w.heap.size) (fun k hk e => by omega) (by omega) hbx) kc_t kc_b (Below.refl _ _) (fun _ => rfl)
    (fun pre W => Boxed W w.heap.size 3 (.int .i64 (lastT t pre)) ∧ Below w.heap.size w W)
    (fun _ _ _ => False)
    (OwnFrom.and (Own.from (boxed_own w.heap.size 3 (fun pre : List Nat => .int .i64 (lastT t pre))) _) (ownFrom_below (Nat.le_refl _) (by omega)))
    (fun _ _ _ _ _ hs _ _ => hs)
    ⟨hx3, hB3⟩
    (fun x => { tmps := #[.int .i64 n, .slice p t.length c, undef, undef, .pointer (some ⟨w.heap.size, 0, none⟩), .int .i64 0, undef, .int .i64 ((atT t (x + 1) : Nat) : Int), .int .i64 n, .slice p t.length c, .bool true, .bool false, .slice p t.length c, .func (.func 68) #[] #[.pointer (some ⟨w2.heap.size, 0, none⟩)], .int .i64 ((atT t x : Nat) : Int), .int .i64 ((atT t (x + 1) : Nat) : Int), undef, undef], defers := [] }) ?assign ?body ?done ?stop
  case assign =>
    intro l x W K hK
    gi_wp2
    exact hK
  case body =>
    rintro l pre x W ⟨hv, hB⟩ hlt
    have hc := hv.cell
    have hf := hv.frozen
    gi_wp2
    exact ⟨(KeepsOthers.setCell W ⟨w.heap.size, 0, none⟩ _).from _, KC.grown (grownBy_setCell' W w.heap.size _) (fun j e => by cases e; rfl), by rw [lastT_snoc]; exact hv.set _, hB.setCell (p := ⟨w.heap.size, 0, none⟩) (Nat.le_refl _) _⟩
  case done =>
    rintro D ys W hD rfl ⟨hv, hB⟩ hK
    rw [lastT_spans t hl1] at hv
    obtain ⟨a, ha⟩ : ∃ a, atT t t.length = a := ⟨_, rfl⟩
    rw [ha] at hv
    have HA := Lib.hid ha
    clear ha
    have hc := hv.cell
    have hf := hv.frozen
    gi_wp2
    have hK' : (W.setCell ⟨w.heap.size, 0, none⟩ (.int .i64 (a : Int))).heap[D]? = some (.deferred (some [])) := (KeepsOthers.setCell W ⟨w.heap.size, 0, none⟩ _).same D _ hK rfl
    refine ⟨by simp, .inl ⟨_, _, rfl, run_takeDeferred hK', ?_⟩⟩
    have hv2 := hv.set (.int .i64 (a : Int))
    have hc5 := cell_kept hv2.cell (grownBy_putObj' _ D (.deferred none)) (fun r e => by cases e; exact ⟨_, hK', rfl⟩)
    refine ⟨.tuple #[.int .i64 (a : Int), .int .i64 0], ?_, by rw [HA.out], ?_⟩
    · simp [results, Try.f51, go_sem, hc5]
    · exact (hB.setCell (p := ⟨w.heap.size, 0, none⟩) (Nat.le_refl _) _).trans (belowK_b (w := w) (Nat.le_refl _) _ D _ _ (by omega) hK' rfl rfl)
  case stop =>
    rintro D c pre W _ _ h _
    exact h.elim
end -- LayH

end Go.Proofs.Ytibelpamolcmcaa
