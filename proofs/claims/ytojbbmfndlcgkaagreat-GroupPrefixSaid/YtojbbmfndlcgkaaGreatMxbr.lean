/-
  LayR: Layer 10, walks: a layer out of its stripes.
  LayS: Rows that are cut, and what a loop's body keeps.
-/
import Derived.Test.YtojbbmfndlcgkaaGreatMxbq
namespace Go.Proofs.YtojbbmfndlcgkaaGreat

section -- LayR
open Go.RowKit Go.Maps
set_option linter.unusedVariables false
set_option linter.unusedSimpArgs false
set_option maxRecDepth 100000
set_option maxHeartbeats 2000000

theorem joddT_any (w : World) (bx wd d : Nat) (hb : w.cell? ⟨bx, 0, none⟩ = some (.int .i64 (wd : Int))) (hne : d ≠ wd) (p : Option Addr) (c : Nat) :
    Calls Tryz.prog 67 #[.slice p d c, .pointer (some ⟨bx, 0, none⟩)] w fun e w' => e = .returned (.bool true) ∧ w = w' := by
  have h1 : ¬ (d : Int) = (wd : Int) := by omega
  have h2 : ((d : Int) != (wd : Int)) = true := by simpa using h1
  go_enter Tryz.func67, Tryz.ntmps67
  go_wp2
  go_ret
  exact ⟨by first | rfl | (show Ending.returned (.bool ((d : Int) != (wd : Int))) = _; rw [h2]), rfl⟩

theorem jindexT_any (w : World) (bx wd d : Nat) (vl : Value) (ls : List (List B)) (hb : w.cell? ⟨bx, 0, none⟩ = some (.int .i64 (wd : Int))) (hl : RowsAt w vl ls) (h0 : 0 < ls.length) (hw : (ls.getD 0 []).length = d) (hne : d ≠ wd) :
    Calls Tryz.prog 71 #[vl, .func (.func 67) #[] #[.pointer (some ⟨bx, 0, none⟩)]] w fun e w' => e = .returned (.int .i64 0) ∧ w = w' := by
  obtain ⟨pl, cl, rfl, hh⟩ := hl
  obtain ⟨g, off, rfl, hc⟩ := hh h0
  obtain ⟨u, hu, hub⟩ := hc 0 h0
  obtain ⟨pu, cu, rfl⟩ := hub.shape
  rw [hw] at hu
  rw [Nat.add_zero] at hu
  have HR := Lib.hid (joddT_any w bx wd d hb hne pu cu)
  clear hh hc hub hb
  go_enter Tryz.func71, Tryz.ntmps71
  go_wp2
  go_loop [5, 8, 9, 10, 11, 12, 13, 14, 15, 16] (fun _ i _ _ _ _ _ _ _ _ => i = .int .i64 0) (fun _ i _ _ _ _ _ _ _ _ => 0)
  case atStart => rfl
  case round =>
    obtain rfl := hrel
    go_wp2_with fail
    refine HR.out.mono ?_
    rintro e w' ⟨rfl, rfl⟩
    go_wp2
    go_ret
    exact ⟨rfl, rfl⟩

theorem jcontainsT_any (w : World) (bx wd d : Nat) (vl : Value) (ls : List (List B)) (hb : w.cell? ⟨bx, 0, none⟩ = some (.int .i64 (wd : Int))) (hl : RowsAt w vl ls) (h0 : 0 < ls.length) (hw : (ls.getD 0 []).length = d) (hne : d ≠ wd) :
    Calls Tryz.prog 60 #[vl, .func (.func 67) #[] #[.pointer (some ⟨bx, 0, none⟩)]] w fun e w' => e = .returned (.bool true) ∧ w = w' := by
  have KEY := Lib.hid (jindexT_any w bx wd d vl ls hb hl h0 hw hne)
  clear hb hl
  go_enter Tryz.func60, Tryz.ntmps60
  go_wp2_with (go_at_call 71; refine KEY.out.mono ?_; rintro e w' ⟨rfl, rfl⟩)
  go_ret
  exact ⟨rfl, rfl⟩

theorem join_odd (w : World) (vr : Value) (rows : List (List B)) (long k d : Nat) (hr : RowsAt w vr rows) (hk : rows.length = k) (h1 : 1 ≤ k) (h2 : k ≤ 255) (hl : long ≤ 65535) (hw : (rows.getD 0 []).length = d) (hne : d ≠ wdN long k) :
    Calls Tryz.prog 54 #[vr, .int .i64 (long : Int)] w fun e w' => e = .returned (.tuple #[.slice none 0 0, .int .i64 4]) ∧ Below w.heap.size w w' := by
  have HW := Lib.hid (fun W => width_any W long k hl h1 h2)
  obtain ⟨wd, hwd⟩ : ∃ wd, wdN long k = wd := ⟨_, rfl⟩
  rw [hwd] at HW hne
  have hB1 := (Kept.alloc (fun _ => False) w (.cells #[.int .i64 (wd : Int)] 3)).toBelow (Nat.le_refl _) (fun _ h => h.elim)
  have hc1 : (w.alloc (.cells #[.int .i64 (wd : Int)] 3)).cell? ⟨w.heap.size, 0, none⟩ = some (.int .i64 (wd : Int)) := World.cell?_alloc_new w _ _ 0
  have HCT := Lib.hid (jcontainsT_any _ w.heap.size wd d vr rows hc1 (hr.below hB1) (by omega) hw hne)
  have HB1 := Lib.hid hB1
  obtain ⟨p, c, rfl⟩ := hr.shape
  rw [hk] at HCT ⊢
  clear hr hw hwd hB1 hc1 hne
  go_enter Tryz.func54, Tryz.ntmps54
  go_wp2_with fail
  refine (HW.out _).mono ?_
  rintro e w' ⟨rfl, rfl⟩
  go_wp2_with fail
  refine HCT.out.mono ?_
  rintro e w' ⟨rfl, rfl⟩
  go_wp2
  go_ret2
  exact ⟨rfl, HB1.out⟩

theorem decL_len (k : Nat) (ys : List B) (l : List (List B)) (d : Nat) : (decL k ys l d).length = k := by simp [decL, turnL]
theorem decL_wide {k : Nat} {ys : List B} {l : List (List B)} {d : Nat} : ∀ i, i < (decL k ys l d).length → ((decL k ys l d).getD i []).length = d := fun i h => by
  rw [decL_len] at h
  unfold decL turnL
  rw [List.map_map, getD_range _ _ h]
  exact mixL_len _ _ _
/-- The layer that comes of held rows, d wide. -/
def layD (k long d : Nat) (hs : List (Int × List B)) : List B := if d = wdN long k then joinL (decL k (idxB ((hIdx hs).take k)) (hRow hs) d) long else []

theorem layer_any (w : World) (n k long d : Nat) (v : Value) (hs : List (Int × List B)) (hv : HeldAt w v hs) (hl : hs.length ≤ 1000000) (h1 : 1 ≤ k) (h2 : k ≤ n) (h3 : n ≤ 255) (hlong : long ≤ 65535) (he : decE n k hs = 0) (hd : (hs.getD 0 (0, [])).2.length = d) (hd2 : d ≤ 1000000) :
    Calls Tryz.prog 41 #[.int .i64 (n : Int), .agg #[.int .i64 (k : Int), .int .i64 (long : Int)], v] w fun e w' => ∃ u, e = .returned u ∧ OwnL w' w.heap.size u (layD k long d hs) ∧ Below w.heap.size w w' := by
  have HC := Lib.hid (fun W => cnew_any W n k h1 h2 h3)
  have hB1 := balT w (.cells #[.int .i64 (k : Int), .int .i64 (long : Int)] 46)
  have HV := Lib.hid (hv.below hB1)
  have HB1 := Lib.hid hB1
  have HE := Lib.hid he
  have HD := Lib.hid hd
  have g0 : (w.alloc (.cells #[.int .i64 (k : Int), .int .i64 (long : Int)] 46)).cell? ⟨w.heap.size, 0, none⟩ = some (.int .i64 (k : Int)) := World.cell?_alloc_new w _ _ 0
  have g1 : (w.alloc (.cells #[.int .i64 (k : Int), .int .i64 (long : Int)] 46)).cell? ⟨w.heap.size, 1, none⟩ = some (.int .i64 (long : Int)) := World.cell?_alloc_new w _ _ 1
  have HG1 := Lib.hid g1
  have hsz : (w.alloc (.cells #[.int .i64 (k : Int), .int .i64 (long : Int)] 46)).heap.size = w.heap.size + 1 := by simp
  have HSZ := Lib.hid hsz
  obtain ⟨p, cap, rfl, _⟩ := hv
  clear hB1 he hd g0 g1 hsz
  go_enter Tryz.func41, Tryz.ntmps41
  go_wp2_with fail
  refine (HC.out _).mono ?_
  rintro e w2 ⟨bc, bf, vt, rfl, hc, hB2⟩
  have HDE := Lib.hid (decode_any w2 hc _ hs d (HV.out.below hB2) hl HD.out (by omega))
  have HB2 := Lib.hid (below_more HB1.out hB2 HB1.out.size)
  have HG2 := Lib.hid ((hB2.cell (p := ⟨w.heap.size, 1, none⟩) (blt HG1.out)).trans HG1.out)
  clear hc hB2
  go_wp2_with fail
  refine HDE.out.mono ?_
  rintro e w3 ⟨vr, rfl, hok, _, hB3⟩
  have hlo := hok HE.out
  have HB3 := Lib.hid (below_more HB2.out hB3 HB2.out.size)
  have g3 := (hB3.cell (p := ⟨w.heap.size, 1, none⟩) (blt HG2.out)).trans HG2.out
  have hrw := hlo.rows
  obtain ⟨pr, cr, rfl⟩ := hrw.shape
  by_cases hdw : d = wdN long k
  · have HJ := Lib.hid (join_any w3 _ _ long k hrw (decL_len _ _ _ _) h1 (by omega) hlong (fun i hi => by rw [← hdw]; exact decL_wide i hi))
    have HLD := Lib.hid (show layD k long d hs = joinL (decL k (idxB ((hIdx hs).take k)) (hRow hs) d) long from by unfold layD; rw [if_pos hdw])
    clear hok hlo hB3 hrw hdw
    go_wp2_with fail
    refine HJ.out.mono ?_
    rintro e w4 ⟨u, rfl, hu, hB4⟩
    have HU := Lib.hid (hu.weaken HB3.out.size)
    have HB4 := Lib.hid (below_more HB3.out hB4 HB3.out.size)
    clear hu hB4
    go_wp2
    go_ret
    exact ⟨_, rfl, by rw [HLD.out]; exact HU.out, HB4.out⟩
  · have HJ := Lib.hid (join_odd w3 _ _ long k d hrw (decL_len _ _ _ _) h1 (by omega) hlong (decL_wide 0 (by rw [decL_len]; omega)) hdw)
    have HLD := Lib.hid (show layD k long d hs = [] from by unfold layD; rw [if_neg hdw])
    clear hok hlo hB3 hrw hdw
    go_wp2_with fail
    refine HJ.out.mono ?_
    rintro e w4 ⟨rfl, hB4⟩
    have HB4 := Lib.hid (below_more HB3.out hB4 HB3.out.size)
    clear hB4
    go_wp2
    go_ret
    exact ⟨_, rfl, by rw [HLD.out]; exact .inl (Own.nil _ _), HB4.out⟩
end -- LayR

section -- LayS
open Go.RowKit Go.Maps
set_option linter.unusedVariables false
set_option maxRecDepth 100000

section
variable {S : Nat → Prop} {W W' : World}
theorem kc_of_grown {row : Option Nat} (hg : W.grownBy W' row) (hr : ∀ r, row = some r → ∃ o, W.heap[r]? = some o ∧ o.isCells = false) : KC S W W' :=
  ⟨hg.size, fun k c e f _ hk => (hg.block k (Array.getElem?_eq_some_iff.1 hk).1 (fun q => by
    obtain ⟨o, ho, hc⟩ := hr k q.symm
    rw [hk] at ho; cases ho; cases hc)).trans hk⟩
theorem ownsRow_kc {base size k : Nat} {e : TypeId} {v : Value} {xs : List Value} (h : W.ownsRow base e size v k xs) (hk : KC S W W') (hS : ∀ g, v.ownBlock = some g → ¬ S g) : W'.ownsRow base e size v k xs := by
  refine ⟨h.1, ?_⟩
  rcases h.2 with ⟨rfl, hz⟩ | ⟨g, cap, cur, rfl, h2, h3, h4⟩
  · exact .inl ⟨rfl, hz⟩
  · exact .inr ⟨g, cap, cur, rfl, h2, hk.same g _ _ _ (hS g rfl) h3, h4⟩
theorem OwnL.kc {base : Nat} {v : Value} {l : List B} (h : OwnL W base v l) (hk : KC S W W') (hS : ∀ g, v.ownBlock = some g → ¬ S g) : OwnL W' base v l := by
  rcases h with h | ⟨g, rfl, h1, h2, C, h3, h4⟩
  · exact .inl (ownsRow_kc h hk hS)
  · exact .inr ⟨g, rfl, h1, h2, C, hk.same g _ _ _ (hS g rfl) h3, h4⟩
theorem RowsCut.kc {base : Nat} {v : Value} {ls : List (List B)} (h : RowsCut W base v ls) (hk : KC S W W') (hS : ∀ k, base ≤ k → ¬ S k) : RowsCut W' base v ls := by
  obtain ⟨us, h1, h2, h3⟩ := h
  exact ⟨us, ownsRow_kc h1 hk (fun g hg => hS g (h1.lt g hg).1), fun i u hi => ⟨(h2 i u hi).1.kc hk (fun g hg => hS g ((h2 i u hi).1.blk g hg).1), (h2 i u hi).2⟩, h3⟩
end
theorem rowsCut_own {β : Type} (base B : Nat) (t : TypeId) (f : β → List (List Go.Proofs.YtojbbmfndlcgkaaGreat.B)) : Go.Own (fun (s : β) (W : World) => ∃ v, Boxed W B t v ∧ RowsCut W base v (f s)) := fun s X Y row ⟨v, hv, hr⟩ hg hrow =>
  have hk : KC (fun _ => False) X Y := kc_of_grown hg (fun r e => hrow r e)
  ⟨v, hk.boxed (fun h => h) hv, hr.kc hk (fun _ _ h => h)⟩


/-- A row more, behind an append. -/
theorem RowsCut.snoc {W w' : World} {base n b0 g' c' : Nat} {v u : Value} {ls : List (List B)} {us : List Value} {l : List B} (hn : ls.length = n) (h1 : W.ownsRow base 39 1 v n us)
    (h2 : ∀ i z, us[i]? = some z → OwnL W base z (ls.getD i []) ∧ ∀ b, z.ownBlock = some b → v.ownBlock ≠ some b) (h3 : ∀ (i j : Nat) (y z : Value) (b : Nat), us[i]? = some y → us[j]? = some z → y.ownBlock = some b → z.ownBlock = some b → i = j)
    (hold : ∀ (i : Nat) (z : Value), us[i]? = some z → ∀ b, z.ownBlock = some b → b < b0) (hv0 : ∀ b, v.ownBlock = some b → b < b0) (hu : OwnL W b0 u l) (hb0 : base ≤ b0)
    (ho' : w'.ownsRow base 39 1 (.slice (some ⟨g', 0, none⟩) (n + 1) c') (n + 1) (us ++ [u])) (hk : Kept (fun k => v.ownBlock = some k) W w') (hg' : v.ownBlock = some g' ∨ W.heap.size ≤ g') :
    RowsCut w' base (.slice (some ⟨g', 0, none⟩) (n + 1) c') (ls ++ [l]) := by
  subst hn
  have hul : us.length = ls.length := by have := h1.1; omega
  have get : ∀ i z, (us ++ [u])[i]? = some z → (i < us.length ∧ us[i]? = some z) ∨ (i = us.length ∧ z = u) := by
    intro i z hi
    by_cases e : i < us.length
    · rw [List.getElem?_append_left e] at hi; exact .inl ⟨e, hi⟩
    · have hi' : i = us.length := by
        have := (List.getElem?_eq_some_iff.1 hi).1
        simp at this; omega
      subst hi'
      exact .inr ⟨rfl, by simpa using hi.symm⟩
  have old : ∀ b, v.ownBlock = some b ∨ W.heap.size ≤ b → ∀ c, c < W.heap.size → v.ownBlock ≠ some c → b ≠ c := by
    intro b hb c hc hne e
    subst e
    rcases hb with q | q
    · exact hne q
    · omega
  refine ⟨us ++ [u], by simpa using ho', fun i z hi => ?_, fun i j y z b hi hj hy hz => ?_⟩
  · rcases get i z hi with ⟨e, hi⟩ | ⟨rfl, rfl⟩
    · obtain ⟨q1, q2⟩ := h2 i z hi
      rw [getD_snoc_lt (by omega)]
      refine ⟨q1.kept hk (fun b hb e => q2 b hb e), fun b hb e => ?_⟩
      exact old g' hg' b (q1.blk b hb).2 (q2 b hb) (by simpa [Value.ownBlock] using e)
    · rw [hul, getD_snoc_last]
      have q2 : ∀ b, z.ownBlock = some b → v.ownBlock ≠ some b := fun b hb e => by have := (hu.blk b hb).1; have := hv0 b e; omega
      refine ⟨(hu.kept hk (fun b hb e => q2 b hb e)).weaken hb0, fun b hb e => ?_⟩
      exact old g' hg' b (hu.blk b hb).2 (q2 b hb) (by simpa [Value.ownBlock] using e)
  · rcases get i y hi with ⟨e1, hi'⟩ | ⟨ei, ey⟩ <;> rcases get j z hj with ⟨e2, hj'⟩ | ⟨ej, ez⟩
    · exact h3 i j y z b hi' hj' hy hz
    · have := hold i y hi' b hy
      subst ez
      have := (hu.blk b hz).1
      omega
    · have := hold j z hj' b hz
      subst ey
      have := (hu.blk b hy).1
      omega
    · rw [ei, ej]

/-- How wide stripe i is; the layer that comes of stripe i by row m; layers by whatever stripes. -/
def spW (t : List (Int × Int)) (i : Nat) : Nat := atT t (i + 1) - atT t i
def layG (t t' : List (Int × Int)) (hs : List (Int × List B)) (m i : Nat) : List B :=
  let r := t.getD m (0, 0)
  layD r.1.toNat r.2.toNat (spW t' i) (partH hs r.1.toNat (atT t' i) (spW t' i))
def laysG (t t' : List (Int × Int)) (hs : List (Int × List B)) (pre : List Nat) : List (List B) := (List.range pre.length).map fun m => layG t t' hs m (pre.getD m 0)
theorem laysG_len (t t' : List (Int × Int)) (hs : List (Int × List B)) (pre : List Nat) : (laysG t t' hs pre).length = pre.length := by simp [laysG]
theorem laysG_snoc (t t' : List (Int × Int)) (hs : List (Int × List B)) (pre : List Nat) (x : Nat) : laysG t t' hs (pre ++ [x]) = laysG t t' hs pre ++ [layG t t' hs pre.length x] := by
  unfold laysG
  rw [List.length_append, List.length_singleton, List.range_succ, List.map_append]
  congr 1
  · refine List.map_congr_left fun m hm => ?_
    have := List.mem_range.1 hm
    rw [List.getD_eq_getElem?_getD, List.getD_eq_getElem?_getD, List.getElem?_append_left this]
  · simp [List.getD_eq_getElem?_getD]
theorem spW_is {t : List (Int × Int)} {i : Nat} (h : i < t.length) : spW t i = wdT (t.getD i (0, 0)) := by
  unfold spW
  rw [atT_succ h]
  omega
theorem getD_takeT {t : List (Int × Int)} {m i : Nat} (h : i < m) : (t.take m).getD i (0, 0) = t.getD i (0, 0) := by
  rw [List.getD_eq_getElem?_getD, List.getD_eq_getElem?_getD, List.getElem?_take, if_pos h]
theorem atT_take {t : List (Int × Int)} {m i : Nat} (h : i ≤ m) : atT (t.take m) i = atT t i := by
  unfold atT
  rw [List.take_take, Nat.min_eq_left h]
theorem laysG_is {t : List (Int × Int)} {hs : List (Int × List B)} {m : Nat} (hm : m ≤ t.length) : laysG t (t.take m) hs (List.range m) = layersL t hs m := by
  unfold laysG layersL
  rw [List.length_range]
  refine List.map_congr_left fun i hi => ?_
  have hi' := List.mem_range.1 hi
  have e : (List.range m).getD i 0 = i := by simp [List.getD_eq_getElem?_getD, hi']
  have e2 : spW (t.take m) i = wdT (t.getD i (0, 0)) := by rw [spW_is (by rw [List.length_take]; omega), getD_takeT hi']
  rw [e]
  unfold layG layerL layD
  simp only
  rw [e2, atT_take (by omega), if_pos (show wdT (t.getD i (0, 0)) = wdN _ _ from rfl), partH_is]
theorem RowsOk.take {n : Int} {t : List (Int × Int)} (h : RowsOk n t t.length) {m : Nat} (hm : m ≤ t.length) : RowsOk n (t.take m) (t.take m).length := fun i hi => by
  rw [List.length_take] at hi
  have h1 := h i (by omega)
  rw [getD_takeT (by omega)]
  have e : leastT (t.take m) i = leastT t i := by
    cases i with
    | zero => rfl
    | succ j =>
      show ((t.take m).getD j (0, 0)).1 = (t.getD j (0, 0)).1
      rw [getD_takeT (by omega)]
  rw [e]
  exact h1
theorem TableAt.take {w : World} {p : Option Addr} {n c m : Nat} {t : List (Int × Int)} (h : TableAt w (.slice p n c) t) (hm : m ≤ t.length) : TableAt w (.slice p m c) (t.take m) := by
  obtain ⟨_, _, e, hcap, hh⟩ := h
  obtain ⟨rfl, rfl, rfl⟩ := Value.slice.inj e
  have hl : (t.take m).length = m := by rw [List.length_take]; omega
  refine ⟨p, c, by rw [hl], by omega, fun h0 => ?_⟩
  rw [hl] at h0
  obtain ⟨g, o, rfl, hc⟩ := hh (by omega)
  refine ⟨g, o, rfl, fun i hi => ?_⟩
  rw [hl] at hi
  rw [getD_takeT hi]
  exact hc i (by omega)
theorem atT_over (t : List (Int × Int)) : ∀ {i j : Nat}, i ≤ j → atT t i ≤ atT t j := fun {i j} h => by
  by_cases h1 : j ≤ t.length
  · exact atT_mono h h1
  · have e : atT t j = atT t t.length := by unfold atT; rw [List.take_of_length_le (by omega), List.take_length]
    rw [e]
    by_cases h2 : i ≤ t.length
    · exact atT_mono h2 (Nat.le_refl _)
    · have e2 : atT t i = atT t t.length := by unfold atT; rw [List.take_of_length_le (by omega), List.take_length]
      rw [e2]; exact Nat.le_refl _
theorem atT_top (t : List (Int × Int)) (i : Nat) : atT t i ≤ atT t t.length := by
  by_cases h : i ≤ t.length
  · exact atT_over t h
  · have e2 : atT t i = atT t t.length := by unfold atT; rw [List.take_of_length_le (by omega), List.take_length]
    rw [e2]; exact Nat.le_refl _
end -- LayS

end Go.Proofs.YtojbbmfndlcgkaaGreat
