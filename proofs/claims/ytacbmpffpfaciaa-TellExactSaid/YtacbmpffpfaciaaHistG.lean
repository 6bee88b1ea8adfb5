/-
  Walks of layer 21 (hist): Counts, Take.
-/
import Derived.Test.YtacbmpffpfaciaaHistF
namespace Go.Proofs.Ytacbmpffpfaciaa
open Go.RowKit Go.Maps Go.Shelf Go.Sort

attribute [local go_sem] Oper.semAt_some

set_option maxRecDepth 100000
set_option maxHeartbeats 1000000

/-- Counts as cells. -/
def flat (cs : List (Int × Int)) : List Value := cs.flatMap fun c => [.int .i64 c.1, .int .i64 c.2]

theorem flat_length : ∀ cs : List (Int × Int), (flat cs).length = cs.length * 2
  | [] => rfl
  | c :: r => by
    have := flat_length r
    simp only [flat, List.flatMap_cons, List.length_append, List.length_cons, List.length_nil] at this ⊢
    omega

theorem flat_snoc (cs : List (Int × Int)) (c : Int × Int) : flat (cs ++ [c]) = flat cs ++ [.int .i64 c.1, .int .i64 c.2] := by simp [flat]

theorem flat_get : ∀ (cs : List (Int × Int)) (j : Nat) (c : Int × Int), cs[j]? = some c → (flat cs)[j * 2]? = some (.int .i64 c.1) ∧ (flat cs)[j * 2 + 1]? = some (.int .i64 c.2)
  | [], j, c, h => by simp at h
  | d :: r, 0, c, h => by
    obtain rfl : d = c := by simpa using h
    exact ⟨rfl, rfl⟩
  | d :: r, j + 1, c, h => by
    have := flat_get r j c (by simpa using h)
    have e : flat (d :: r) = .int .i64 d.1 :: .int .i64 d.2 :: flat r := rfl
    rw [e, show (j + 1) * 2 = j * 2 + 1 + 1 from by omega]
    simpa using this

/-- A row of counts of the call's own reads as counts. -/
theorem countsAt_of_row {w : World} {base : Nat} {v : Value} {cs : List (Int × Int)} (h : w.ownsRow base 32 2 v cs.length (flat cs)) : CountsAt w v cs := by
  rcases h.2 with ⟨rfl, hz⟩ | ⟨g, cap, cur, rfl, hb, hg, h1, h2, h3, h4⟩
  · exact .inl ⟨rfl, List.eq_nil_of_length_eq_zero hz⟩
  · refine .inr ⟨g, 0, cap, rfl, (Array.getElem?_eq_some_iff.1 hg).1, fun j c hj => ?_⟩
    obtain ⟨e1, e2⟩ := flat_get cs j c hj
    rw [← h4, List.getElem?_take] at e1 e2
    split at e1
    · split at e2
      · simp only [World.cell?, hg, Nat.zero_add]
        exact ⟨by simpa using e1, by simpa using e2⟩
      · cases e2
    · cases e1

theorem infoC : (Try.prog.info? 32).map (fun i => (i.zero, i.size, i.bytes)) = some (some (.agg #[.int .i64 0, .int .i64 0]), 2, 16) := by kernel_rfl

theorem rising_in (m : Nat) (mb : Option Nat) (w : World) :
    CallsIn Fence.wide m Try.prog 32 #[.map mb] w fun e w' => e = .returned (.func (.func 48) #[] #[.pointer (some ⟨w.heap.size, 0, none⟩)]) ∧ w' = w.alloc (.cells #[.map mb] 67) := by
  refine callsIn_of_wp Try.func32 rfl trivial ?_ rfl
  simp only [Try.ntmps32, List.size_toArray, List.length_cons, List.length_nil, Nat.reduceAdd, Nat.reduceSub, Array.replicate_succ, Array.replicate_zero, List.push_toArray, List.append_toArray, List.nil_append, List.cons_append]
  gi_wp2
  go_ret
  exact ⟨rfl, rfl⟩

theorem rising_stops (m : Nat) (hm1 : 6 ≤ m) (Bm bm n : Nat) (f : Int → Int) (hgood : Good n f) (w : World) (hbox : Boxed w Bm 67 (.map (some bm)))
    (hown : w.ownsMap Try.prog 3 (plainElem Try.prog 3) bm 256 (tallyD n f)) :
    SeqStopsK Fence.wide m Try.prog 48 #[.pointer (some ⟨Bm, 0, none⟩)] (encs2 f) KeepsE (fun ss => ss = keysOf n f) (fun _ => True) n w := fun l J Jx W hW hJ _ hY h0 => by
  have hown' : W.ownsMap Try.prog 3 (plainElem Try.prog 3) bm 256 (tallyD n f) := by
    have hbl := hown.lt
    obtain ⟨es, clock, hb, Ft, hs, hD⟩ := hown
    exact ⟨es, clock, (hW.block bm hbl).trans hb, Ft, hs, hD⟩
  exact rising1_in m hm1 l Bm bm n f hgood J Jx hY W hJ ((hW.block Bm hbox.lt).trans hbox) hown' h0

def toldF (f : Int → Int) (ks : List Int) : List (Int × Int) := ks.map fun k => (k, min (f k) 65535)
theorem toldF_length (f : Int → Int) (ks : List Int) : (toldF f ks).length = ks.length := by simp [toldF]
theorem toldF_snoc (f : Int → Int) (ks : List Int) (k : Int) : toldF f (ks ++ [k]) = toldF f ks ++ [(k, min (f k) 65535)] := by simp [toldF]

theorem keepsE_appended {W w1 : World} {B n₀ size k : Nat} {v v' : Value} {xs : List Value} {tmp : Obj} (hv1 : Boxed w1 B 29 v) (hrow : W.ownsRow n₀ 32 size v k xs)
    (hgrow : (W.alloc tmp).grownBy w1 v.ownBlock) : KeepsE W (w1.setCell ⟨B, 0, none⟩ v') := by
  refine ((KeepsE.alloc W tmp).trans (KeepsE.grown hgrow fun j o ej hj => ?_)).trans (KeepsE.grown (grownBy_setCell' w1 B v') (fun j o e hj => by cases e; rw [show w1.heap[B]? = _ from hv1] at hj; cases hj; rfl))
  rcases (hrow.alloc tmp).2 with ⟨rfl, _⟩ | ⟨g, cap, cur, rfl, _, hgb, _⟩
  · simp [Value.ownBlock] at ej
  · obtain rfl : g = j := by simpa [Value.ownBlock] using ej
    rw [hgb] at hj; cases hj; rfl

/-- Counts. -/
theorem counts_any (w : World) (b bm n : Nat) (f : Int → Int) (h : HistAt w b bm n f) :
    Calls Try.prog 11 #[.pointer (some ⟨b, 0, none⟩)] w fun e w' => ∃ v, e = .returned v ∧ w'.ownsRow w.heap.size 32 2 v (countsOf n f).length (flat (countsOf n f)) ∧ (v = .slice none 0 0 ↔ countsOf n f = []) ∧ Below w.heap.size w w' := by
  obtain ⟨i0, hi, hz0, hz1, hz2⟩ := info_parts infoC
  have hgood := h.good
  have hn255 := hgood.n255
  have hA : HistAt (w.alloc (.cells #[.slice none 0 0] 29)) b bm n f := h.kept (Kept.alloc (fun _ => False) _ _) (fun h => h) (fun h => h)
  have hc0 := hA.c0
  have hown := hA.map
  have HA := Lib.hid hA
  have hBw : Below w.heap.size w (w.alloc (.cells #[.slice none 0 0] 29)) := (Below.refl _ w).alloc (Nat.le_refl _) _
  have hout := Boxed.new w 29 (.slice none 0 0)
  clear hA h
  refine (callsIn_wide (n := 8)).1 ?_
  have h1 : 1 ≤ 8 := by omega
  have hf31 : Fence.wide.fn 31 := trivial
  have hf32 : Fence.wide.fn 32 := trivial
  refine callsIn_of_wp_marks Try.func11 rfl trivial ?_ rfl
  simp only [Try.ntmps11, List.size_toArray, List.length_cons, List.length_nil, Nat.reduceAdd, Nat.reduceSub, Array.replicate_succ, Array.replicate_zero, List.push_toArray, List.append_toArray, List.nil_append, List.cons_append]
  gi_wp2_with (first
    | (gi_at_call 31; refine (callsIn_wide.2 (made_yes _ b bm n f HA.out)).mono ?_; rintro e w' ⟨rfl, rfl⟩)
    | (gi_at_call 32; refine (rising_in _ _ _).mono ?_; rintro e w' ⟨rfl, rfl⟩))
  have hbx0 := Boxed.new (w.alloc (.cells #[.slice none 0 0] 29)) 67 (.map (some bm))
  rw [World.size_alloc] at hbx0
  have hB0 : Below w.heap.size w ((w.alloc (.cells #[.slice none 0 0] 29)).alloc (.cells #[.map (some bm)] 67)) := hBw.alloc (by simp) _
  refine wpIn_rangeFunc_ownG rfl h1 (gf := 48) (lb := #[.pointer (some ⟨w.heap.size + 1, 0, none⟩)]) rfl trivial (enters_of Try.func48 (by kernel_rfl) rfl)
    (rising_stops (8 - 1) (by omega) (w.heap.size + 1) bm n f hgood _ hbx0 (hown.alloc _)) keepsE_t keepsE_b (Below.refl _ _) ?hps
    (fun pre W => (∃ v, Boxed W w.heap.size 29 v ∧ W.ownsRow w.heap.size 32 2 v pre.length (flat (toldF f pre)) ∧ (v = .slice none 0 0 ↔ pre = [])) ∧ Below w.heap.size w W)
    (fun _ _ _ => False)
    (OwnFrom.and (Own.from (holdsRow_own w.heap.size w.heap.size 29 32 2 (fun pre : List Int => pre.length) (fun pre => flat (toldF f pre)) (fun pre v => v = .slice none 0 0 ↔ pre = [])) _) (ownFrom_below (Nat.le_refl _) (by simp; omega)))
    (fun _ _ _ _ _ hs _ _ => hs)
    ⟨⟨_, hout.alloc _, World.ownsRow_nil _ _ _ _, by simp⟩, hB0⟩
    (fun x => { tmps := #[.pointer (some ⟨b, 0, none⟩), undef, .pointer (some ⟨w.heap.size, 0, none⟩), .int .i64 x, .int .i64 (f x), .pointer (some ⟨b, 0, none⟩), .bool true, .bool false, .pointer (some ⟨b, 0, none⟩), .pointer (some ⟨b, 0, none⟩), .pointer (some ⟨b, 0, none⟩), .map (some bm), .func (.func 48) #[] #[.pointer (some ⟨w.heap.size + 1, 0, none⟩)], .int .i64 x, .int .i64 (f x), undef, undef, undef, undef, undef, undef, undef, undef], defers := [] }) ?assign ?body ?done ?stop
  case hps => exact fun _ => rfl
  case assign =>
    intro l x W K hK
    gi_wp2
    exact hK
  case body =>
    rintro l pre x W ⟨⟨v, hv, hrow, hnil⟩, hB⟩ hlt
    have hc := hv.cell
    have hp := hgood.pos x
    have ht := hgood.top x
    gi_wp2_with (gi_at_builtin; refine wpListIn_append_own _ rfl _ _ 29 rfl w.heap.size 32 i0 (.agg #[.int .i64 0, .int .i64 0]) 2 16 Try.underlying29 hi hz0 hz1 hz2 rfl (by decide) _ _ _ rfl (hrow.alloc _) ⟨W.heap.size, 0, none⟩ 1 1 [.int .i64 x, .int .i64 (min (f x) 65535)] rfl rfl (cell_two_new _ _ _ _) (by simp [Value.oneCell']) (by unfold maxLen; omega) (by omega) (by have := hB.size; simp; omega) ?_; intro v' w1 hown' hgrow _; obtain ⟨g', cap', rfl⟩ := ownsRow_succ hown'; obtain ⟨hv1, hv2, hr2, hk2, hb2⟩ := hv.appended (by decide) hrow hB.size (Nat.le_refl _) hown' hgrow; have hc1 := hv1.cell; have hf1 := hv1.frozen)
    exact ⟨hk2.from _, keepsE_appended hv1 hrow hgrow, ⟨_, hv2, by rw [toldF_snoc, flat_snoc]; simpa using hr2, by simp⟩, hB.trans hb2⟩
  case done =>
    rintro D ys W hD rfl ⟨⟨v, hv, hrow, hnil⟩, hB⟩ hK
    have hex : ∃ a ln cp, v = .slice a ln cp := by
      rcases hrow.2 with ⟨h, _⟩ | ⟨g, cap, cur, h, _⟩ <;> exact ⟨_, _, _, h⟩
    obtain ⟨a, ln, cp, hvs⟩ := hex
    have hc := hv.cell
    have hf := hv.frozen
    rw [hvs] at hc
    have HV := Lib.hid hvs
    clear hvs
    gi_wp2
    rw [← HV.out]
    have hK' : (W.setCell ⟨w.heap.size, 0, none⟩ v).heap[D]? = some (.deferred (some [])) := (KeepsOthers.setCell W ⟨w.heap.size, 0, none⟩ v).same D _ hK rfl
    refine ⟨by simp, .inl ⟨_, _, rfl, run_takeDeferred hK', ?_⟩⟩
    have hv2 := hv.set v
    have hc5 := cell_kept hv2.cell (grownBy_putObj' _ D (.deferred none)) (fun r e => by cases e; exact ⟨_, hK', rfl⟩)
    have hr2 : (W.setCell ⟨w.heap.size, 0, none⟩ v).ownsRow w.heap.size 32 2 v (keysOf n f).length (flat (toldF f (keysOf n f))) := hrow.kept (grownBy_setCell' W w.heap.size v) (.inr (hv.not_row (by decide) hrow).symm)
    refine ⟨v, ?_, v, rfl, ?_, ?_, ?_⟩
    · rw [HV.out] at hc5 ⊢
      simp [results, Try.f11, go_sem, hc5]
    · have := ownsRow_putObj hr2 (.deferred none) hK' rfl
      rw [show (countsOf n f).length = (keysOf n f).length from by simp [countsOf]]
      exact this
    · rw [hnil]; simp [countsOf]
    · exact (hB.setCell (p := ⟨w.heap.size, 0, none⟩) (Nat.le_refl _) v).trans (belowK_b (w := w) (Nat.le_refl _) _ D _ _ (by simp at hD; omega) hK' rfl rfl)
  case stop =>
    rintro D c pre W _ _ h _
    exact h.elim

end Go.Proofs.Ytacbmpffpfaciaa
