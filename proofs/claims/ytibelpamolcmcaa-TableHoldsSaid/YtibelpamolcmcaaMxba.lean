/-
  GpK: Walks of layer 17: Layers.
  GpL: Walks of layer 17: Layers.
  TbH: Layer 18: the indexes that a group holds.
-/
import Derived.Test.YtibelpamolcmcaaMxay
import Derived.Test.YtibelpamolcmcaaMxau
import Derived.Test.YtibelpamolcmcaaMxaz
namespace Go.Proofs.Ytibelpamolcmcaa

section -- GpK
open Go.RowKit Go.Maps Go.Shelf Go.Sort

attribute [local go_sem] Oper.semAt_some
set_option linter.unusedVariables false
set_option linter.unusedSimpArgs false
set_option maxRecDepth 100000
set_option maxHeartbeats 2000000

theorem grising_in (m : Nat) (mb : Option Nat) (w : World) :
    CallsIn Fence.wide m Try.prog 41 #[.map mb] w fun e w' => e = .returned (.func (.func 55) #[] #[.pointer (some ⟨w.heap.size, 0, none⟩)]) ∧ w' = w.alloc (.cells #[.map mb] 75) := by
  refine callsIn_of_wp Try.func41 rfl trivial ?_ rfl
  simp only [Try.ntmps41, List.size_toArray, List.length_cons, List.length_nil, Nat.reduceAdd, Nat.reduceSub, Array.replicate_succ, Array.replicate_zero, List.push_toArray, List.append_toArray, List.nil_append, List.cons_append]
  gi_wp2
  go_ret
  exact ⟨rfl, rfl⟩
theorem cell_lt {w : World} {b : Nat} {v : Value} (h : w.cell? ⟨b, 0, none⟩ = some v) : b < w.heap.size := blt h
theorem grising_stops (m : Nat) (hm1 : 6 ≤ m) (Bm bm ob : Nat) (ks : List Int) (V : Int → Value) (hks : ks.Pairwise (· < ·)) (hlen : ks.length ≤ 100000) (hob1 : Bm ≠ ob) (hob2 : bm ≠ ob) (w : World) (hbox : Boxed w Bm 75 (.map (some bm))) (hown : MapI w bm (esV ks V)) (hout : w.cell? ⟨ob, 0, none⟩ = some (.slice none 0 0)) :
    SeqStopsK Fence.wide m Try.prog 55 #[.pointer (some ⟨Bm, 0, none⟩)] (encV V) (KB ob) (fun ss => ss = ks) (fun _ => True) ks.length w := fun l J Jx W hW hJ _ hY h0 =>
  grising1_in m hm1 l Bm bm ob ks V hks hlen hob1 hob2 J Jx hY W hJ ((hW.block Bm hbox.lt).trans hbox) (hown.below hW) ((hW.cell (p := ⟨ob, 0, none⟩) (cell_lt hout)).trans hout) h0

/-- Pairs, as cells. -/
def flatV (V : Int → Value) (ks : List Int) : List Value := ks.flatMap fun k => [.int .i64 k, V k]
theorem flatV_snoc (V : Int → Value) (ks : List Int) (k : Int) : flatV V (ks ++ [k]) = flatV V ks ++ [.int .i64 k, V k] := by simp [flatV]
theorem flatV_get (V : Int → Value) : ∀ (ks : List Int) (j : Nat) (k : Int), ks[j]? = some k → (flatV V ks)[j * 2]? = some (.int .i64 k) ∧ (flatV V ks)[j * 2 + 1]? = some (V k)
  | [], j, c, h => by simp at h
  | d :: r, 0, c, h => by
    obtain rfl : d = c := by simpa using h
    exact ⟨rfl, rfl⟩
  | d :: r, j + 1, c, h => by
    have := flatV_get V r j c (by simpa using h)
    have e : flatV V (d :: r) = .int .i64 d :: V d :: flatV V r := rfl
    rw [e, show (j + 1) * 2 = j * 2 + 1 + 1 from by omega]
    simpa using this
end -- GpK

section -- GpL
open Go.RowKit Go.Maps Go.Shelf Go.Sort

attribute [local go_sem] Oper.semAt_some
set_option linter.unusedVariables false
set_option linter.unusedSimpArgs false
set_option maxRecDepth 100000
set_option maxHeartbeats 2000000

section
variable {w : World} {base b bm : Nat} {H : HeadV} {vr : Value} {hs : List (Int × List B)} {V : Int → Value}
/-- The values may be slices for every number. -/
theorem GrpAt.total (h : GrpAt w base b bm H vr hs V) : ∃ V', GrpAt w base b bm H vr hs V' ∧ ∀ x, ∃ p n c, V' x = .slice p n c := by
  have e : ∀ k ∈ hs.map (·.1), (if k ∈ hs.map (·.1) then V k else Value.slice none 0 0) = V k := fun k hk => if_pos hk
  refine ⟨fun x => if x ∈ hs.map (·.1) then V x else .slice none 0 0, ⟨h.blk, h.ok, h.tab, ?_, h.rises, h.rng, h.wide, fun p hp => ?_, h.nb, h.nr, fun p hp => ?_, h.lo⟩, fun x => ?_⟩
  · have : esV (hs.map (·.1)) (fun x => if x ∈ hs.map (·.1) then V x else Value.slice none 0 0) = esV (hs.map (·.1)) V := List.map_congr_left (fun k hk => congrArg (Prod.mk k) (e k hk))
    rw [this]
    exact h.map
  · have := h.vals p hp
    rw [← e p.1 (List.mem_map.2 ⟨p, hp, rfl⟩)] at this
    exact this
  · have := h.nv p hp
    rw [← e p.1 (List.mem_map.2 ⟨p, hp, rfl⟩)] at this
    exact this
  · by_cases hx : x ∈ hs.map (·.1)
    · show ∃ p n c, (if x ∈ hs.map (·.1) then V x else Value.slice none 0 0) = Value.slice p n c
      rw [if_pos hx]
      obtain ⟨p, hp, rfl⟩ := List.mem_map.1 hx
      obtain ⟨q, c, e2⟩ := (h.vals p hp).shape
      exact ⟨_, _, _, e2⟩
    · show ∃ p n c, (if x ∈ hs.map (·.1) then V x else Value.slice none 0 0) = Value.slice p n c
      rw [if_neg hx]
      exact ⟨_, _, _, rfl⟩
theorem GrpAt.heldE (h : GrpAt w base b bm H vr hs V) : heldE H.n (atT H.rows H.rows.length) hs = 0 := by
  unfold Go.Proofs.Ytibelpamolcmcaa.heldE
  rw [if_pos, if_pos]
  · exact h.rises.nodup
  · rw [List.all_eq_true]
    intro p hp
    have := h.rng p hp
    have := h.wide p hp
    simp; omega

end
end -- GpL

section -- TbH
open Go.RowKit Go.Maps Go.Shelf Go.Sort

attribute [local go_sem] Oper.semAt_some
set_option linter.unusedVariables false
set_option linter.unusedSimpArgs false
set_option maxRecDepth 100000
set_option maxHeartbeats 4000000

theorem infoI18 : (Try.prog.info? 3).map (fun i => (i.zero, i.size, i.bytes)) = some (some (.int .i64 0), 1, 8) := by kernel_rfl
theorem ints_own {w : World} {base : Nat} {v : Value} {xs : List Int} (h : w.ownsRow base 3 1 v xs.length (xs.map (Value.int .i64))) : IntsAt w v xs := by
  rcases h.2 with ⟨rfl, h0⟩ | ⟨g, cap, cur, rfl, _, hg, hc, _, _, ht⟩
  · exact ⟨none, 0, by rw [h0], by omega, fun h => absurd h (by omega)⟩
  · refine ⟨_, cap, rfl, hc, fun _ => ⟨g, 0, rfl, fun i hi => ?_⟩⟩
    rw [cell_of hg, Nat.zero_add]
    have : (xs.map (Value.int .i64))[i]? = some (.int .i64 (xs.getD i 0)) := by simp [List.getD_eq_getElem?_getD, hi]
    rw [← this, ← ht, List.getElem?_take, if_pos (by omega), Array.getElem?_toList]
/-- A result of a slice's type that lies in a cell. -/
theorem results_cell_slice {P : Program} {fn : Func} {p : Tmp} {ty e : TypeId} (h : fn.results = #[.cell p ty]) (tmps : Array Value) (w : World) (g : Nat) (v : Value)
    (hp : tmps.getD p undef = .pointer (some ⟨g, 0, none⟩)) (hg : w.cell? ⟨g, 0, none⟩ = some v) (hu : P.underlying ty = some (.slice e)) :
    (results fn tmps).run P w = .ok v w := by
  have hp' : tmps[p]?.getD undef = .pointer (some ⟨g, 0, none⟩) := by simpa using hp
  simp [results, h, hp', asAddr, loadVar, run_underlying hu, isAgg, run_load P, hg]
section
variable {w : World} {base b bm : Nat} {H : HeadV} {vr : Value} {hs : List (Int × List B)} {V : Int → Value}
theorem gidx_any (h0 : GrpAt w base b bm H vr hs V) (hhs : hs.length ≤ 1000) :
    Calls Try.prog 22 #[.pointer (some ⟨b, 0, none⟩)] w fun e w' => ∃ v, e = .returned v ∧ IntsAt w' v (hs.map (·.1)) ∧ Below w.heap.size w w' := by
  obtain ⟨V, h, hV⟩ := h0.total
  have HVS := Lib.hid hV
  clear h0 hV
  obtain ⟨i0, hi, hz0, hz1, hz2⟩ := info_parts infoI18
  have HG := Lib.hid h
  have hlt := h.lt
  have hbm := h.map.lt
  have HA := Lib.hid (balI w (.cells #[.slice none 0 0] 38))
  have HGA := Lib.hid (h.below HA.out)
  have c0 := HGA.out.c0
  have hout := Boxed.new w 38 (.slice none 0 0)
  have HMD := Lib.hid (gmade_any HGA.out)
  obtain ⟨ks, hks⟩ : ∃ ks, hs.map (·.1) = ks := ⟨_, rfl⟩
  have HKS := Lib.hid hks
  have hkl : ks.length ≤ 1000 := by rw [← hks, List.length_map]; exact hhs
  have hkp : ks.Pairwise (· < ·) := by rw [← hks]; exact List.pairwise_map.2 h.rises
  have hmap := HGA.out.map
  rw [hks] at hmap ⊢
  clear h hks
  refine (callsIn_wide (n := 8)).1 ?_
  have h1 : 1 ≤ 8 := by omega
  have hf1 : Fence.wide.fn 36 := trivial
  have hf2 : Fence.wide.fn 41 := trivial
  refine callsIn_of_wp_marks Try.func22 rfl trivial ?_ rfl
  simp only [Try.ntmps22, List.size_toArray, List.length_cons, List.length_nil, Nat.reduceAdd, Nat.reduceSub, Array.replicate_succ, Array.replicate_zero, List.push_toArray, List.append_toArray, List.nil_append, List.cons_append]
  gi_wp2_with (first
    | (gi_at_call 36; refine (callsIn_wide.2 HMD.out).mono ?_; rintro e w' ⟨rfl, rfl⟩)
    | (gi_at_call 41; refine (grising_in _ _ _).mono ?_; rintro e w' ⟨rfl, rfl⟩))
  have hbx0 := Boxed.new (w.alloc (.cells #[.slice none 0 0] 38)) 75 (.map (some bm))
  rw [World.size_alloc] at hbx0
  have hB0 : Below w.heap.size w ((w.alloc (.cells #[.slice none 0 0] 38)).alloc (.cells #[.map (some bm)] 75)) := HA.out.alloc HA.out.size _
  have hob : w.heap.size < ((w.alloc (.cells #[.slice none 0 0] 38)).alloc (.cells #[.map (some bm)] 75)).heap.size := by simp; omega
  refine wpIn_rangeFunc_ownG rfl h1 (gf := 55) (lb := #[.pointer (some ⟨w.heap.size + 1, 0, none⟩)]) rfl trivial (enters_of Try.func55 (by kernel_rfl) rfl)
    (grising_stops (8 - 1) (by omega) (w.heap.size + 1) bm w.heap.size ks V hkp (by omega) (by omega) (by omega) _ hbx0 (hmap.below (balI _ _)) (hout.alloc _).cell) kb_t (kb_b hob) (Below.refl _ _) ?hps
    (fun pre W => (∃ v, Boxed W w.heap.size 38 v ∧ W.ownsRow w.heap.size 3 1 v pre.length (pre.map (Value.int .i64)) ∧ (v = .slice none 0 0 ↔ pre = [])) ∧ Below w.heap.size w W)
    (fun _ _ _ => False)
    (OwnFrom.and (Own.from (holdsRow_own w.heap.size w.heap.size 38 3 1 (fun pre : List Int => pre.length) (fun pre => pre.map (Value.int .i64)) (fun pre v => v = .slice none 0 0 ↔ pre = [])) _) (ownFrom_below (Nat.le_refl _) (by simp; omega)))
    (fun _ _ _ _ _ hs _ _ => hs)
    ⟨⟨_, hout.alloc _, World.ownsRow_nil _ _ _ _, by simp⟩, hB0⟩
    (fun x => { tmps := #[.pointer (some ⟨b, 0, none⟩), undef, .pointer (some ⟨w.heap.size, 0, none⟩), .int .i64 x, .pointer (some ⟨b, 0, none⟩), .bool true, .bool false, .pointer (some ⟨b, 0, none⟩), .pointer (some ⟨b, 0, none⟩), .pointer (some ⟨b, 0, none⟩), .map (some bm), .func (.func 55) #[] #[.pointer (some ⟨w.heap.size + 1, 0, none⟩)], .int .i64 x, V x, undef, undef, undef, undef, undef], defers := [] }) ?assign ?body ?done ?stop
  case hps => exact fun _ => rfl
  case assign =>
    intro l x W K hK
    obtain ⟨pv, nv, cv, hv⟩ := HVS.out x
    simp only [encV, hv] at hK ⊢
    gi_wp2
    exact hK
  case body =>
    rintro l pre x W ⟨⟨v, hv, hrow, hnil⟩, hB⟩ hlt
    have hc := hv.cell
    obtain ⟨pv, nv, cv, hVx⟩ := HVS.out x
    have HVX := Lib.hid hVx
    simp only [hVx]
    gi_wp2_with (gi_at_builtin; refine wpListIn_append_own_at _ rfl _ _ 38 rfl w.heap.size 3 i0 (.int .i64 0) 1 8 Try.underlying38 hi hz0 hz1 hz2 rfl (by decide) _ _ _ rfl (hrow.alloc _) ⟨W.heap.size, 0, none⟩ 1 1 [.int .i64 x] rfl rfl (by intro j u hj; match j, hj with | 0, hj => simp at hj; subst hj; exact (World.cell?_alloc_new W _ _ 0).trans rfl) (by simp [Value.oneCell']) (by unfold maxLen; omega) (by omega) (by have := hB.size; simp; omega) ?_; intro v' w1 hown' hgrow _ hplace; obtain ⟨g', cap', rfl⟩ := ownsRow_succ hown'; obtain ⟨hv1, hv2, hr2, hk2, hb2⟩ := hv.appended (by decide) hrow hB.size (Nat.le_refl _) hown' hgrow; have hc1 := hv1.cell; have hf1 := hv1.frozen)
    exact ⟨hk2.from _, kb_appended hv hv1 hgrow (fun g e => by
      rcases hplace with q | q
      · exact .inl (q.symm.trans e)
      · rw [q] at e
        cases e
        exact .inr (by simp)), ⟨_, hv2, by rw [List.map_append]; simpa using hr2, by simp⟩, hB.trans hb2⟩
  case done =>
    rintro D ys W hD rfl ⟨⟨v, hv, hrow, hnil⟩, hB⟩ hK
    have hc := hv.cell
    have hf := hv.frozen
    obtain ⟨pq, cq, hvs⟩ : ∃ p c, v = .slice p ys.length c := by
      rcases hrow.2 with ⟨e, hz⟩ | ⟨g, cap, cur, e, _⟩
      · exact ⟨none, 0, by rw [e, hz]⟩
      · exact ⟨_, cap, e⟩
    subst hvs
    have HROW := Lib.hid hrow
    have hbx := hv
    have HDL := Lib.hid (Array.getElem?_eq_some_iff.1 hK).1
    clear hrow hnil
    gi_wp2
    have hset := hbx.set (.slice pq ys.length cq)
    have hne : D ≠ w.heap.size := fun e => by rw [e] at hK; rw [show W.heap[w.heap.size]? = _ from hbx] at hK; cases hK
    have hk1 := Kept.set1 W w.heap.size 0 (.slice pq ys.length cq)
    have hK9 : (W.setCell ⟨w.heap.size, 0, none⟩ (.slice pq ys.length cq)).heap[D]? = some (.deferred (some [])) := (hk1.block D HDL.out hne).trans hK
    have hgb := grownBy_putObj' (W.setCell ⟨w.heap.size, 0, none⟩ (.slice pq ys.length cq)) D (.deferred none)
    have hk2 : Kept (fun k => k = D) (W.setCell ⟨w.heap.size, 0, none⟩ (.slice pq ys.length cq)) ((W.setCell ⟨w.heap.size, 0, none⟩ (.slice pq ys.length cq)).putObj D (.deferred none)) := ⟨hgb.os, hgb.tape, hgb.output, hgb.size, fun k hk hn => hgb.block k hk (fun e => hn (by cases e; rfl))⟩
    have hk3 : Kept (fun k => k = w.heap.size ∨ k = D) W ((W.setCell ⟨w.heap.size, 0, none⟩ (.slice pq ys.length cq)).putObj D (.deferred none)) := (hk1.mono (fun _ _ h => .inl h)).trans hk2 (fun _ _ h => .inr h)
    have hc9 : ((W.setCell ⟨w.heap.size, 0, none⟩ (.slice pq ys.length cq)).putObj D (.deferred none)).cell? ⟨w.heap.size, 0, none⟩ = some (.slice pq ys.length cq) := by
      have h5 := (hk2.block w.heap.size (Nat.lt_of_lt_of_le hbx.lt hk1.size) (fun e => hne e.symm)).trans hset
      exact Boxed.cell (t := 38) h5
    have hwB := hB.size
    refine ⟨by simp, .inl ⟨_, _, rfl, run_takeDeferred hK9, ?_⟩⟩
    refine ⟨_, results_cell_slice rfl _ _ w.heap.size _ rfl hc9 Try.underlying38, _, rfl, ints_own (ownsRow_keptS HROW.out hk3 (fun k e h => ?_)), hB.trans (hk3.toBelow hB.size (fun k e => ?_))⟩
    · have h6 := hv.not_row (by decide) HROW.out
      rcases h with h | h
      · subst h
        exact h6 e.symm
      · subst h
        rcases HROW.out.2 with ⟨e2, _⟩ | ⟨g, cap, cur, e2, _, hg, _⟩
        · rw [e2] at e
          cases e
        · rw [e2] at e
          have : g = k := by simpa [Value.ownBlock] using e
          subst this
          rw [hK] at hg
          cases hg
    · rcases e with e | e
      · omega
      · have : w.heap.size ≤ D := by have := hD; simp at this; omega
        omega
  case stop =>
    rintro D c pre W _ _ h _
    exact h.elim
end
end -- TbH

end Go.Proofs.Ytibelpamolcmcaa
