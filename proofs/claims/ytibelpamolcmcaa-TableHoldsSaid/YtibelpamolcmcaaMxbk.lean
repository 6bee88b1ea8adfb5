/-
  TcF: Layer 18: what a put may turn lies behind the table's own beginning.
  TcH: Layer 18: what was crowded out is not in the table; a deed's copy in a box.
  TcJ: Layer 18: rows of headers that grow; the law's within.
-/
import Derived.Test.YtibelpamolcmcaaMxbg
import Derived.Test.YtibelpamolcmcaaMxbf
import Derived.Test.YtibelpamolcmcaaMxbe
import Derived.Test.YtibelpamolcmcaaMxbj
import Derived.Test.YtibelpamolcmcaaMxbi
import Derived.Test.YtibelpamolcmcaaMxar
namespace Go.Proofs.Ytibelpamolcmcaa

section -- TcF
open Go.RowKit Go.Maps
set_option linter.unusedVariables false
set_option linter.unusedSimpArgs false
set_option maxHeartbeats 1000000
theorem litBt (w : World) (l : List B) (us : Array Value) (hus : us = (l.map bv).toArray) (g n : Nat) (hg : w.heap.size = g) (hn : l.length = n) : BytesAt (w.alloc (.cells us 5)) (.slice (some ⟨g, 0, none⟩) n n) l := by
  subst hg
  subst hn
  subst hus
  exact ⟨_, _, rfl, fun _ => ⟨_, _, rfl, fun i hi => by
    rw [Nat.zero_add]
    refine (World.cell?_alloc_new w _ _ i).trans ?_
    simp [List.getD_eq_getElem?_getD, hi]⟩⟩
section
variable {w w' : World} {base tb : Nat} {gn cn : Int} {v : Value} {gs : List GD}
theorem IntsAt.keptB {S : Nat → Prop} {w w' : World} {v : Value} {xs : List Int} (h : IntsAt w v xs) (hk : Kept S w w') (hS : ∀ b, v.ownBlock = some b → ¬ S b) : IntsAt w' v xs := by
  obtain ⟨p, cap, rfl, hcap, hh⟩ := h
  refine ⟨p, cap, rfl, hcap, fun hl => ?_⟩
  obtain ⟨g, off, rfl, hc⟩ := hh hl
  exact ⟨g, off, rfl, fun i hi => (hk.cell (p := ⟨g, off + i, none⟩) (blt (hc 0 hl)) (hS g rfl)).trans (hc i hi)⟩
theorem TabS.rowS (h : TabS w base tb gn cn v gs) {k : Nat} (hk : RowS tb v k) : base ≤ k ∧ k < w.heap.size := by
  rcases hk with rfl | hk
  · exact ⟨h.row.lo, h.row.lt⟩
  · exact h.row.ents.lt k hk
theorem TabS.putS (h : TabS w base tb gn cn v gs) {k : Nat} (hk : PutS tb v gs k) : base ≤ k ∧ k < w.heap.size := by
  rcases hk with hk | ⟨g, hg, rfl⟩
  · exact h.rowS hk
  · exact ⟨(h.grp g hg).lo.2.1, (h.grp g hg).map.lt⟩
theorem own_lt {e : TypeId} {n size : Nat} {v : Value} {us : List Value} (h : w.ownsRow base e size v n us) : ∀ k, v.ownBlock = some k → base ≤ k ∧ k < w.heap.size := World.ownsRow.lt h
theorem own_row {e : TypeId} {n : Nat} {v : Value} {us : List Value} (h : w.ownsRow base e 1 v n us) (hn : 0 < n) : ∃ g cap, v = .slice (some ⟨g, 0, none⟩) n cap ∧ n ≤ cap ∧ cap ≤ maxLen ∧ g < w.heap.size ∧ ∀ i, i < n → w.cell? ⟨g, i, none⟩ = us[i]? := by
  obtain ⟨h0, h1⟩ := h
  rcases h1 with ⟨rfl, hz⟩ | ⟨g, cap, cur, rfl, h2, h3, h4, h5, h6, h7⟩
  · omega
  · refine ⟨g, cap, rfl, h4, h5, (Array.getElem?_eq_some_iff.1 h3).1, fun i hi => ?_⟩
    rw [cell_of h3, ← h7, List.getElem?_take, if_pos (by omega), Array.getElem?_toList]
end
end -- TcF

section -- TcH
open Go.RowKit
set_option linter.unusedVariables false
set_option linter.unusedSimpArgs false
set_option maxHeartbeats 1000000

theorem PutR.gone {gs gs' outs : List GD} {h : HeadV} {l : List B} {gn cn : Int} {m : Nat} (H : PutR gs h l gn cn gs' outs m) (hn : (framesG gs).Nodup) {j : Nat} (hj : j < m) : (outs.getD j default).H.frame ≠ h.frame ∧ (outs.getD j default).H.frame ∉ framesG gs' := by
  have hle := H.le
  have hjo : j < (othersG h.frame gs).length := by omega
  have e1 : outs.getD j default = (othersG h.frame gs).getD j default := by
    rw [H.outs, List.getD_eq_getElem?_getD, List.getD_eq_getElem?_getD, List.getElem?_take, if_pos hj]
  have hmem : (othersG h.frame gs).getD j default ∈ othersG h.frame gs := getD_mem hjo
  rw [e1]
  refine ⟨?_, fun hin => ?_⟩
  · have := (List.mem_filter.1 hmem).2
    simpa using this
  · have hb := butN_frames h.frame gs
    have hl : j < (butN h.frame (framesG gs)).length := by
      rw [hb]
      unfold framesG
      rw [List.length_map]
      exact hjo
    have hc := (H.crowd hn j hl).1 (by
      have e2 : (butN h.frame (framesG gs)).getD j 0 = ((othersG h.frame gs).getD j default).H.frame := by
        rw [hb]
        unfold framesG
        rw [List.getD_eq_getElem?_getD, List.getElem?_map, List.getD_eq_getElem?_getD, List.getElem?_eq_getElem hjo]
        rfl
      rw [e2]
      exact hin)
    omega

structure BoxD (w : World) (g : Nat) (x : DeedV) (vr vb : Value) : Prop where
  c0 : w.cell? ⟨g, 0, none⟩ = some (.int .i64 x.what)
  c1 : w.cell? ⟨g, 1, none⟩ = some (.int .i64 x.at_)
  c2 : w.cell? ⟨g, 2, none⟩ = some (.int .i64 x.head.stream)
  c3 : w.cell? ⟨g, 3, none⟩ = some (.int .i64 x.head.frame)
  c4 : w.cell? ⟨g, 4, none⟩ = some (.int .i64 x.head.index)
  c5 : w.cell? ⟨g, 5, none⟩ = some (.int .i64 x.head.n)
  c6 : w.cell? ⟨g, 6, none⟩ = some (.int .i64 x.head.deadline)
  c7 : w.cell? ⟨g, 7, none⟩ = some vr
  c8 : w.cell? ⟨g, 8, none⟩ = some vb
theorem BoxD.lt {w : World} {g : Nat} {x : DeedV} {vr vb : Value} (h : BoxD w g x vr vb) : g < w.heap.size := blt h.c0
theorem BoxD.kept {S : Nat → Prop} {w w' : World} {g : Nat} {x : DeedV} {vr vb : Value} (h : BoxD w g x vr vb) (hk : Kept S w w') (hS : ¬ S g) : BoxD w' g x vr vb := by
  have hc : ∀ k u, w.cell? ⟨g, k, none⟩ = some u → w'.cell? ⟨g, k, none⟩ = some u := fun k u e => (hk.cell (p := ⟨g, k, none⟩) h.lt hS).trans e
  exact ⟨hc _ _ h.c0, hc _ _ h.c1, hc _ _ h.c2, hc _ _ h.c3, hc _ _ h.c4, hc _ _ h.c5, hc _ _ h.c6, hc _ _ h.c7, hc _ _ h.c8⟩
theorem BoxD.below {w w' : World} {g : Nat} {x : DeedV} {vr vb : Value} (h : BoxD w g x vr vb) (hb : Below w.heap.size w w') : BoxD w' g x vr vb := h.kept (Kept.below hb) (fun h => h)
/-- A deed's cells, as they are copied. -/
def deedC (x : DeedV) (vr vb : Value) : Array Value := #[.int .i64 x.what, .int .i64 x.at_, .int .i64 x.head.stream, .int .i64 x.head.frame, .int .i64 x.head.index, .int .i64 x.head.n, .int .i64 x.head.deadline, vr, vb]
theorem BoxD.made (w : World) (x : DeedV) (vr vb : Value) : BoxD (w.alloc (.cells (deedC x vr vb) 34)) w.heap.size x vr vb :=
  ⟨(World.cell?_alloc_new w _ _ 0).trans rfl, (World.cell?_alloc_new w _ _ 1).trans rfl, (World.cell?_alloc_new w _ _ 2).trans rfl, (World.cell?_alloc_new w _ _ 3).trans rfl, (World.cell?_alloc_new w _ _ 4).trans rfl, (World.cell?_alloc_new w _ _ 5).trans rfl, (World.cell?_alloc_new w _ _ 6).trans rfl, (World.cell?_alloc_new w _ _ 7).trans rfl, (World.cell?_alloc_new w _ _ 8).trans rfl⟩
theorem sizeD_mem : ∀ {L : List DeedV} {x : DeedV}, x ∈ L → x.body.length + x.head.rows.length ≤ sizeD L
  | [], _, h => by cases h
  | y :: l, x, h => by
    show _ ≤ ((y :: l).map fun x => x.body.length + x.head.rows.length).sum
    rw [List.map_cons, List.sum_cons]
    rcases List.mem_cons.1 h with rfl | h
    · omega
    · have h1 : x.body.length + x.head.rows.length ≤ (l.map fun x => x.body.length + x.head.rows.length).sum := sizeD_mem h
      omega
theorem DeedsAt.below {w w' : World} {v : Value} {L : List DeedV} (h : DeedsAt w v L) (hB : Below w.heap.size w w') : DeedsAt w' v L := by
  obtain ⟨p, c, e, hc, hh⟩ := h
  refine ⟨p, c, e, hc, fun h0 => ?_⟩
  obtain ⟨g, off, e2, hd⟩ := hh h0
  refine ⟨g, off, e2, fun i hi => ?_⟩
  obtain ⟨vr, vb, h1⟩ := hd i hi
  exact ⟨vr, vb, h1.below hB⟩
theorem balDrew (w : World) : Below w.heap.size w w.drew := (Kept.refl (fun _ => False) w).drew.toBelow (Nat.le_refl _) (fun _ h => h.elim)
theorem balDrewN (w : World) (q : Nat) : Below w.heap.size w (w.drewN q) := (Kept.refl (fun _ => False) w).drewN q |>.toBelow (Nat.le_refl _) (fun _ h => h.elim)
theorem BytesAt.olt {w : World} {v : Value} {l : List B} (h : BytesAt w v l) (h0 : 0 < l.length) : ∀ k, v.ownBlock = some k → k < w.heap.size := fun k e => by
  obtain ⟨p, c, rfl, hh⟩ := h
  obtain ⟨g, off, rfl, hc⟩ := hh h0
  cases e
  exact blt (hc 0 h0)
theorem TableAt.olt {w : World} {v : Value} {l : List (Int × Int)} (h : TableAt w v l) (h0 : 0 < l.length) : ∀ k, v.ownBlock = some k → k < w.heap.size := fun k e => by
  obtain ⟨p, c, rfl, _, hh⟩ := h
  obtain ⟨g, off, rfl, hc⟩ := hh h0
  cases e
  exact blt (hc 0 h0).1
theorem outs_shape {w : World} {base : Nat} {vo : Value} {os : List GD} (h : OutsAt w base vo os) : ∃ go po co, vo = .slice po os.length co ∧ (0 < os.length → po = some ⟨go, 0, none⟩) ∧ ∀ k, k < os.length → w.cell? ⟨go, k, none⟩ = some (.pointer (some ⟨(os.getD k default).blk, 0, none⟩)) := by
  by_cases h0 : 0 < os.length
  · obtain ⟨g, c, e, -, -, -, hc⟩ := own_row h h0
    refine ⟨g, some ⟨g, 0, none⟩, c, e, fun _ => rfl, fun k hk => ?_⟩
    rw [hc k hk, List.getElem?_map, List.getElem?_eq_getElem hk, List.getD_eq_getElem?_getD, List.getElem?_eq_getElem hk]
    rfl
  · have e0 : os.length = 0 := by omega
    rcases h.2 with ⟨e, _⟩ | ⟨g, cap, cur, e, _⟩
    · exact ⟨0, none, 0, by rw [e, e0], fun h => absurd h h0, fun k hk => by omega⟩
    · exact ⟨0, _, cap, e, fun h => absurd h h0, fun k hk => by omega⟩
end -- TcH

section -- TcJ
open Go.RowKit Go.Maps Go.Shelf Go.Sort
set_option linter.unusedVariables false
set_option linter.unusedSimpArgs false
set_option maxRecDepth 100000
set_option maxHeartbeats 4000000

theorem infoHd : (Try.prog.info? 31).map (fun i => (i.zero, i.size, i.bytes)) = some (some (.agg #[.int .i64 0, .int .i64 0, .int .i64 0, .int .i64 0, .int .i64 0, .slice none 0 0]), 6, 64) := by kernel_rfl
def encH (p : HeadV × Value) : List Value := [.int .i64 p.1.stream, .int .i64 p.1.frame, .int .i64 p.1.index, .int .i64 p.1.n, .int .i64 p.1.deadline, p.2]
def flatH (L : List (HeadV × Value)) : List Value := L.flatMap encH
def dH : HeadV × Value := (⟨0, 0, 0, 0, 0, []⟩, .slice none 0 0)
theorem encH_len (x : HeadV × Value) : (encH x).length = 6 := rfl
theorem flatH_cons (x : HeadV × Value) (L : List (HeadV × Value)) : flatH (x :: L) = encH x ++ flatH L := rfl
theorem flatH_app (L M : List (HeadV × Value)) : flatH (L ++ M) = flatH L ++ flatH M := List.flatMap_append
theorem flatH_get : ∀ {L : List (HeadV × Value)} {j : Nat}, j < L.length → ∀ c, c < 6 → (flatH L)[j * 6 + c]? = (encH (L.getD j dH))[c]?
  | x :: L, 0, _, c, hc => by
    rw [flatH_cons, Nat.zero_mul, Nat.zero_add, List.getElem?_append_left (by rw [encH_len]; exact hc)]
    rfl
  | x :: L, j + 1, hj, c, hc => by
    rw [flatH_cons, show (j + 1) * 6 + c = (encH x).length + (j * 6 + c) by rw [encH_len]; omega, List.getElem?_append_right (by omega), Nat.add_sub_cancel_left, flatH_get (by simpa using hj) c hc]
    simp [List.getD_eq_getElem?_getD]
/-- A row of headers. -/
def HeadsO (w : World) (base : Nat) (v : Value) (L : List (HeadV × Value)) : Prop := w.ownsRow base 31 6 v L.length (flatH L)
section
variable {w w' : World} {base : Nat} {v : Value} {L : List (HeadV × Value)}
theorem HeadsO.shape (h : HeadsO w base v L) : ∃ p c, v = .slice p L.length c ∧ L.length ≤ c := by
  rcases h.2 with ⟨rfl, h0⟩ | ⟨g, cap, cur, rfl, _, _, h2, _⟩
  · exact ⟨none, 0, by rw [h0], by omega⟩
  · exact ⟨_, cap, rfl, h2⟩
theorem HeadsO.cell (h : HeadsO w base v L) {j : Nat} (hj : j < L.length) : ∃ g c, v = .slice (some ⟨g, 0, none⟩) L.length c ∧ ∀ k, k < 6 → w.cell? ⟨g, j * 6 + k, none⟩ = (encH (L.getD j dH))[k]? := by
  rcases h.2 with ⟨rfl, h0⟩ | ⟨g, cap, cur, rfl, _, hg, _, _, _, ht⟩
  · omega
  · refine ⟨g, cap, rfl, fun c hc => ?_⟩
    rw [cell_of hg, ← flatH_get hj c hc, ← ht, List.getElem?_take, if_pos (by omega), Array.getElem?_toList]
theorem HeadsO.lt (h : HeadsO w base v L) : ∀ k, v.ownBlock = some k → base ≤ k ∧ k < w.heap.size := World.ownsRow.lt h
theorem HeadsO.keptS {S : Nat → Prop} (h : HeadsO w base v L) (hk : Kept S w w') (hS : ∀ k, v.ownBlock = some k → ¬ S k) : HeadsO w' base v L := ownsRow_keptS h hk hS
theorem HeadsO.below (h : HeadsO w base v L) (hB : Below w.heap.size w w') : HeadsO w' base v L := ownsRow_keptS h (Kept.below hB) (fun _ _ h => h)
theorem HeadsO.nil (w : World) (base : Nat) : HeadsO w base (.slice none 0 0) [] := World.ownsRow_nil _ _ _ _
theorem HeadsO.typed (h : HeadsO w base v L) : ∀ k, v.ownBlock = some k → ∃ C, w.heap[k]? = some (.cells C 31 (0, 0)) := fun k e => (own_cells h k e).2
end

/-- Those whose frames are open. -/
def keepH (gs : List GD) (L : List (HeadV × Value)) : List (HeadV × Value) := L.filter fun p => decide (p.1.frame ∈ framesG gs)
theorem keepH_take {gs : List GD} {L : List (HeadV × Value)} {k : Nat} (h : k < L.length) : keepH gs (L.take (k + 1)) = keepH gs (L.take k) ++ (if (L.getD k dH).1.frame ∈ framesG gs then [L.getD k dH] else []) := by
  unfold keepH
  rw [List.take_add_one, List.filter_append, List.getD_eq_getElem?_getD, List.getElem?_eq_getElem h]
  by_cases q : L[k].1.frame ∈ framesG gs <;> simp [q]
theorem keepH_le (gs : List GD) (L : List (HeadV × Value)) : (keepH gs L).length ≤ L.length := List.length_filter_le _ _

section
variable {w w' : World} {base tb : Nat} {gn cn : Int} {v : Value} {gs : List GD}
theorem within_any (ht : TabS w base tb gn cn v gs) (lb : Nat) (vl : Value) (L : List (HeadV × Value)) (hL : HeadsO w lb vl L) (hT : ∀ p ∈ L, ∃ pv n cv, p.2 = .slice pv n cv) (hl : L.length ≤ 100000) :
    Calls Try.prog 18 #[.pointer (some ⟨tb, 0, none⟩), vl] w fun e w' => ∃ vo, e = .returned vo ∧ HeadsO w' w.heap.size vo (keepH gs L) ∧ Below w.heap.size w w' := by
  have HT := Lib.hid ht
  have HS := Lib.hid hT
  have HL := Lib.hid hL
  obtain ⟨pl, cl, rfl, -⟩ := hL.shape
  obtain ⟨M, hM⟩ : ∃ M, L.length = M := ⟨_, rfl⟩
  have HM := Lib.hid hM
  rw [hM] at hl HL ⊢
  clear hM ht hT hL
  go_enter Try.func18, Try.ntmps18
  go_wp2
  go_loopw [5, 6] (fun v5 v6 wr => ∃ k : Nat, k ≤ M ∧ v6 = .int .i64 (k : Int) ∧ HeadsO wr w.heap.size v5 (keepH gs (L.take k)) ∧ Below w.heap.size w wr) (fun _ v6 _ => M - (intOf v6).toNat)
  case atStart => exact ⟨0, Nat.zero_le _, rfl, HeadsO.nil w _, Below.refl _ w⟩
  case round =>
    obtain ⟨wo, rfl⟩ : ∃ wo, wo = wr := ⟨_, rfl⟩
    obtain ⟨k, hk, rfl, ho, hB⟩ := hrel
    have HB := Lib.hid hB
    have HO := Lib.hid ho
    clear ho
    by_cases hlt : k < M
    · have hkl : k < L.length := by rw [HM.out]; exact hlt
      obtain ⟨g, c', ev, hc⟩ := (HL.out.below hB).cell hkl
      obtain ⟨rfl, -, rfl⟩ := Value.slice.inj ev
      have hpm : L.getD k dH ∈ L := by rw [List.getD_eq_getElem?_getD, List.getElem?_eq_getElem hkl]; exact List.getElem_mem _
      have hps := HS.out _ hpm
      have hkt := keepH_take (gs := gs) hkl
      obtain ⟨p, hp⟩ : ∃ p, L.getD k dH = p := ⟨_, rfl⟩
      rw [hp] at hc hps hkt
      obtain ⟨⟨pS, pF, pI, pN, pD, prow⟩, pvr⟩ := p
      obtain ⟨pv, pn, cv, hpv⟩ := hps
      dsimp only at hpv
      subst hpv
      dsimp only at hkt
      have HKT := Lib.hid hkt
      have HFD := Lib.hid (tfind_any (HT.out.below hB) pF)
      have d1 := hc 1 (by omega)
      simp only [encH, List.getElem?_cons_succ, List.getElem?_cons_zero] at d1
      have HC := Lib.hid hc
      clear hc hp hpm hkt ev hB
      go_wp2_with fail
      refine HFD.out.mono ?_
      rintro e w1 ⟨rfl, hB1⟩
      have HB1 := Lib.hid (below_more HB.out hB1 HB.out.size)
      have HO1 := Lib.hid (HO.out.below hB1)
      by_cases hq : pF ∈ framesG gs
      · have hfv : findV pF gs = .tuple #[.pointer (some ⟨(gs.getD (posG pF gs) default).blk, 0, none⟩), .bool true] := if_pos (posG_mem.2 hq)
        have e0 := (hB1.cell (p := ⟨g, k * 6, none⟩) (blt (HC.out 0 (by omega)))).trans (HC.out 0 (by omega))
        have e1 := (hB1.cell (p := ⟨g, k * 6 + 1, none⟩) (blt (HC.out 1 (by omega)))).trans (HC.out 1 (by omega))
        have e2 := (hB1.cell (p := ⟨g, k * 6 + 2, none⟩) (blt (HC.out 2 (by omega)))).trans (HC.out 2 (by omega))
        have e3 := (hB1.cell (p := ⟨g, k * 6 + 3, none⟩) (blt (HC.out 3 (by omega)))).trans (HC.out 3 (by omega))
        have e4 := (hB1.cell (p := ⟨g, k * 6 + 4, none⟩) (blt (HC.out 4 (by omega)))).trans (HC.out 4 (by omega))
        have e5 := (hB1.cell (p := ⟨g, k * 6 + 5, none⟩) (blt (HC.out 5 (by omega)))).trans (HC.out 5 (by omega))
        simp only [encH, List.getElem?_cons_succ, List.getElem?_cons_zero] at e0 e1 e2 e3 e4 e5
        rw [if_pos hq] at HKT
        rw [hfv]
        obtain ⟨K, hK⟩ : ∃ K, (keepH gs (L.take k)).length = K := ⟨_, rfl⟩
        have hKM : K ≤ 100000 := by
          have h1 := keepH_le gs (L.take k)
          rw [List.length_take] at h1
          omega
        have HKK := Lib.hid hK
        have HOR := Lib.hid (show w1.ownsRow w.heap.size 31 6 u5 K (flatH (keepH gs (L.take k))) from by have h1 := HO1.out; unfold HeadsO at h1; rw [hK] at h1; exact h1)
        have hsr : w.heap.size ≤ w1.heap.size := HB1.out.size
        clear hfv hB1 d1 hK
        go_wp2_with (at_builtin; refine app_el 49 31 6 64 _ Try.underlying49 infoHd rfl (by decide) rfl _ _ rfl w.heap.size K _ _ rfl HOR.out [.int .i64 pS, .int .i64 pF, .int .i64 pI, .int .i64 pN, .int .i64 pD, .slice pv pn cv] rfl (by simp [Value.oneCell']) rfl (by omega) hsr ?_; intro g1 c1 w8 oA kA sA gA)
        have hb8 : Below w.heap.size w w8 := HB1.out.trans (kA.toBelow HB1.out.size (fun j e => (HO1.out.lt j e).1))
        go_roundw
        case rel => exact ⟨k + 1, by omega, by go_num, by
          rw [HKT.out]
          unfold HeadsO
          rw [flatH_app, List.length_append, HKK.out]
          exact oA, hb8⟩
        case measure => simp [intOf]; omega
      · have hfv : findV pF gs = .tuple #[.pointer none, .bool false] := if_neg (fun h => hq (posG_mem.1 h))
        rw [if_neg hq, List.append_nil] at HKT
        rw [hfv]
        clear hfv hB1 d1
        go_wp2
        go_roundw
        case rel => exact ⟨k + 1, by omega, by go_num, by rw [HKT.out]; exact HO1.out, HB1.out⟩
        case measure => simp [intOf]; omega
    · obtain rfl : k = M := by omega
      have HTN := Lib.hid (show L.take k = L from List.take_of_length_le (by rw [HM.out]; exact Nat.le_refl _))
      go_wp2
      go_ret
      have h1 := HO.out
      rw [HTN.out] at h1
      exact ⟨_, rfl, h1, HB.out⟩
end
end -- TcJ

end Go.Proofs.Ytibelpamolcmcaa
