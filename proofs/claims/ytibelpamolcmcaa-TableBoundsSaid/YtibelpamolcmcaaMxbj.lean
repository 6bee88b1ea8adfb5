/-
  GpM: Walks of layer 17: Pick; the chapter's header.
  TcF: Layer 18: what a put may turn lies behind the table's own beginning.
  TcH: Layer 18: what was crowded out is not in the table; a deed's copy in a box.
-/
import Derived.Test.YtibelpamolcmcaaMxba
import Derived.Test.YtibelpamolcmcaaMxbf
import Derived.Test.YtibelpamolcmcaaMxbg
import Derived.Test.YtibelpamolcmcaaMxbe
import Derived.Test.YtibelpamolcmcaaMxbi
import Derived.Test.YtibelpamolcmcaaMxbh
namespace Go.Proofs.Ytibelpamolcmcaa

section -- GpM
open Go.RowKit Go.Maps
set_option linter.unusedVariables false
set_option linter.unusedSimpArgs false
set_option maxRecDepth 100000
set_option maxHeartbeats 2000000

theorem pick_any (w : World) (n : Int) (m : Nat) (h1 : 1 ≤ m) (h2 : m ≤ 1000000) :
    Calls Try.prog 8 #[.int .i64 n, .int .i64 (m : Int)] w fun e w' => (∃ p : Nat, e = .returned (.int .i64 (p : Int)) ∧ p < m) ∧ w = w' := by
  have e1 : ¬ ((m : Int) < 1) := by omega
  have e2 : ((m : Int) == 0) = false := by simp; omega
  have t1 : n.tmod m < m := Int.tmod_lt_of_pos _ (by omega)
  have t2 : -(m : Int) < n.tmod m := by
    have := Int.tmod_lt_of_pos (-n) (b := (m : Int)) (by omega)
    rw [Int.neg_tmod] at this
    omega
  have hw : wrap64 (n.tmod m + m) = n.tmod m + m := by unfold wrap64; omega
  by_cases hneg : n.tmod m < 0
  · have e3 : ¬ 0 ≤ n.tmod m := by omega
    go_enter Try.func8, Try.ntmps8
    go_wp2
    go_ret
    exact ⟨⟨(n.tmod m + m).toNat, by show Ending.returned (Value.int .i64 (n.tmod m + m)) = _; congr 2; omega, by omega⟩, rfl⟩
  · have e3 : 0 ≤ n.tmod m := by omega
    go_enter Try.func8, Try.ntmps8
    go_wp2
    go_ret
    exact ⟨⟨(n.tmod m).toNat, by show Ending.returned (Value.int .i64 (n.tmod m)) = _; congr 2; omega, by omega⟩, rfl⟩
end -- GpM

section -- TcF
open Go.RowKit Go.Maps
set_option linter.unusedVariables false
set_option linter.unusedSimpArgs false
set_option maxHeartbeats 1000000
theorem litBt (w : World) (l : List B) (us : Array Value) (hus : us = (l.map bv).toArray) (g n : Nat) (hg : w.heap.size = g) (hn : l.length = n) : BytesAt (w.alloc (.cells us 5)) (.slice (some ⟨g, 0, none⟩) n n) l := by
  subst hg
  subst hn
  subst hus
  exact ⟨_, _, rfl, fun _ => ⟨_, _, rfl, fun i hi => by
    rw [Nat.zero_add]
    refine (World.cell?_alloc_new w _ _ i).trans ?_
    simp [List.getD_eq_getElem?_getD, hi]⟩⟩
section
variable {w w' : World} {base tb : Nat} {gn cn : Int} {v : Value} {gs : List GD}
theorem IntsAt.keptB {S : Nat → Prop} {w w' : World} {v : Value} {xs : List Int} (h : IntsAt w v xs) (hk : Kept S w w') (hS : ∀ b, v.ownBlock = some b → ¬ S b) : IntsAt w' v xs := by
  obtain ⟨p, cap, rfl, hcap, hh⟩ := h
  refine ⟨p, cap, rfl, hcap, fun hl => ?_⟩
  obtain ⟨g, off, rfl, hc⟩ := hh hl
  exact ⟨g, off, rfl, fun i hi => (hk.cell (p := ⟨g, off + i, none⟩) (blt (hc 0 hl)) (hS g rfl)).trans (hc i hi)⟩
theorem TabS.rowS (h : TabS w base tb gn cn v gs) {k : Nat} (hk : RowS tb v k) : base ≤ k ∧ k < w.heap.size := by
  rcases hk with rfl | hk
  · exact ⟨h.row.lo, h.row.lt⟩
  · exact h.row.ents.lt k hk
theorem TabS.putS (h : TabS w base tb gn cn v gs) {k : Nat} (hk : PutS tb v gs k) : base ≤ k ∧ k < w.heap.size := by
  rcases hk with hk | ⟨g, hg, rfl⟩
  · exact h.rowS hk
  · exact ⟨(h.grp g hg).lo.2.1, (h.grp g hg).map.lt⟩
theorem own_lt {e : TypeId} {n size : Nat} {v : Value} {us : List Value} (h : w.ownsRow base e size v n us) : ∀ k, v.ownBlock = some k → base ≤ k ∧ k < w.heap.size := World.ownsRow.lt h
theorem own_row {e : TypeId} {n : Nat} {v : Value} {us : List Value} (h : w.ownsRow base e 1 v n us) (hn : 0 < n) : ∃ g cap, v = .slice (some ⟨g, 0, none⟩) n cap ∧ n ≤ cap ∧ cap ≤ maxLen ∧ g < w.heap.size ∧ ∀ i, i < n → w.cell? ⟨g, i, none⟩ = us[i]? := by
  obtain ⟨h0, h1⟩ := h
  rcases h1 with ⟨rfl, hz⟩ | ⟨g, cap, cur, rfl, h2, h3, h4, h5, h6, h7⟩
  · omega
  · refine ⟨g, cap, rfl, h4, h5, (Array.getElem?_eq_some_iff.1 h3).1, fun i hi => ?_⟩
    rw [cell_of h3, ← h7, List.getElem?_take, if_pos (by omega), Array.getElem?_toList]
end
end -- TcF

section -- TcH
open Go.RowKit
set_option linter.unusedVariables false
set_option linter.unusedSimpArgs false
set_option maxHeartbeats 1000000

theorem PutR.gone {gs gs' outs : List GD} {h : HeadV} {l : List B} {gn cn : Int} {m : Nat} (H : PutR gs h l gn cn gs' outs m) (hn : (framesG gs).Nodup) {j : Nat} (hj : j < m) : (outs.getD j default).H.frame ≠ h.frame ∧ (outs.getD j default).H.frame ∉ framesG gs' := by
  have hle := H.le
  have hjo : j < (othersG h.frame gs).length := by omega
  have e1 : outs.getD j default = (othersG h.frame gs).getD j default := by
    rw [H.outs, List.getD_eq_getElem?_getD, List.getD_eq_getElem?_getD, List.getElem?_take, if_pos hj]
  have hmem : (othersG h.frame gs).getD j default ∈ othersG h.frame gs := getD_mem hjo
  rw [e1]
  refine ⟨?_, fun hin => ?_⟩
  · have := (List.mem_filter.1 hmem).2
    simpa using this
  · have hb := butN_frames h.frame gs
    have hl : j < (butN h.frame (framesG gs)).length := by
      rw [hb]
      unfold framesG
      rw [List.length_map]
      exact hjo
    have hc := (H.crowd hn j hl).1 (by
      have e2 : (butN h.frame (framesG gs)).getD j 0 = ((othersG h.frame gs).getD j default).H.frame := by
        rw [hb]
        unfold framesG
        rw [List.getD_eq_getElem?_getD, List.getElem?_map, List.getD_eq_getElem?_getD, List.getElem?_eq_getElem hjo]
        rfl
      rw [e2]
      exact hin)
    omega

structure BoxD (w : World) (g : Nat) (x : DeedV) (vr vb : Value) : Prop where
  c0 : w.cell? ⟨g, 0, none⟩ = some (.int .i64 x.what)
  c1 : w.cell? ⟨g, 1, none⟩ = some (.int .i64 x.at_)
  c2 : w.cell? ⟨g, 2, none⟩ = some (.int .i64 x.head.stream)
  c3 : w.cell? ⟨g, 3, none⟩ = some (.int .i64 x.head.frame)
  c4 : w.cell? ⟨g, 4, none⟩ = some (.int .i64 x.head.index)
  c5 : w.cell? ⟨g, 5, none⟩ = some (.int .i64 x.head.n)
  c6 : w.cell? ⟨g, 6, none⟩ = some (.int .i64 x.head.deadline)
  c7 : w.cell? ⟨g, 7, none⟩ = some vr
  c8 : w.cell? ⟨g, 8, none⟩ = some vb
theorem BoxD.lt {w : World} {g : Nat} {x : DeedV} {vr vb : Value} (h : BoxD w g x vr vb) : g < w.heap.size := blt h.c0
theorem BoxD.kept {S : Nat → Prop} {w w' : World} {g : Nat} {x : DeedV} {vr vb : Value} (h : BoxD w g x vr vb) (hk : Kept S w w') (hS : ¬ S g) : BoxD w' g x vr vb := by
  have hc : ∀ k u, w.cell? ⟨g, k, none⟩ = some u → w'.cell? ⟨g, k, none⟩ = some u := fun k u e => (hk.cell (p := ⟨g, k, none⟩) h.lt hS).trans e
  exact ⟨hc _ _ h.c0, hc _ _ h.c1, hc _ _ h.c2, hc _ _ h.c3, hc _ _ h.c4, hc _ _ h.c5, hc _ _ h.c6, hc _ _ h.c7, hc _ _ h.c8⟩
theorem BoxD.below {w w' : World} {g : Nat} {x : DeedV} {vr vb : Value} (h : BoxD w g x vr vb) (hb : Below w.heap.size w w') : BoxD w' g x vr vb := h.kept (Kept.below hb) (fun h => h)
/-- A deed's cells, as they are copied. -/
def deedC (x : DeedV) (vr vb : Value) : Array Value := #[.int .i64 x.what, .int .i64 x.at_, .int .i64 x.head.stream, .int .i64 x.head.frame, .int .i64 x.head.index, .int .i64 x.head.n, .int .i64 x.head.deadline, vr, vb]
theorem BoxD.made (w : World) (x : DeedV) (vr vb : Value) : BoxD (w.alloc (.cells (deedC x vr vb) 34)) w.heap.size x vr vb :=
  ⟨(World.cell?_alloc_new w _ _ 0).trans rfl, (World.cell?_alloc_new w _ _ 1).trans rfl, (World.cell?_alloc_new w _ _ 2).trans rfl, (World.cell?_alloc_new w _ _ 3).trans rfl, (World.cell?_alloc_new w _ _ 4).trans rfl, (World.cell?_alloc_new w _ _ 5).trans rfl, (World.cell?_alloc_new w _ _ 6).trans rfl, (World.cell?_alloc_new w _ _ 7).trans rfl, (World.cell?_alloc_new w _ _ 8).trans rfl⟩
theorem sizeD_mem : ∀ {L : List DeedV} {x : DeedV}, x ∈ L → x.body.length + x.head.rows.length ≤ sizeD L
  | [], _, h => by cases h
  | y :: l, x, h => by
    show _ ≤ ((y :: l).map fun x => x.body.length + x.head.rows.length).sum
    rw [List.map_cons, List.sum_cons]
    rcases List.mem_cons.1 h with rfl | h
    · omega
    · have h1 : x.body.length + x.head.rows.length ≤ (l.map fun x => x.body.length + x.head.rows.length).sum := sizeD_mem h
      omega
theorem DeedsAt.below {w w' : World} {v : Value} {L : List DeedV} (h : DeedsAt w v L) (hB : Below w.heap.size w w') : DeedsAt w' v L := by
  obtain ⟨p, c, e, hc, hh⟩ := h
  refine ⟨p, c, e, hc, fun h0 => ?_⟩
  obtain ⟨g, off, e2, hd⟩ := hh h0
  refine ⟨g, off, e2, fun i hi => ?_⟩
  obtain ⟨vr, vb, h1⟩ := hd i hi
  exact ⟨vr, vb, h1.below hB⟩
end -- TcH

end Go.Proofs.Ytibelpamolcmcaa
