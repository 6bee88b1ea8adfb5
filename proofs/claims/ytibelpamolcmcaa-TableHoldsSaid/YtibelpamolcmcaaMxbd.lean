/-
  TbM: Layer 18: Put, up to where there is room.
  TbN: A loop over a function that writes as it goes: what holds between rounds, what holds where an element is handed on, what holds in the end.
-/
import Derived.Test.YtibelpamolcmcaaMxbc
import Derived.RangeFuncWrites
namespace Go.Proofs.Ytibelpamolcmcaa

section -- TbM
open Go.RowKit Go.Maps
set_option linter.unusedVariables false
set_option linter.unusedSimpArgs false
set_option maxRecDepth 100000
set_option maxHeartbeats 4000000

theorem infoPG : (Try.prog.info? 46).map (fun i => (i.zero, i.size, i.bytes)) = some (some (.pointer none), 1, 8) := by kernel_rfl
def ptrG (g : GD) : Value := .pointer (some ⟨g.blk, 0, none⟩)
/-- Groups that were told: a row of pointers. -/
def OutsAt (w : World) (base : Nat) (v : Value) (os : List GD) : Prop := w.ownsRow base 46 1 v os.length (os.map ptrG)
/-- What a put may turn. -/
def PutS (tb : Nat) (v : Value) (gs : List GD) (k : Nat) : Prop := RowS tb v k ∨ ∃ g ∈ gs, k = g.bm

section
variable {w w' : World} {base tb : Nat} {gn cn : Int} {v : Value} {gs : List GD}
/-- What turns in a row is of another kind than what a group is made of. -/
theorem rowS_cells (h : RowAt w base tb gn cn v (gs.map entG)) (k : Nat) (hk : RowS tb v k) : ∃ C t, w.heap[k]? = some (.cells C t (0, 0)) ∧ t ≠ 77 ∧ t ≠ 5 := by
  rcases hk with rfl | hk
  · exact ⟨_, _, h.blk, by decide, by decide⟩
  · rcases h.ents.2 with ⟨e, _⟩ | ⟨g, cap, cur, e, _, hg, _⟩
    · rw [e] at hk
      cases hk
    · rw [e] at hk
      obtain rfl : g = k := by simpa [Value.ownBlock] using hk
      exact ⟨_, _, hg, by decide, by decide⟩
theorem GDAt.row {g : GD} (hg : GDAt w base g) (h : RowAt w base tb gn cn v (gs.map entG)) (hk : Kept (RowS tb v) w w') (hf : ∀ k, g.vr.ownBlock = some k → ¬ RowS tb v k) : GDAt w' base g :=
  GrpAt.keptT hg hk (fun k _ hs => .inl (rowS_cells h k hs)) hf
theorem rowS_own {v' : Value} (e : v'.ownBlock = v.ownBlock) (k : Nat) : RowS tb v' k ↔ RowS tb v k := by unfold RowS; rw [e]
/-- The first group of another frame goes. -/
theorem idx_firstO (f : Int) (gs : List GD) (h : 0 < (othersG f gs).length) : idxO (fun x => decide (x.2.1 ≠ f)) (gs.map entG) = ((firstO f gs : Nat) : Int) := by
  unfold idxO
  rw [List.findIdx_map, List.length_map]
  have := firstO_lt h
  unfold firstO at this ⊢
  exact if_pos this
theorem cut_ents (f : Int) (gs : List GD) : (gs.map entG).take (firstO f gs) ++ (gs.map entG).drop (firstO f gs + 1) = (cutO f gs).map entG := by
  unfold cutO
  rw [List.map_append, List.map_take, List.map_drop]
theorem TabS.cut {v' : Value} (ht : TabS w base tb gn cn v gs) (f : Int) (hr : RowAt w' base tb gn cn v' ((gs.map entG).take (firstO f gs) ++ (gs.map entG).drop (firstO f gs + 1))) (hk : Kept (RowS tb v) w w') (e : v'.ownBlock = v.ownBlock) : TabS w' base tb gn cn v' (cutO f gs) := by
  rw [cut_ents] at hr
  exact ⟨hr, fun g hg => (ht.grp g ((cutO_sub f gs).subset hg)).row ht.row hk (ht.far g ((cutO_sub f gs).subset hg)), fun g hg k hk2 hs => ht.far g ((cutO_sub f gs).subset hg) k hk2 ((rowS_own e k).1 hs), List.Pairwise.sublist ((cutO_sub f gs).map _) ht.maps⟩
theorem OutsAt.keptS {S : Nat → Prop} {b : Nat} {vo : Value} {os : List GD} (h : OutsAt w b vo os) (hk : Kept S w w') (hS : ∀ k, vo.ownBlock = some k → ¬ S k) : OutsAt w' b vo os := ownsRow_keptS h hk hS

/-- What the loop of Put keeps: m groups are crowded out. -/
structure PutL (w1 : World) (wl base tb : Nat) (gn cn : Int) (v : Value) (gs : List GD) (f : Int) (n m : Nat) (vo vt : Value) (W : World) : Prop where
  tab : TabS W base tb gn cn vt (cutsO f gs m)
  own : vt.ownBlock = v.ownBlock
  le : m ≤ (othersG f gs).length
  min : ∀ m', m' < m → cn < (totalG (cutsO f gs m') : Int) + (n : Int)
  all : ∀ g ∈ gs, GDAt W base g
  outs : W.ownsRow wl 46 1 vo m (((othersG f gs).take m).map ptrG)
  kept : Kept (RowS tb v) w1 W
  lw : wl ≤ w1.heap.size
  tbl : tb < wl ∧ ∀ k, v.ownBlock = some k → k < wl
  vlo : ∀ g ∈ gs, ∀ k, g.vr.ownBlock = some k → k < wl
  far : ∀ g ∈ gs, ∀ k, g.vr.ownBlock = some k → ¬ RowS tb v k
theorem PutL.start {f : Int} {n : Nat} (h : TabS w base tb gn cn v gs) : PutL w w.heap.size base tb gn cn v gs f n 0 (.slice none 0 0) v w :=
  ⟨h, rfl, Nat.zero_le _, fun m' hm => absurd hm (by omega), h.grp, World.ownsRow_nil _ _ _ _, Kept.refl _ _, Nat.le_refl _, ⟨h.row.lt, fun k e => (h.row.ents.lt k e).2⟩, fun g hg k e => by obtain ⟨u, o, h1⟩ := GrpAt.vlt (h.grp g hg) k e; exact blt h1, h.far⟩
/-- A row of pointers turns. -/
theorem GDAt.ptr {S : Nat → Prop} {g : GD} {wl : Nat} (hg : GDAt w base g) (hk : Kept S w w') (hS : ∀ k, k < w.heap.size → S k → wl ≤ k ∧ ∃ C, w.heap[k]? = some (.cells C 46 (0, 0))) (hv : ∀ k, g.vr.ownBlock = some k → k < wl) : GDAt w' base g :=
  GrpAt.keptT hg hk (fun k hk2 hs => .inl (by obtain ⟨_, C, h1⟩ := hS k hk2 hs; exact ⟨C, _, h1, by decide, by decide⟩)) (fun k e hs => by
    obtain ⟨u, o, h1⟩ := GrpAt.vlt hg k e
    have h2 := (hS k (blt h1) hs).1
    have h3 := hv k e
    omega)
theorem TabS.ptr {S : Nat → Prop} {wl : Nat} (ht : TabS w base tb gn cn v gs) (hk : Kept S w w') (hS : ∀ k, k < w.heap.size → S k → wl ≤ k ∧ ∃ C, w.heap[k]? = some (.cells C 46 (0, 0))) (hv : ∀ g ∈ gs, ∀ k, g.vr.ownBlock = some k → k < wl) (h1 : tb < wl) (h2 : ∀ k, v.ownBlock = some k → k < wl) : TabS w' base tb gn cn v gs :=
  ⟨ht.row.keptS hk (fun hs => by have := (hS tb ht.row.lt hs).1; omega) (fun k e hs => by have := (hS k (ht.row.ents.lt k e).2 hs).1; have := h2 k e; omega), fun g hg => (ht.grp g hg).ptr hk hS (hv g hg), ht.far, ht.maps⟩
theorem own_cells {wl n size : Nat} {e : TypeId} {vo : Value} {us : List Value} (h : w.ownsRow wl e size vo n us) (k : Nat) (hk : vo.ownBlock = some k) : wl ≤ k ∧ ∃ C, w.heap[k]? = some (.cells C e (0, 0)) := by
  rcases h.2 with ⟨e2, _⟩ | ⟨g, cap, cur, e2, h2, hg, _⟩
  · rw [e2] at hk
    cases hk
  · rw [e2] at hk
    obtain rfl : g = k := by simpa [Value.ownBlock] using hk
    exact ⟨h2, _, hg⟩
end

section
variable {w w' : World} {base tb : Nat} {gn cn : Int} {v : Value} {gs : List GD}
theorem cell_notmap {w : World} {k o : Nat} {u : Value} {es : List (Int × Value)} (h : w.cell? ⟨k, o, none⟩ = some u) (hm : MapI w k es) : False := by
  obtain ⟨m, c, h1⟩ := hm.heap
  simp [World.cell?, h1] at h
/-- Another group's map turns. -/
theorem GDAt.mapK {g : GD} {bm : Nat} {es : List (Int × Value)} (hg : GDAt w base g) (hm : MapI w bm es) (hne : g.bm ≠ bm) (hk : Kept (fun k => k = bm) w w') : GDAt w' base g :=
  GrpAt.keptT hg hk (fun k _ e => .inr ⟨es, by rw [e]; exact hm, fun e2 => hne (by rw [← e2, e])⟩) (fun k e e2 => by
    obtain ⟨u, o, h1⟩ := GrpAt.vlt hg k e
    rw [e2] at h1
    exact cell_notmap h1 hm)
theorem bm_inj : ∀ {gs : List GD}, (gs.map (·.bm)).Nodup → ∀ {g g' : GD}, g ∈ gs → g' ∈ gs → g.bm = g'.bm → g = g'
  | x :: r, hn, g, g', h1, h2, e => by
    have hn2 := List.nodup_cons.1 (show (x.bm :: r.map (·.bm)).Nodup from hn)
    rcases List.mem_cons.1 h1 with e1 | h3
    · rcases List.mem_cons.1 h2 with e2 | h4
      · rw [e1, e2]
      · exact absurd (List.mem_map.2 ⟨g', h4, by rw [← e, e1]⟩) hn2.1
    · rcases List.mem_cons.1 h2 with e2 | h4
      · exact absurd (List.mem_map.2 ⟨g, h3, by rw [e, e2]⟩) hn2.1
      · exact bm_inj hn2.2 h3 h4 e
theorem nodup_at {l : List Nat} (h : l.Nodup) {i j : Nat} (hi : i < l.length) (hj : j < l.length) (e : l[i] = l[j]) : i = j := by
  have hp := List.pairwise_iff_getElem.1 h
  rcases Nat.lt_trichotomy i j with q | q | q
  · exact absurd e (hp i j hi hj q)
  · exact q
  · exact absurd e.symm (hp j i hj hi q)
theorem rowS_notmap (h : RowAt w base tb gn cn v (gs.map entG)) {bm : Nat} {es : List (Int × Value)} (hm : MapI w bm es) : ¬ RowS tb v bm := fun hs => by
  obtain ⟨C, t, h1, _⟩ := rowS_cells h bm hs
  obtain ⟨m, c, h2⟩ := hm.heap
  rw [h2] at h1
  cases h1
/-- A body more. -/
theorem TabS.took (ht : TabS w base tb gn cn v gs) {p : Nat} (hp : p < gs.length) {G : GD} (hG : gs.getD p default = G) {hs' : List (Int × List B)} {V' : Int → Value} (hg : GrpAt w' base G.blk G.bm G.H G.vr hs' V') (hk : Kept (fun k => k = G.bm) w w') : TabS w' base tb gn cn v (gs.set p { G with hs := hs', V := V' }) := by
  have hGp : gs[p] = G := by rw [← hG]; simp [List.getD_eq_getElem?_getD, hp]
  have hGm : G ∈ gs := hG ▸ getD_mem hp
  have hmap := (ht.grp G hGm).map
  have hm1 : (gs.set p { G with hs := hs', V := V' }).map entG = gs.map entG := by
    rw [List.map_set]
    have : entG { G with hs := hs', V := V' } = (gs.map entG)[p]'(by simpa using hp) := by simp [hGp, entG]
    rw [this, List.set_getElem_self]
  have hm2 : (gs.set p { G with hs := hs', V := V' }).map (·.bm) = gs.map (·.bm) := by
    rw [List.map_set]
    have : ({ G with hs := hs', V := V' } : GD).bm = (gs.map (·.bm))[p]'(by simpa using hp) := by simp [hGp]
    rw [this, List.set_getElem_self]
  have hrow := ht.row
  have hnr := rowS_notmap hrow hmap
  refine ⟨?_, ?_, ?_, by rw [hm2]; exact ht.maps⟩
  · rw [hm1]
    exact hrow.keptS hk (fun e => hnr (.inl e.symm)) (fun k e e2 => hnr (.inr (by rw [← e2]; exact e)))
  · intro g hg2
    obtain ⟨i, hi, e⟩ := List.mem_iff_getElem.1 hg2
    have hi2 : i < gs.length := by simpa using hi
    by_cases q : p = i
    · subst q
      rw [List.getElem_set_self] at e
      rw [← e]
      exact hg
    · rw [List.getElem_set_ne q] at e
      have hgm : g ∈ gs := e ▸ List.getElem_mem hi2
      refine (ht.grp g hgm).mapK hmap (fun e2 => q ?_) hk
      have h5 : (gs.map (·.bm))[p]'(by simpa using hp) = (gs.map (·.bm))[i]'(by simpa using hi2) := by simp [hGp, e, e2]
      exact nodup_at ht.maps (by simpa using hp) (by simpa using hi2) h5
  · intro g hg2
    rcases List.mem_or_eq_of_mem_set hg2 with hg3 | rfl
    · exact ht.far g hg3
    · exact ht.far G hGm
end
/-- Append of one element, in a region that draws its order. -/
theorem step_appO {ops : Array Oper} {o : Oper} {a : Act} {W : World} {K : Act → World → Prop} {Q : Exit → Act → World → Prop} {E : Prop} (t e : TypeId) (size bytes : Nat) (z : Value) (ht : Try.prog.underlying t = some (.slice e))
    (hinfo : (Try.prog.info? e).map (fun i => (i.zero, i.size, i.bytes)) = some (some z, size, bytes)) (hzs : z.cells.size = size) (hby : bytes ≤ 64)
    (hw : Region.wanted o (yielded ops a.tmps) = true) (s x : Operand) (ho : o.op = .call { callee := .builtin .append, args := #[s, x], argTypes := #[t, t] })
    (base n : Nat) (v : Value) (us : List Value) (hs : a.eval s = v) (hown : W.ownsRow base e size v n us) (g : Nat) (news : List Value) (hl : news.length = size) (h1 : ∀ u ∈ news, u.oneCell' = true)
    (hx : a.eval x = .slice (some ⟨g, 0, none⟩) 1 1) (hc : ∀ j u, news[j]? = some u → W.cell? ⟨g, j, none⟩ = some u) (hn : n < 1000000000000) (hbase : base ≤ W.heap.size)
    (h : ∀ g' c' w', w'.ownsRow base e size (.slice (some ⟨g', 0, none⟩) (n + 1) c') (n + 1) (us ++ news) → Kept (fun k => v.ownBlock = some k) W w' → (v.ownBlock = some g' ∨ W.heap.size ≤ g') →
      K (a.put o.dst (.slice (some ⟨g', 0, none⟩) (n + 1) c')) w') :
    if Region.wanted o (yielded ops a.tmps) = true then Oper.wp Try.prog o a W K Q else E := by
  rw [if_pos hw]
  obtain ⟨i, hi, hz, hsize, hbytes⟩ := info_parts hinfo
  rw [← hsize] at hown
  obtain ⟨g', c', w', hr, h3, h4, h5⟩ := run_app (P := Try.prog) (w := W) base t o.type e i z ht hi hz (by rw [hzs, hsize]) v n us hown g 0 1 1 news (by rw [hl, hsize]; omega) (by omega) (fun j y hj => by
      rw [add_off, Nat.zero_add]
      exact hc j y hj) h1 (by omega) (by rw [hbytes]; have := Nat.mul_le_mul_left (n + 1) hby; omega) hbase
  rw [hsize] at h3
  have h6 := h g' c' w' h3 h4 h5
  unfold Oper.wp execOp
  simp only [ho, resolve, invoke, builtin, Sem.run_bind, Sem.run_pure, Result.andThen_ok, List.map_toArray, List.map_cons, List.map_nil, hs, hx, hr]
  exact h6
theorem ahead_trans {a b c : Ent} (h1 : AheadO a b) (h2 : AheadO b c) : AheadO a c := by unfold AheadO at *; omega
theorem srt_mono {L : List Ent} (h : L.Pairwise AheadO) (x : Ent) : ∀ a b, a ≤ b → b < L.length → AheadO (L.getD b (0, 0, 0)) x → AheadO (L.getD a (0, 0, 0)) x := fun a b hab hb hx => by
  rcases Nat.lt_or_eq_of_le hab with q | q
  · have h1 := List.pairwise_iff_getElem.1 h a b (by omega) hb q
    rw [← getD_at (by omega), ← getD_at hb] at h1
    exact ahead_trans h1 hx
  · rw [q]
    exact hx
theorem GrpAt.weakenB {w : World} {base base' b bm : Nat} {H : HeadV} {vr : Value} {hs : List (Int × List B)} {V : Int → Value} (h : GrpAt w base' b bm H vr hs V) (hb : base ≤ base') : GrpAt w base b bm H vr hs V :=
  ⟨h.blk, h.ok, h.tab, h.map, h.rises, h.rng, h.wide, fun p hp => (h.vals p hp).weaken hb, h.nb, h.nr, h.nv, Nat.le_trans hb h.lo.1, Nat.le_trans hb h.lo.2.1, fun k e => Nat.le_trans hb (h.lo.2.2 k e)⟩
/-- A table into which a group was put. -/
theorem TabS.put {w w6 w7 w8 : World} {base tb : Nat} {gn cn : Int} {v v2 : Value} {C : List GD} {b bm : Nat} {vr : Value} {h : HeadV} {hs : List (Int × List B)} {V : Int → Value} {k : Nat} (ht : TabS w base tb gn cn v C) (hbase : base ≤ w.heap.size) (hB : Below w.heap.size w w6) (hr : RowAt w7 base tb gn cn v2 ((C.map entG).take k ++ (b, h.frame, h.deadline) :: (C.map entG).drop k)) (hk7 : Kept (RowS tb v) w6 w7) (hv2 : (∃ g, v.ownBlock = some g ∧ v2.ownBlock = some g) ∨ ∃ g, v2.ownBlock = some g ∧ w6.heap.size ≤ g)
    (hg6 : ∀ k, vr.ownBlock = some k → w.heap.size ≤ k ∧ k < w6.heap.size) (hbm : w.heap.size ≤ bm) (hm7 : ∃ es, MapI w7 bm es) (hg8 : GrpAt w8 w.heap.size b bm h vr hs V) (hk8 : Kept (fun k => k = bm) w7 w8) :
    TabS w8 base tb gn cn v2 (C.take k ++ ⟨b, bm, vr, h, hs, V⟩ :: C.drop k) := by
  obtain ⟨es, hm7⟩ := hm7
  have hmem : ∀ g, g ∈ C.take k ++ (⟨b, bm, vr, h, hs, V⟩ : GD) :: C.drop k → g = ⟨b, bm, vr, h, hs, V⟩ ∨ g ∈ C := fun g hg => by
    rcases List.mem_append.1 hg with h1 | h1
    · exact .inr (List.mem_of_mem_take h1)
    · rcases List.mem_cons.1 h1 with h2 | h2
      · exact .inl h2
      · exact .inr (List.mem_of_mem_drop h2)
  have hent : (C.take k ++ (⟨b, bm, vr, h, hs, V⟩ : GD) :: C.drop k).map entG = (C.map entG).take k ++ (b, h.frame, h.deadline) :: (C.map entG).drop k := by
    rw [List.map_append, List.map_cons, List.map_take, List.map_drop]
    rfl
  have hrow : RowAt w7 base tb gn cn v2 ((C.take k ++ (⟨b, bm, vr, h, hs, V⟩ : GD) :: C.drop k).map entG) := by rw [hent]; exact hr
  have hnr := rowS_notmap hrow hm7
  have hlt : ∀ g ∈ C, g.bm < w.heap.size := fun g hg => (ht.grp g hg).map.lt
  have ht6 := ht.below hB
  have hvlt : ∀ k, v.ownBlock = some k → k < w.heap.size := fun k e => (ht.row.ents.lt k e).2
  refine ⟨hrow.keptS hk8 (fun e => hnr (.inl e.symm)) (fun k e e2 => hnr (.inr (by rw [← e2]; exact e))), fun g hg => ?_, fun g hg k2 e hs2 => ?_, ?_⟩
  · rcases hmem g hg with rfl | hg
    · exact hg8.weakenB hbase
    · exact GDAt.mapK (w := w7) (GDAt.row (ht6.grp g hg) ht6.row hk7 (ht6.far g hg)) hm7 (by have := hlt g hg; omega) hk8
  · rcases hmem g hg with rfl | hg
    · have h1 := hg6 k2 e
      have h2 := ht.row.lt
      rcases hs2 with h3 | h3
      · omega
      · rcases hv2 with ⟨g, h4, h5⟩ | ⟨g, h4, h5⟩
        · have := hvlt g h4
          rw [h5] at h3
          cases h3
          omega
        · rw [h4] at h3
          cases h3
          omega
    · obtain ⟨u, o, h1⟩ := GrpAt.vlt (ht.grp g hg) k2 e
      have h1 := blt h1
      have h0 := hB.size
      rcases hs2 with h3 | h3
      · exact ht.far g hg k2 e (.inl h3)
      · rcases hv2 with ⟨g2, h4, h5⟩ | ⟨g2, h4, h5⟩
        · exact ht.far g hg k2 e (.inr (by rw [h4, ← h5]; exact h3))
        · rw [h4] at h3
          cases h3
          have h6 : k2 < w.heap.size := h1
          omega
  · rw [List.map_append, List.map_cons]
    have hp : (bm :: C.map (·.bm)).Nodup := List.nodup_cons.2 ⟨fun hm => by
      obtain ⟨g, h1, h2⟩ := List.mem_map.1 hm
      have := hlt g h1
      omega, ht.maps⟩
    have e : C.map (·.bm) = (C.take k).map (·.bm) ++ (C.drop k).map (·.bm) := by rw [← List.map_append, List.take_append_drop]
    rw [e] at hp
    exact List.perm_middle.symm.nodup hp
/-- Room for a new group. -/
structure PutN (w : World) (base tb : Nat) (gn cn : Int) (v : Value) (gs : List GD) (h : HeadV) (vh vb : Value) (l : List B) (m : Nat) (vo v1 : Value) (W : World) : Prop where
  tab : TabS W base tb gn cn v1 (cutsO h.frame gs m)
  le : m ≤ (othersG h.frame gs).length
  fits : (totalG (cutsO h.frame gs m) : Int) + (l.length : Int) ≤ cn
  least : ∀ m', m' < m → cn < (totalG (cutsO h.frame gs m') : Int) + (l.length : Int) ∨ (h.frame ∉ framesG gs ∧ gn ≤ ((cutsO h.frame gs m').length : Int))
  outs : W.ownsRow w.heap.size 46 1 vo m (((othersG h.frame gs).take m).map ptrG)
  all : ∀ g ∈ gs, GDAt W base g
  far : ∀ g ∈ gs, ∀ k, g.vr.ownBlock = some k → ¬ RowS tb v k
  kept : Kept (PutS tb v gs) w W
  own : v1.ownBlock = v.ownBlock
  box : HeadBox W w.heap.size h vh
  byt : BytesAt W vb l
  tabv : TableAt W vh h.rows
  new : h.frame ∉ framesG gs
  room : ((cutsO h.frame gs m).length : Int) + 1 ≤ gn
  tbl : tb < w.heap.size ∧ ∀ k, v.ownBlock = some k → k < w.heap.size
theorem field_ent (w : World) (a : Nat) (f d : Int) : (Instr.field 65 (.agg #[.pointer (some ⟨a, 0, none⟩), .int .i64 f, .int .i64 d]) 0).run Try.prog w = .ok (.pointer (some ⟨a, 0, none⟩)) w := by kernel_rfl
theorem BytesAt.kept0 {S : Nat → Prop} {w w' : World} {pb : Option Addr} {n c : Nat} {l : List B} (h : BytesAt w (.slice pb n c) l) (hk : Kept S w w') (hS : 0 < n → ∀ k, (Value.slice pb n c).ownBlock = some k → ¬ S k) : BytesAt w' (.slice pb n c) l := by
  obtain ⟨p, cap, e, hh⟩ := h
  obtain ⟨rfl, rfl, rfl⟩ := Value.slice.inj e
  refine ⟨_, _, rfl, fun hl => ?_⟩
  obtain ⟨g, off, rfl, hc⟩ := hh hl
  exact ⟨g, off, rfl, fun i hi => (hk.cell (p := ⟨g, off + i, none⟩) (blt (hc i hi)) (hS hl g rfl)).trans (hc i hi)⟩
theorem BytesAt.keptLt {w0 w w' : World} {v : Value} {l : List B} {S : Nat → Prop} (h : BytesAt w v l) (h0 : BytesAt w0 v l) (hk : Kept S w w') (hS : ∀ k, k < w0.heap.size → ¬ S k) : BytesAt w' v l := by
  obtain ⟨p, cap, rfl, hh⟩ := h
  refine ⟨p, cap, rfl, fun hl => ?_⟩
  obtain ⟨g, off, rfl, hc⟩ := hh hl
  obtain ⟨p2, cap2, e, hh2⟩ := h0
  obtain ⟨e1, -, -⟩ := Value.slice.inj e
  subst e1
  obtain ⟨g2, off2, e2, hc2⟩ := hh2 hl
  cases e2
  have hlt := blt (hc2 0 hl)
  exact ⟨g, off, rfl, fun i hi => (hk.cell (p := ⟨g, off + i, none⟩) (blt (hc i hi)) (hS g hlt)).trans (hc i hi)⟩
theorem TableAt.keptLt {w0 w w' : World} {v : Value} {t : List (Int × Int)} {S : Nat → Prop} (h : TableAt w v t) (h0 : TableAt w0 v t) (hk : Kept S w w') (hS : ∀ k, k < w0.heap.size → ¬ S k) : TableAt w' v t := by
  obtain ⟨p, cap, rfl, hcap, hh⟩ := h
  refine ⟨p, cap, rfl, hcap, fun hl => ?_⟩
  obtain ⟨g, off, rfl, hc⟩ := hh hl
  obtain ⟨p2, cap2, e, _, hh2⟩ := h0
  obtain ⟨e1, -, -⟩ := Value.slice.inj e
  subst e1
  obtain ⟨g2, off2, e2, hc2⟩ := hh2 hl
  cases e2
  have hlt := blt (hc2 0 hl).1
  exact ⟨g, off, rfl, fun i hi => ⟨(hk.cell (p := ⟨g, off + i * 2, none⟩) (blt (hc i hi).1) (hS g hlt)).trans (hc i hi).1, (hk.cell (p := ⟨g, off + i * 2 + 1, none⟩) (blt (hc i hi).2) (hS g hlt)).trans (hc i hi).2⟩⟩
theorem own_shapeO {W : World} {base size n : Nat} {e : TypeId} {v : Value} {us : List Value} (h : W.ownsRow base e size v n us) : ∃ p c, v = .slice p n c := by
  rcases h.2 with ⟨rfl, h0⟩ | ⟨g, cap, cur, rfl, _⟩
  · exact ⟨none, 0, by rw [h0]⟩
  · exact ⟨_, _, rfl⟩
def lenV : Value → Nat
  | .slice _ n _ => n
  | _ => 0
theorem mk_box {W W' : World} {f : Int} (h : W.alloc (.cells #[.int .i64 f] 3) = W') : W'.cell? ⟨W.heap.size, 0, none⟩ = some (.int .i64 f) := by subst h; exact box_cell W f
theorem mk_new {W W' : World} {x : Obj} (h : W' = W.alloc x) : W'.heap[W.heap.size]? = some x := by subst h; exact heap_alloc_new W x
theorem mk_newD {W W' : World} {x : Obj} (h : W' = (W.alloc x).drew) : W'.heap[W.heap.size]? = some x := by subst h; exact heap_alloc_new W x
theorem mk_belT {W W' : World} {x : Obj} (h : W' = W.alloc x) : Below W.heap.size W W' := by subst h; exact balT W x
theorem mk_belD {W W' : World} {x : Obj} (h : W' = (W.alloc x).drew) : Below W.heap.size W W' := by subst h; exact ⟨rfl, rfl, rfl, by show W.heap.size ≤ (W.alloc x).heap.size; simp, fun k hk => Below.heap_alloc W x k hk⟩
theorem zk {W W' : World} {b : Nat} {o : Obj} (h : W.heap[b]? = some o) (hB : Below W.heap.size W W') : W'.heap[b]? = some o := (hB.block b (Array.getElem?_eq_some_iff.1 h).1).trans h
theorem zk2 {S : Nat → Prop} {W W' : World} {b : Nat} {o : Obj} (h : W.heap[b]? = some o) (hk : Kept S W W') (hS : ¬ S b) : W'.heap[b]? = some o := (hk.block b (Array.getElem?_eq_some_iff.1 h).1 hS).trans h
theorem mk_set3 {W W' : World} {b : Nat} {x y z p q r : Value} {t : TypeId} (h : W.heap[b]? = some (.cells #[x, y, z] t (0, 0))) (e : W' = ((W.setCell ⟨b, 0, none⟩ p).setCell ⟨b, 1, none⟩ q).setCell ⟨b, 2, none⟩ r) : W'.heap[b]? = some (.cells #[p, q, r] t (0, 0)) := by subst e; exact heap_set (heap_set (heap_set h _) _) _
theorem mk_kept3 {S : Nat → Prop} {W W' : World} {b : Nat} {p q r : Value} (hs : S b) (e : W' = ((W.setCell ⟨b, 0, none⟩ p).setCell ⟨b, 1, none⟩ q).setCell ⟨b, 2, none⟩ r) : Kept S W W' := by
  subst e
  exact (((Kept.set1 W b 0 p).trans (Kept.set1 _ b 1 q) (fun _ _ h => h)).trans (Kept.set1 _ b 2 r) (fun _ _ h => h)).mono (fun k _ h => by rw [h]; exact hs)

section
variable {w w' : World} {base tb : Nat} {gn cn : Int} {v : Value} {gs : List GD}
theorem vrs_new {gs : List GD} {f : Int} {m k n : Nat} {g1 : GD} (h : ∀ k, g1.vr.ownBlock = some k → n ≤ k) : ∀ g ∈ (cutsO f gs m).take k ++ g1 :: (cutsO f gs m).drop k, (∃ g0 ∈ gs, g.vr = g0.vr) ∨ ∀ k, g.vr.ownBlock = some k → n ≤ k := fun g hg => by
  have h2 : g ∈ cutsO f gs m ∨ g = g1 := by
    rcases List.mem_append.1 hg with h1 | h1
    · exact .inl (List.mem_of_mem_take h1)
    · rcases List.mem_cons.1 h1 with h1 | h1
      · exact .inr h1
      · exact .inl (List.mem_of_mem_drop h1)
  rcases h2 with h1 | rfl
  · exact .inl ⟨g, (cutsO_sub f gs m).subset h1, rfl⟩
  · exact .inr h
theorem vrs_old {gs : List GD} {f : Int} {m p n : Nat} {y : GD} (hp : p < (cutsO f gs m).length) (e : y.vr = ((cutsO f gs m).getD p default).vr) : ∀ g ∈ (cutsO f gs m).set p y, (∃ g0 ∈ gs, g.vr = g0.vr) ∨ ∀ k, g.vr.ownBlock = some k → n ≤ k := fun g hg => by
  rcases List.mem_or_eq_of_mem_set hg with h1 | rfl
  · exact .inl ⟨g, (cutsO_sub f gs m).subset h1, rfl⟩
  · exact .inl ⟨_, (cutsO_sub f gs m).subset (getD_mem hp), e⟩
theorem put_full (ht : TabS w base tb gn cn v gs) (hp : TabP gn cn gs) (hb : base ≤ w.heap.size) (h : HeadV) (vh : Value) (hv : TableAt w vh h.rows) (pb : Option Addr) (n c : Nat) (l : List B) (hl : BytesAt w (.slice pb n c) l) (hn : n ≤ 140737488355328) (he : refE gs h n cn = 0) (hlb : 0 < n → ∀ k, (Value.slice pb n c).ownBlock = some k → ¬ PutS tb v gs k) (hvb : ∀ k, vh.ownBlock = some k → ¬ PutS tb v gs k) :
    Calls Try.prog 12 #[.pointer (some ⟨tb, 0, none⟩), headVal h vh, .slice pb n c] w fun e w' => ∃ vo v' gs' outs m, e = .returned (.tuple #[vo, .int .i64 0]) ∧ TabS w' base tb gn cn v' gs' ∧ PutR gs h l gn cn gs' outs m ∧ OutsAt w' w.heap.size vo outs ∧ (∀ g ∈ outs, GDAt w' base g) ∧ Kept (PutS tb v gs) w w' ∧ (∀ g ∈ gs', (∃ g0 ∈ gs, g.vr = g0.vr) ∨ ∀ k, g.vr.ownBlock = some k → w.heap.size ≤ k) := by
  have HT := Lib.hid ht
  have HL := Lib.hid hl
  have HE := Lib.hid he
  have HP := Lib.hid hp
  have HLB := Lib.hid hlb
  have HVB := Lib.hid hvb
  have HHB := Lib.hid (And.intro hb (show ∃ p c', (Value.slice pb n c) = .slice p l.length c' from by obtain ⟨p, c', e, _⟩ := hl; exact ⟨p, c', e⟩))
  clear hlb hvb
  obtain ⟨pv, cv, hvv⟩ := hv.shape
  subst hvv
  have HVT := Lib.hid hv
  have hrf := fun W (hB : Below w.heap.size w W) => refuses_any (ht.below hB) h (.slice pv h.rows.length cv) (hv.below hB) pb n c hn
  rw [he] at hrf
  obtain ⟨hS, hF, hI, hN, hD, rows⟩ := h
  dsimp only at hrf HVT HE
  have HRF := Lib.hid hrf
  have HTB := Lib.hid (fun W (hB : Below w.heap.size w W) => tbytes_any (ht.below hB))
  have HMD := Lib.hid (fun W (hB : Below w.heap.size w W) => made_any (ht.below hB).row)
  obtain ⟨M, hM⟩ : ∃ M, rows.length = M := ⟨_, rfl⟩
  rw [hM] at HRF HVT
  have hbd := totalG_le ht.grp
  have hlen := ht.row.len
  rw [List.length_map] at hlen
  have htot : totalG gs + n ≤ 150000000000000 := by
    have := Nat.mul_le_mul_right (255 * 524280) hlen
    omega
  have htw := ht.row.lt
  have how := fun k (e : v.ownBlock = some k) => (ht.row.ents.lt k e).2
  have HOW := Lib.hid how
  clear hrf ht hv hl he hp hbd how hlen
  obtain ⟨w0, hw0⟩ : ∃ w0, w.alloc (.cells #[.int .i64 hS, .int .i64 hF, .int .i64 hI, .int .i64 hN, .int .i64 hD, .slice pv M cv] 31) = w0 := ⟨_, rfl⟩
  have HBX0 := HeadBox.new w ⟨hS, hF, hI, hN, hD, rows⟩ (.slice pv M cv)
  have HA := balT w (.cells #[.int .i64 hS, .int .i64 hF, .int .i64 hI, .int .i64 hN, .int .i64 hD, .slice pv M cv] 31)
  dsimp only at HBX0
  rw [hw0] at HBX0 HA
  have HBX := Lib.hid HBX0
  have HA := Lib.hid HA
  clear HBX0
  have y0 := HBX.out.c0
  have y1 := HBX.out.c1
  have y2 := HBX.out.c2
  have y3 := HBX.out.c3
  have y4 := HBX.out.c4
  have y5 := HBX.out.c5
  dsimp only at y0 y1 y2 y3 y4
  go_enter Try.func12, Try.ntmps12
  go_wp2_with fail
  refine (HMD.out _ HA.out).mono ?_
  rintro e w1 ⟨rfl, rfl⟩
  go_wp2_with fail
  refine (HRF.out _ HA.out).mono ?_
  rintro e w2 ⟨rfl, hB2⟩
  have HB02 := Lib.hid hB2
  have HB2 := Lib.hid (below_more HA.out hB2 HA.out.size)
  clear y0 y1 y2 y3 y4 y5 hB2
  go_wp2_with fail
  refine (HTB.out _ HB2.out).mono ?_
  rintro e w3 ⟨rfl, hB3⟩
  have HB03 := Lib.hid (below_more HB02.out hB3 HB02.out.size)
  have HB3 := Lib.hid (below_more HB2.out hB3 HB2.out.size)
  clear hB3
  have HT3 := Lib.hid (HT.out.below HB3.out)
  have HBX3 := Lib.hid (HBX.out.below HB03.out)
  have HST := Lib.hid (PutL.start (f := hF) (n := n) HT3.out)
  have hsum : IntKind.i64.wrap ((totalG gs : Int) + (n : Int)) = (totalG gs : Int) + (n : Int) := by rw [IntKind.wrap_i64]; omega
  have hw13 : w.heap.size < w3.heap.size := HBX3.out.lt
  go_wp2_with fail
  go_loopw [6, 9, 10] (fun vo vf _ W => ∃ (m : Nat) (vt : Value), vf = .int .i64 ((totalG (cutsO hF gs m) : Int) + (n : Int)) ∧ PutL w3 w3.heap.size base tb gn cn v gs hF n m vo vt W) (fun vo _ _ _ => (othersG hF gs).length - lenV vo)
  case atStart => exact ⟨0, v, by first | rfl | (go_num; rfl) | go_num, HST.out⟩
  case round =>
    obtain ⟨wo, rfl⟩ : ∃ wo, wo = wr := ⟨_, rfl⟩
    obtain ⟨m, vt, rfl, hpl⟩ := hrel
    obtain ⟨po, co, rfl⟩ := own_shapeO hpl.outs
    have hmlen : m ≤ 1000 := by
      have h1 := hpl.le
      have h2 : (othersG hF gs).length ≤ gs.length := List.length_filter_le _ _
      have h3 := HT.out.row.len
      rw [List.length_map] at h3
      omega
    have HPL := Lib.hid hpl
    have HTo := Lib.hid hpl.tab
    have c3 := hpl.tab.row.c3
    have hle := total_sub (cutsO_sub hF gs m)
    have hws := hpl.kept.size
    obtain ⟨F, hFd⟩ : ∃ F : Nat, totalG (cutsO hF gs m) = F := ⟨_, rfl⟩
    have HFD := Lib.hid hFd
    rw [hFd] at hle ⊢
    clear hpl hFd
    by_cases hmore : cn < (F : Int) + (n : Int)
    · have hmo := more_others HP.out HE.out HPL.out.le (by rw [HFD.out]; exact hmore)
      dsimp only at hmo
      have HMO := Lib.hid hmo
      have h0 : 0 < (othersG hF (cutsO hF gs m)).length := by rw [cutsO_others HPL.out.le, List.length_drop]; omega
      have H0 := Lib.hid h0
      obtain ⟨xb, hxb⟩ : ∃ x, ((cutsO hF gs m).getD (firstO hF (cutsO hF gs m)) default) = x := ⟨_, rfl⟩
      have HXB := Lib.hid hxb
      have hgx : ((cutsO hF gs m).map entG).getD (firstO hF (cutsO hF gs m)) (0, 0, 0) = (xb.blk, xb.H.frame, xb.H.deadline) := by rw [getD_ent (firstO_lt h0), hxb]; rfl
      have HGX := Lib.hid hgx
      have hfl : firstO hF (cutsO hF gs m) < ((cutsO hF gs m).map entG).length := by rw [List.length_map]; exact firstO_lt h0
      have HIX := Lib.hid (idx_firstO hF (cutsO hF gs m) h0)
      have HNR := Lib.hid (show ∀ k, w.heap.size ≤ k → ¬ RowS tb vt k from fun k hk hs => by
        rcases hs with e | e
        · omega
        · have := HOW.out k (by rw [← HPL.out.own]; exact e)
          omega)
      have HNV := Lib.hid (show ∀ k, w.heap.size ≤ k → ¬ RowS tb v k from fun k hk hs => HNR.out k hk ((rowS_own HPL.out.own k).2 hs))
      have y1 := zk2 HBX3.out HPL.out.kept (HNV.out _ (Nat.le_refl _))
      have y1 := HeadBox.c1 y1
      dsimp only at y1
      have hws2 : w.heap.size < wo.heap.size := by omega
      have HRW := Lib.hid (fun W (hB : Below wo.heap.size wo W) => HTo.out.row.below hB)
      have HDB := Lib.hid (show Below wo.heap.size wo wo.drew from (Kept.refl (fun _ => False) wo).drew.toBelow (Nat.le_refl _) (fun _ h => h.elim))
      have HKB := Lib.hid (fun W (hB : Below wo.heap.size wo W) => show Kept (RowS tb vt) wo W from (Kept.below hB).mono (fun _ _ h => h.elim))
      obtain ⟨k1, hk1⟩ : ∃ x, firstO hF (cutsO hF gs m) = x := ⟨_, rfl⟩
      have HK1 := Lib.hid hk1
      rw [hk1] at HGX hfl HIX HXB
      obtain ⟨xk, hxk⟩ : ∃ x, xb.blk = x := ⟨_, rfl⟩
      obtain ⟨xf, hxf⟩ : ∃ x, xb.H.frame = x := ⟨_, rfl⟩
      obtain ⟨xd, hxd⟩ : ∃ x, xb.H.deadline = x := ⟨_, rfl⟩
      rw [hxk, hxf, hxd] at HGX
      have HXK := Lib.hid (And.intro hxk (And.intro hxf hxd))
      clear hmo h0 hgx hxb hk1 hxk hxf hxd
      go_wp2_with fail
      clear c3
      refine s_start 13 (fun W => Kept (RowS tb vt) wo W) (by as_aux_lemma => kernel_rfl) (by as_aux_lemma => kernel_rfl) (HKB.out _ HDB.out) ?_
      refine s_take 0 (by as_aux_lemma => kernel_rfl) (by as_aux_lemma => kernel_rfl) (by as_aux_lemma => kernel_rfl) (by as_aux_lemma => kernel_rfl) (HKB.out _ HDB.out) (fun oi ho => ?_)
      simp only [List.getElem?_toArray, List.getElem?_cons_succ, List.getElem?_cons_zero, Option.some.injEq] at ho
      subst ho
      refine ⟨?_, Or.inl ⟨by rfl, fun w _ => ?_⟩, ?_⟩
      rotate_left
      · (go_simp <;> with_reducible rfl)
      try simp only [Act.put, List.setIfInBounds_toArray, List.set_cons_zero, List.set_cons_succ]
      refine s_take 1 (by as_aux_lemma => kernel_rfl) (by as_aux_lemma => kernel_rfl) (by as_aux_lemma => kernel_rfl) (by as_aux_lemma => kernel_rfl) (HKB.out _ HDB.out) (fun oi ho => ?_)
      simp only [List.getElem?_toArray, List.getElem?_cons_succ, List.getElem?_cons_zero, Option.some.injEq] at ho
      subst ho
      refine ⟨?_, Or.inl ⟨by rfl, fun w _ => ?_⟩, ?_⟩
      rotate_left
      · (go_simp <;> with_reducible rfl)
      try simp only [Act.put, List.setIfInBounds_toArray, List.set_cons_zero, List.set_cons_succ]
      refine s_take 2 (by as_aux_lemma => kernel_rfl) (by as_aux_lemma => kernel_rfl) (by as_aux_lemma => kernel_rfl) (by as_aux_lemma => kernel_rfl) (HKB.out _ HDB.out) (fun oi ho => ?_)
      simp only [List.getElem?_toArray, List.getElem?_cons_succ, List.getElem?_cons_zero, Option.some.injEq] at ho
      subst ho
      refine ⟨?_, Or.inl ⟨by rfl, fun w _ => ?_⟩, ?_⟩
      rotate_left
      · (go_simp <;> with_reducible rfl)
      try simp only [Act.put, List.setIfInBounds_toArray, List.set_cons_zero, List.set_cons_succ]
      refine s_take 3 (by as_aux_lemma => kernel_rfl) (by as_aux_lemma => kernel_rfl) (by as_aux_lemma => kernel_rfl) (by as_aux_lemma => kernel_rfl) (HKB.out _ HDB.out) (fun oi ho => ?_)
      simp only [List.getElem?_toArray, List.getElem?_cons_succ, List.getElem?_cons_zero, Option.some.injEq] at ho
      subst ho
      refine ⟨?_, Or.inl ⟨by rfl, fun w _ => ?_⟩, ?_⟩
      rotate_left
      · (go_simp <;> with_reducible rfl)
      try simp only [Act.put, List.setIfInBounds_toArray, List.set_cons_zero, List.set_cons_succ]
      refine s_take 4 (by as_aux_lemma => kernel_rfl) (by as_aux_lemma => kernel_rfl) (by as_aux_lemma => kernel_rfl) (by as_aux_lemma => kernel_rfl) (HKB.out _ HDB.out) (fun oi ho => ?_)
      simp only [List.getElem?_toArray, List.getElem?_cons_succ, List.getElem?_cons_zero, Option.some.injEq] at ho
      subst ho
      refine ⟨?_, Or.inl ⟨by rfl, fun w _ => ?_⟩, ?_⟩
      rotate_left
      · (go_simp <;> with_reducible rfl)
      try simp only [Act.put, List.setIfInBounds_toArray, List.set_cons_zero, List.set_cons_succ]
      refine s_take 5 (by as_aux_lemma => kernel_rfl) (by as_aux_lemma => kernel_rfl) (by as_aux_lemma => kernel_rfl) (by as_aux_lemma => kernel_rfl) (HKB.out _ HDB.out) (fun oi ho => ?_)
      simp only [List.getElem?_toArray, List.getElem?_cons_succ, List.getElem?_cons_zero, Option.some.injEq] at ho
      subst ho
      refine ⟨?_, Or.inl ⟨by rfl, fun w _ => ?_⟩, ?_⟩
      rotate_left
      · (go_simp <;> with_reducible rfl)
      try simp only [Act.put, List.setIfInBounds_toArray, List.set_cons_zero, List.set_cons_succ]
      refine s_take 6 (by as_aux_lemma => kernel_rfl) (by as_aux_lemma => kernel_rfl) (by as_aux_lemma => kernel_rfl) (by as_aux_lemma => kernel_rfl) (HKB.out _ HDB.out) (fun oi ho => ?_)
      simp only [List.getElem?_toArray, List.getElem?_cons_succ, List.getElem?_cons_zero, Option.some.injEq] at ho
      subst ho
      refine ⟨?_, Or.inl ⟨by rfl, fun w _ => ?_⟩, ?_⟩
      rotate_left
      · (go_simp <;> with_reducible rfl)
      try simp only [Act.put, List.setIfInBounds_toArray, List.set_cons_zero, List.set_cons_succ]
      refine s_take 7 (by as_aux_lemma => kernel_rfl) (by as_aux_lemma => kernel_rfl) (by as_aux_lemma => kernel_rfl) (by as_aux_lemma => kernel_rfl) (HKB.out _ HDB.out) (fun oi ho => ?_)
      simp only [List.getElem?_toArray, List.getElem?_cons_succ, List.getElem?_cons_zero, Option.some.injEq] at ho
      subst ho
      refine ⟨.int .i64 hF, Or.inl ⟨by rfl, fun w' hS' => ?_⟩, ?_⟩
      · have z := (hS'.cell (p := ⟨w.heap.size, 1, none⟩) (blt y1) (HNR.out _ (Nat.le_refl _))).trans y1
        clear y1
        (go_simp <;> with_reducible rfl)
      try simp only [Act.put, List.setIfInBounds_toArray, List.set_cons_zero, List.set_cons_succ]
      refine s_all (rs := [8, 11]) (by as_aux_lemma => kernel_rfl) (by simp) ?_
      refine s_step 8 (by as_aux_lemma => kernel_rfl) (fun o ho K hK => ?_) ?_
      · simp only [List.getElem?_toArray, List.getElem?_cons_succ, List.getElem?_cons_zero, Option.some.injEq] at ho
        subst ho
        go_simp
        refine (but_any _ hF).mono ?_
        rintro e w8 ⟨rfl, e8⟩
        have HB8 := Lib.hid (show Below wo.heap.size wo w8 from by rw [← e8]; first | exact HB11.out.alloc HB11.out.size _ | exact HDB.out.alloc HDB.out.size _)
        have HX8 := Lib.hid (mk_box e8)
        try have HZ8 := Lib.hid (zk HZ11.out (show Below w11.heap.size w11 w8 from by rw [← e8]; exact (Below.refl _ _).alloc (Nat.le_refl _) _))
        clear e8
        go_wp2_with fail
        refine hK.out _ _ (HKB.out _ HB8.out) ?_
        clear hK K
        try simp only [Act.put, List.setIfInBounds_toArray, List.set_cons_zero, List.set_cons_succ]
        refine s_all (rs := [9, 11]) (by as_aux_lemma => kernel_rfl) (by simp) ?_
        refine s_step 9 (by as_aux_lemma => kernel_rfl) (fun o ho K hK => ?_) ?_
        · simp only [List.getElem?_toArray, List.getElem?_cons_succ, List.getElem?_cons_zero, Option.some.injEq] at ho
          subst ho
          go_simp
          refine (find_any (HRW.out _ (by first | exact HB11.out | exact HB8.out)) (fun x => decide (x.2.1 ≠ hF)) _ _ eg_but (but1_tells _ _ hF (by first | exact HX8.out | exact (HC11.out.cell (blt HX8.out)).trans HX8.out))).mono ?_
          rintro e w9 ⟨he9, hB9⟩
          rw [HIX.out] at he9
          subst he9
          have HB9 := Lib.hid (show Below wo.heap.size wo w9 from by first | exact below_more HB11.out hB9 HB11.out.size | exact below_more HB8.out hB9 HB8.out.size)
          first | have HZ9 := Lib.hid (zk HZ11.out hB9) | have HZ9 := Lib.hid (zk HZ8.out hB9) | skip
          clear hB9
          go_wp2_with fail
          refine hK.out _ _ (HKB.out _ HB9.out) ?_
          clear hK K
          try simp only [Act.put, List.setIfInBounds_toArray, List.set_cons_zero, List.set_cons_succ]
          refine s_all (rs := [10, 11]) (by as_aux_lemma => kernel_rfl) (by simp) ?_
          refine s_step 10 (by as_aux_lemma => kernel_rfl) (fun o ho K hK => ?_) ?_
          · simp only [List.getElem?_toArray, List.getElem?_cons_succ, List.getElem?_cons_zero, Option.some.injEq] at ho
            subst ho
            go_simp
            refine (remove_any (HRW.out _ (by first | exact HB11.out | exact HB9.out)) k1 hfl).mono ?_
            rintro e w10 ⟨v10, he10, hr10, hk10, ho10⟩
            rw [HGX.out] at he10
            subst he10
            have HR10 := Lib.hid hr10
            have HO10 := Lib.hid ho10
            have HK10 := Lib.hid (show Kept (RowS tb vt) wo w10 from by first | exact (HKB.out _ HB11.out).trans hk10 (fun _ _ h => h) | exact (HKB.out _ HB9.out).trans hk10 (fun _ _ h => h))
            first | (have z10 := zk2 HZ11.out hk10 (HNR.out _ (by have := HE11.out; omega))) | (have z10 := zk2 HZ9.out hk10 (HNR.out _ (by have := HE11.out; omega))) | skip
            try (have q0 := cell_of z10 0; have q1 := cell_of z10 1; have q2 := cell_of z10 2; have q3 := fz_of z10 0; have q4 := fz_of z10 1; have q5 := fz_of z10 2)
            clear hr10 hk10 ho10
            go_wp2_with fail
            refine hK.out _ _ HK10.out ?_
            clear hK K
            try simp only [Act.put, List.setIfInBounds_toArray, List.set_cons_zero, List.set_cons_succ]
            refine s_all (rs := [11]) (by as_aux_lemma => kernel_rfl) (by simp) ?_
            refine s_step 11 (by as_aux_lemma => kernel_rfl) (fun o ho K hK => ?_) AllReadyH.nil
            simp only [List.getElem?_toArray, List.getElem?_cons_succ, List.getElem?_cons_zero, Option.some.injEq] at ho
            subst ho
            go_simp
            refine K_name ?_
            intro w11 e11
            first
              | (have HE11 := Lib.hid HK10.out.size; have z11 := mk_new e11; have HQ11 := Lib.hid (show Kept (fun k => wo.heap.size ≤ k) w10 w11 from (Kept.below (mk_belT e11)).mono (fun _ _ h => h.elim)); have HK11 := Lib.hid (show Kept (RowS tb vt) wo w11 from HK10.out.trans (Kept.below (mk_belT e11)) (fun _ _ h => h.elim)); have q0 := cell_of z11 0; have q1 := cell_of z11 1; have q2 := cell_of z11 2; have q3 := fz_of z11 0; have q4 := fz_of z11 1; have q5 := fz_of z11 2)
              | (have HE11 := Lib.hid HB9.out.size; have HZ11 := Lib.hid (mk_new e11); have HB11 := Lib.hid (show Below wo.heap.size wo w11 from below_more HB9.out (mk_belT e11) HB9.out.size))
              | (have HE11 := Lib.hid HB8.out.size; have HZ11 := Lib.hid (mk_new e11); have HC11 := Lib.hid (mk_belT e11); have HB11 := Lib.hid (show Below wo.heap.size wo w11 from below_more HB8.out (mk_belT e11) HB8.out.size))
              | (have HE11 := Lib.hid (Nat.le_refl wo.heap.size); have HZ11 := Lib.hid (mk_newD e11); have HB11 := Lib.hid (mk_belD e11))
              | (have HE11 := Lib.hid (Nat.le_refl wo.heap.size); have HZ11 := Lib.hid (mk_new e11); have HB11 := Lib.hid (show Below wo.heap.size wo w11 from below_more HDB.out (mk_belT e11) HDB.out.size))
            clear e11
            refine hK.out _ _ (by first | exact HK11.out | exact HKB.out _ HB11.out) ?_
            clear hK K
            try simp only [Act.put, List.setIfInBounds_toArray, List.set_cons_zero, List.set_cons_succ]
            refine s_all (rs := [12]) (by as_aux_lemma => kernel_rfl) (by simp) ?_
            refine s_step 12 (by as_aux_lemma => kernel_rfl) (fun o ho K hK => ?_) AllReadyH.nil
            simp only [List.getElem?_toArray, List.getElem?_cons_succ, List.getElem?_cons_zero, Option.some.injEq] at ho
            subst ho
            go_simp
            refine K_name ?_
            intro w12 e12
            first
              | (have HZ12 := Lib.hid (mk_set3 z11 e12); have HQ12 := Lib.hid (show Kept (fun k => wo.heap.size ≤ k) w10 w12 from HQ11.out.trans (mk_kept3 (S := fun k => wo.heap.size ≤ k) HE11.out e12) (fun _ _ h => h)))
              | (have HZ12 := Lib.hid (mk_set3 z10 e12); have HQ12 := Lib.hid (show Kept (fun k => wo.heap.size ≤ k) w10 w12 from mk_kept3 (S := fun k => wo.heap.size ≤ k) HE11.out e12))
            have HK12 := Lib.hid (show Kept (RowS tb vt) wo w12 from HK10.out.trans HQ12.out (fun i hi h => absurd h (by omega)))
            clear e12 q0 q1 q2 q3 q4 q5
            refine hK.out _ _ HK12.out ?_
            clear hK K
            try simp only [Act.put, List.setIfInBounds_toArray, List.set_cons_zero, List.set_cons_succ]
            refine s_done (by as_aux_lemma => kernel_rfl) ?_
            have r0 := cell_of HZ12.out 0
            have r1 := cell_of HZ12.out 1
            have r2 := cell_of HZ12.out 2
            have HR12 := Lib.hid (HR10.out.keptS HQ12.out (by have := HTo.out.row.lt; omega) (fun k e h => by have := (HTo.out.row.ents.lt k (by rw [← HO10.out]; exact e)).2; omega))
            have HT12 := Lib.hid (TabS.cut HTo.out hF (by rw [HK1.out]; exact HR12.out) HK12.out HO10.out)
            have HA12 := Lib.hid (show ∀ g ∈ gs, GDAt w12 base g from fun g hg => (HPL.out.all g hg).row HTo.out.row HK12.out (fun k e hs => HPL.out.far g hg k e ((rowS_own HPL.out.own k).1 hs)))
            have HU12 := Lib.hid (ownsRow_keptS HPL.out.outs HK12.out (fun k e => HNR.out k (by have := (HPL.out.outs.lt k e).1; omega)))
            have HXM := Lib.hid (show xb ∈ gs from (cutsO_sub hF gs m).subset (by rw [← HXB.out]; exact getD_mem (by rw [← HK1.out]; exact firstO_lt H0.out)))
            have HGB := Lib.hid (fun W (hB : Below w12.heap.size w12 W) => gbytes_any (GrpAt.below (HA12.out xb HXM.out) hB))
            have hct := cutO_total H0.out
            rw [HK1.out, HXB.out, HFD.out] at hct
            rw [HXK.out.1] at HGB
            have hbx : xb.hs.length * atT xb.H.rows xb.H.rows.length = bytesG xb := rfl
            rw [hbx] at HGB
            obtain ⟨bb, hbb⟩ : ∃ x, bytesG xb = x := ⟨_, rfl⟩
            rw [hbb] at hct HGB
            obtain ⟨F2, hF2⟩ : ∃ x, totalG (cutO hF (cutsO hF gs m)) = x := ⟨_, rfl⟩
            rw [hF2] at hct
            have HF2 := Lib.hid (show totalG (cutsO hF gs (m + 1)) = F2 from hF2)
            have hsub : IntKind.i64.wrap ((F : Int) + (n : Int) - (bb : Int)) = (F2 : Int) + (n : Int) := by rw [IntKind.wrap_i64]; omega
            clear hbx hbb hF2
            go_wp2_with fail
            refine (HGB.out _ (Below.refl _ _)).mono ?_
            rintro e w13 ⟨rfl, hB13⟩
            have HB13 := Lib.hid hB13
            have z13 := zk HZ12.out hB13
            have r0 := cell_of z13 0
            have r1 := cell_of z13 1
            have r2 := cell_of z13 2
            have HU13 := Lib.hid (ownsRow_keptS HU12.out (Kept.below hB13) (fun _ _ h => h))
            have hwl13 : w3.heap.size ≤ w13.heap.size := by have h1 := HPL.out.kept.size; have h2 := HK12.out.size; have h3 := hB13.size; omega
            clear hB13 z13 hct
            go_wp2_with (at_builtin; refine app_el 36 46 1 8 (.pointer none) Try.underlying36 infoPG rfl (by decide) rfl _ _ rfl w3.heap.size m _ _ rfl HU13.out [.pointer (some ⟨xk, 0, none⟩)] rfl (by simp [Value.oneCell']) rfl (by omega) hwl13 ?_; intro g1 c1 w14 oA kA sA gA)
            have hwS : ∀ k, k < w13.heap.size → (Value.slice po m co).ownBlock = some k → w3.heap.size ≤ k ∧ ∃ C, w13.heap[k]? = some (.cells C 46 (0, 0)) := fun k _ e => own_cells HU13.out k e
            go_roundw
            case rel =>
              refine ⟨m + 1, v10, by first | (rw [HF2.out]) | (rw [HF2.out]; go_num), ?_⟩
              refine ⟨(HT12.out.below HB13.out).ptr kA hwS (fun g hg => HPL.out.vlo g ((cutsO_sub hF gs (m + 1)).subset hg)) HPL.out.tbl.1 (fun k e => HPL.out.tbl.2 k (by rw [← HPL.out.own, ← HO10.out]; exact e)), HO10.out.trans HPL.out.own, HMO.out, fun m' hm' => ?_, fun g hg => GDAt.ptr (g := g) (GrpAt.below (HA12.out g hg) HB13.out) kA hwS (HPL.out.vlo g hg), ?_, ?_, HPL.out.lw, HPL.out.tbl, HPL.out.vlo, HPL.out.far⟩
              · by_cases q : m' = m
                · subst q
                  rw [HFD.out]
                  exact hmore
                · exact HPL.out.min m' (by omega)
              · have hnx := cutsO_next (f := hF) (gs := gs) HMO.out
                rw [HK1.out, HXB.out] at hnx
                rw [hnx, List.map_append]
                show w14.ownsRow w3.heap.size _ 1 _ (m + 1) (_ ++ [.pointer (some ⟨xb.blk, 0, none⟩)])
                rw [HXK.out.1]
                exact oA
              · exact ((HPL.out.kept.trans HK12.out (fun i _ e => (rowS_own HPL.out.own i).1 e)).trans (Kept.below HB13.out) (fun _ _ h => h.elim)).trans kA (fun i hi e => by have := (HU13.out.lt i e).1; omega)
            case measure =>
              have := HMO.out
              simp [lenV]
              omega
          refine s_step 11 (by as_aux_lemma => kernel_rfl) (fun o ho K hK => ?_) ?_
          · simp only [List.getElem?_toArray, List.getElem?_cons_succ, List.getElem?_cons_zero, Option.some.injEq] at ho
            subst ho
            go_simp
            refine K_name ?_
            intro w11 e11
            first
              | (have HE11 := Lib.hid HK10.out.size; have z11 := mk_new e11; have HQ11 := Lib.hid (show Kept (fun k => wo.heap.size ≤ k) w10 w11 from (Kept.below (mk_belT e11)).mono (fun _ _ h => h.elim)); have HK11 := Lib.hid (show Kept (RowS tb vt) wo w11 from HK10.out.trans (Kept.below (mk_belT e11)) (fun _ _ h => h.elim)); have q0 := cell_of z11 0; have q1 := cell_of z11 1; have q2 := cell_of z11 2; have q3 := fz_of z11 0; have q4 := fz_of z11 1; have q5 := fz_of z11 2)
              | (have HE11 := Lib.hid HB9.out.size; have HZ11 := Lib.hid (mk_new e11); have HB11 := Lib.hid (show Below wo.heap.size wo w11 from below_more HB9.out (mk_belT e11) HB9.out.size))
              | (have HE11 := Lib.hid HB8.out.size; have HZ11 := Lib.hid (mk_new e11); have HC11 := Lib.hid (mk_belT e11); have HB11 := Lib.hid (show Below wo.heap.size wo w11 from below_more HB8.out (mk_belT e11) HB8.out.size))
              | (have HE11 := Lib.hid (Nat.le_refl wo.heap.size); have HZ11 := Lib.hid (mk_newD e11); have HB11 := Lib.hid (mk_belD e11))
              | (have HE11 := Lib.hid (Nat.le_refl wo.heap.size); have HZ11 := Lib.hid (mk_new e11); have HB11 := Lib.hid (show Below wo.heap.size wo w11 from below_more HDB.out (mk_belT e11) HDB.out.size))
            clear e11
            refine hK.out _ _ (by first | exact HK11.out | exact HKB.out _ HB11.out) ?_
            clear hK K
            try simp only [Act.put, List.setIfInBounds_toArray, List.set_cons_zero, List.set_cons_succ]
            refine s_all (rs := [10]) (by as_aux_lemma => kernel_rfl) (by simp) ?_
            refine s_step 10 (by as_aux_lemma => kernel_rfl) (fun o ho K hK => ?_) AllReadyH.nil
            simp only [List.getElem?_toArray, List.getElem?_cons_succ, List.getElem?_cons_zero, Option.some.injEq] at ho
            subst ho
            go_simp
            refine (remove_any (HRW.out _ (by first | exact HB11.out | exact HB9.out)) k1 hfl).mono ?_
            rintro e w10 ⟨v10, he10, hr10, hk10, ho10⟩
            rw [HGX.out] at he10
            subst he10
            have HR10 := Lib.hid hr10
            have HO10 := Lib.hid ho10
            have HK10 := Lib.hid (show Kept (RowS tb vt) wo w10 from by first | exact (HKB.out _ HB11.out).trans hk10 (fun _ _ h => h) | exact (HKB.out _ HB9.out).trans hk10 (fun _ _ h => h))
            first | (have z10 := zk2 HZ11.out hk10 (HNR.out _ (by have := HE11.out; omega))) | (have z10 := zk2 HZ9.out hk10 (HNR.out _ (by have := HE11.out; omega))) | skip
            try (have q0 := cell_of z10 0; have q1 := cell_of z10 1; have q2 := cell_of z10 2; have q3 := fz_of z10 0; have q4 := fz_of z10 1; have q5 := fz_of z10 2)
            clear hr10 hk10 ho10
            go_wp2_with fail
            refine hK.out _ _ HK10.out ?_
            clear hK K
            try simp only [Act.put, List.setIfInBounds_toArray, List.set_cons_zero, List.set_cons_succ]
            refine s_all (rs := [12]) (by as_aux_lemma => kernel_rfl) (by simp) ?_
            refine s_step 12 (by as_aux_lemma => kernel_rfl) (fun o ho K hK => ?_) AllReadyH.nil
            simp only [List.getElem?_toArray, List.getElem?_cons_succ, List.getElem?_cons_zero, Option.some.injEq] at ho
            subst ho
            go_simp
            refine K_name ?_
            intro w12 e12
            first
              | (have HZ12 := Lib.hid (mk_set3 z11 e12); have HQ12 := Lib.hid (show Kept (fun k => wo.heap.size ≤ k) w10 w12 from HQ11.out.trans (mk_kept3 (S := fun k => wo.heap.size ≤ k) HE11.out e12) (fun _ _ h => h)))
              | (have HZ12 := Lib.hid (mk_set3 z10 e12); have HQ12 := Lib.hid (show Kept (fun k => wo.heap.size ≤ k) w10 w12 from mk_kept3 (S := fun k => wo.heap.size ≤ k) HE11.out e12))
            have HK12 := Lib.hid (show Kept (RowS tb vt) wo w12 from HK10.out.trans HQ12.out (fun i hi h => absurd h (by omega)))
            clear e12 q0 q1 q2 q3 q4 q5
            refine hK.out _ _ HK12.out ?_
            clear hK K
            try simp only [Act.put, List.setIfInBounds_toArray, List.set_cons_zero, List.set_cons_succ]
            refine s_done (by as_aux_lemma => kernel_rfl) ?_
            have r0 := cell_of HZ12.out 0
            have r1 := cell_of HZ12.out 1
            have r2 := cell_of HZ12.out 2
            have HR12 := Lib.hid (HR10.out.keptS HQ12.out (by have := HTo.out.row.lt; omega) (fun k e h => by have := (HTo.out.row.ents.lt k (by rw [← HO10.out]; exact e)).2; omega))
            have HT12 := Lib.hid (TabS.cut HTo.out hF (by rw [HK1.out]; exact HR12.out) HK12.out HO10.out)
            have HA12 := Lib.hid (show ∀ g ∈ gs, GDAt w12 base g from fun g hg => (HPL.out.all g hg).row HTo.out.row HK12.out (fun k e hs => HPL.out.far g hg k e ((rowS_own HPL.out.own k).1 hs)))
            have HU12 := Lib.hid (ownsRow_keptS HPL.out.outs HK12.out (fun k e => HNR.out k (by have := (HPL.out.outs.lt k e).1; omega)))
            have HXM := Lib.hid (show xb ∈ gs from (cutsO_sub hF gs m).subset (by rw [← HXB.out]; exact getD_mem (by rw [← HK1.out]; exact firstO_lt H0.out)))
            have HGB := Lib.hid (fun W (hB : Below w12.heap.size w12 W) => gbytes_any (GrpAt.below (HA12.out xb HXM.out) hB))
            have hct := cutO_total H0.out
            rw [HK1.out, HXB.out, HFD.out] at hct
            rw [HXK.out.1] at HGB
            have hbx : xb.hs.length * atT xb.H.rows xb.H.rows.length = bytesG xb := rfl
            rw [hbx] at HGB
            obtain ⟨bb, hbb⟩ : ∃ x, bytesG xb = x := ⟨_, rfl⟩
            rw [hbb] at hct HGB
            obtain ⟨F2, hF2⟩ : ∃ x, totalG (cutO hF (cutsO hF gs m)) = x := ⟨_, rfl⟩
            rw [hF2] at hct
            have HF2 := Lib.hid (show totalG (cutsO hF gs (m + 1)) = F2 from hF2)
            have hsub : IntKind.i64.wrap ((F : Int) + (n : Int) - (bb : Int)) = (F2 : Int) + (n : Int) := by rw [IntKind.wrap_i64]; omega
            clear hbx hbb hF2
            go_wp2_with fail
            refine (HGB.out _ (Below.refl _ _)).mono ?_
            rintro e w13 ⟨rfl, hB13⟩
            have HB13 := Lib.hid hB13
            have z13 := zk HZ12.out hB13
            have r0 := cell_of z13 0
            have r1 := cell_of z13 1
            have r2 := cell_of z13 2
            have HU13 := Lib.hid (ownsRow_keptS HU12.out (Kept.below hB13) (fun _ _ h => h))
            have hwl13 : w3.heap.size ≤ w13.heap.size := by have h1 := HPL.out.kept.size; have h2 := HK12.out.size; have h3 := hB13.size; omega
            clear hB13 z13 hct
            go_wp2_with (at_builtin; refine app_el 36 46 1 8 (.pointer none) Try.underlying36 infoPG rfl (by decide) rfl _ _ rfl w3.heap.size m _ _ rfl HU13.out [.pointer (some ⟨xk, 0, none⟩)] rfl (by simp [Value.oneCell']) rfl (by omega) hwl13 ?_; intro g1 c1 w14 oA kA sA gA)
            have hwS : ∀ k, k < w13.heap.size → (Value.slice po m co).ownBlock = some k → w3.heap.size ≤ k ∧ ∃ C, w13.heap[k]? = some (.cells C 46 (0, 0)) := fun k _ e => own_cells HU13.out k e
            go_roundw
            case rel =>
              refine ⟨m + 1, v10, by first | (rw [HF2.out]) | (rw [HF2.out]; go_num), ?_⟩
              refine ⟨(HT12.out.below HB13.out).ptr kA hwS (fun g hg => HPL.out.vlo g ((cutsO_sub hF gs (m + 1)).subset hg)) HPL.out.tbl.1 (fun k e => HPL.out.tbl.2 k (by rw [← HPL.out.own, ← HO10.out]; exact e)), HO10.out.trans HPL.out.own, HMO.out, fun m' hm' => ?_, fun g hg => GDAt.ptr (g := g) (GrpAt.below (HA12.out g hg) HB13.out) kA hwS (HPL.out.vlo g hg), ?_, ?_, HPL.out.lw, HPL.out.tbl, HPL.out.vlo, HPL.out.far⟩
              · by_cases q : m' = m
                · subst q
                  rw [HFD.out]
                  exact hmore
                · exact HPL.out.min m' (by omega)
              · have hnx := cutsO_next (f := hF) (gs := gs) HMO.out
                rw [HK1.out, HXB.out] at hnx
                rw [hnx, List.map_append]
                show w14.ownsRow w3.heap.size _ 1 _ (m + 1) (_ ++ [.pointer (some ⟨xb.blk, 0, none⟩)])
                rw [HXK.out.1]
                exact oA
              · exact ((HPL.out.kept.trans HK12.out (fun i _ e => (rowS_own HPL.out.own i).1 e)).trans (Kept.below HB13.out) (fun _ _ h => h.elim)).trans kA (fun i hi e => by have := (HU13.out.lt i e).1; omega)
            case measure =>
              have := HMO.out
              simp [lenV]
              omega
          exact AllReadyH.nil
        refine s_step 11 (by as_aux_lemma => kernel_rfl) (fun o ho K hK => ?_) ?_
        · simp only [List.getElem?_toArray, List.getElem?_cons_succ, List.getElem?_cons_zero, Option.some.injEq] at ho
          subst ho
          go_simp
          refine K_name ?_
          intro w11 e11
          first
            | (have HE11 := Lib.hid HK10.out.size; have z11 := mk_new e11; have HQ11 := Lib.hid (show Kept (fun k => wo.heap.size ≤ k) w10 w11 from (Kept.below (mk_belT e11)).mono (fun _ _ h => h.elim)); have HK11 := Lib.hid (show Kept (RowS tb vt) wo w11 from HK10.out.trans (Kept.below (mk_belT e11)) (fun _ _ h => h.elim)); have q0 := cell_of z11 0; have q1 := cell_of z11 1; have q2 := cell_of z11 2; have q3 := fz_of z11 0; have q4 := fz_of z11 1; have q5 := fz_of z11 2)
            | (have HE11 := Lib.hid HB9.out.size; have HZ11 := Lib.hid (mk_new e11); have HB11 := Lib.hid (show Below wo.heap.size wo w11 from below_more HB9.out (mk_belT e11) HB9.out.size))
            | (have HE11 := Lib.hid HB8.out.size; have HZ11 := Lib.hid (mk_new e11); have HC11 := Lib.hid (mk_belT e11); have HB11 := Lib.hid (show Below wo.heap.size wo w11 from below_more HB8.out (mk_belT e11) HB8.out.size))
            | (have HE11 := Lib.hid (Nat.le_refl wo.heap.size); have HZ11 := Lib.hid (mk_newD e11); have HB11 := Lib.hid (mk_belD e11))
            | (have HE11 := Lib.hid (Nat.le_refl wo.heap.size); have HZ11 := Lib.hid (mk_new e11); have HB11 := Lib.hid (show Below wo.heap.size wo w11 from below_more HDB.out (mk_belT e11) HDB.out.size))
          clear e11
          refine hK.out _ _ (by first | exact HK11.out | exact HKB.out _ HB11.out) ?_
          clear hK K
          try simp only [Act.put, List.setIfInBounds_toArray, List.set_cons_zero, List.set_cons_succ]
          refine s_all (rs := [9]) (by as_aux_lemma => kernel_rfl) (by simp) ?_
          refine s_step 9 (by as_aux_lemma => kernel_rfl) (fun o ho K hK => ?_) AllReadyH.nil
          simp only [List.getElem?_toArray, List.getElem?_cons_succ, List.getElem?_cons_zero, Option.some.injEq] at ho
          subst ho
          go_simp
          refine (find_any (HRW.out _ (by first | exact HB11.out | exact HB8.out)) (fun x => decide (x.2.1 ≠ hF)) _ _ eg_but (but1_tells _ _ hF (by first | exact HX8.out | exact (HC11.out.cell (blt HX8.out)).trans HX8.out))).mono ?_
          rintro e w9 ⟨he9, hB9⟩
          rw [HIX.out] at he9
          subst he9
          have HB9 := Lib.hid (show Below wo.heap.size wo w9 from by first | exact below_more HB11.out hB9 HB11.out.size | exact below_more HB8.out hB9 HB8.out.size)
          first | have HZ9 := Lib.hid (zk HZ11.out hB9) | have HZ9 := Lib.hid (zk HZ8.out hB9) | skip
          clear hB9
          go_wp2_with fail
          refine hK.out _ _ (HKB.out _ HB9.out) ?_
          clear hK K
          try simp only [Act.put, List.setIfInBounds_toArray, List.set_cons_zero, List.set_cons_succ]
          refine s_all (rs := [10]) (by as_aux_lemma => kernel_rfl) (by simp) ?_
          refine s_step 10 (by as_aux_lemma => kernel_rfl) (fun o ho K hK => ?_) AllReadyH.nil
          simp only [List.getElem?_toArray, List.getElem?_cons_succ, List.getElem?_cons_zero, Option.some.injEq] at ho
          subst ho
          go_simp
          refine (remove_any (HRW.out _ (by first | exact HB11.out | exact HB9.out)) k1 hfl).mono ?_
          rintro e w10 ⟨v10, he10, hr10, hk10, ho10⟩
          rw [HGX.out] at he10
          subst he10
          have HR10 := Lib.hid hr10
          have HO10 := Lib.hid ho10
          have HK10 := Lib.hid (show Kept (RowS tb vt) wo w10 from by first | exact (HKB.out _ HB11.out).trans hk10 (fun _ _ h => h) | exact (HKB.out _ HB9.out).trans hk10 (fun _ _ h => h))
          first | (have z10 := zk2 HZ11.out hk10 (HNR.out _ (by have := HE11.out; omega))) | (have z10 := zk2 HZ9.out hk10 (HNR.out _ (by have := HE11.out; omega))) | skip
          try (have q0 := cell_of z10 0; have q1 := cell_of z10 1; have q2 := cell_of z10 2; have q3 := fz_of z10 0; have q4 := fz_of z10 1; have q5 := fz_of z10 2)
          clear hr10 hk10 ho10
          go_wp2_with fail
          refine hK.out _ _ HK10.out ?_
          clear hK K
          try simp only [Act.put, List.setIfInBounds_toArray, List.set_cons_zero, List.set_cons_succ]
          refine s_all (rs := [12]) (by as_aux_lemma => kernel_rfl) (by simp) ?_
          refine s_step 12 (by as_aux_lemma => kernel_rfl) (fun o ho K hK => ?_) AllReadyH.nil
          simp only [List.getElem?_toArray, List.getElem?_cons_succ, List.getElem?_cons_zero, Option.some.injEq] at ho
          subst ho
          go_simp
          refine K_name ?_
          intro w12 e12
          first
            | (have HZ12 := Lib.hid (mk_set3 z11 e12); have HQ12 := Lib.hid (show Kept (fun k => wo.heap.size ≤ k) w10 w12 from HQ11.out.trans (mk_kept3 (S := fun k => wo.heap.size ≤ k) HE11.out e12) (fun _ _ h => h)))
            | (have HZ12 := Lib.hid (mk_set3 z10 e12); have HQ12 := Lib.hid (show Kept (fun k => wo.heap.size ≤ k) w10 w12 from mk_kept3 (S := fun k => wo.heap.size ≤ k) HE11.out e12))
          have HK12 := Lib.hid (show Kept (RowS tb vt) wo w12 from HK10.out.trans HQ12.out (fun i hi h => absurd h (by omega)))
          clear e12 q0 q1 q2 q3 q4 q5
          refine hK.out _ _ HK12.out ?_
          clear hK K
          try simp only [Act.put, List.setIfInBounds_toArray, List.set_cons_zero, List.set_cons_succ]
          refine s_done (by as_aux_lemma => kernel_rfl) ?_
          have r0 := cell_of HZ12.out 0
          have r1 := cell_of HZ12.out 1
          have r2 := cell_of HZ12.out 2
          have HR12 := Lib.hid (HR10.out.keptS HQ12.out (by have := HTo.out.row.lt; omega) (fun k e h => by have := (HTo.out.row.ents.lt k (by rw [← HO10.out]; exact e)).2; omega))
          have HT12 := Lib.hid (TabS.cut HTo.out hF (by rw [HK1.out]; exact HR12.out) HK12.out HO10.out)
          have HA12 := Lib.hid (show ∀ g ∈ gs, GDAt w12 base g from fun g hg => (HPL.out.all g hg).row HTo.out.row HK12.out (fun k e hs => HPL.out.far g hg k e ((rowS_own HPL.out.own k).1 hs)))
          have HU12 := Lib.hid (ownsRow_keptS HPL.out.outs HK12.out (fun k e => HNR.out k (by have := (HPL.out.outs.lt k e).1; omega)))
          have HXM := Lib.hid (show xb ∈ gs from (cutsO_sub hF gs m).subset (by rw [← HXB.out]; exact getD_mem (by rw [← HK1.out]; exact firstO_lt H0.out)))
          have HGB := Lib.hid (fun W (hB : Below w12.heap.size w12 W) => gbytes_any (GrpAt.below (HA12.out xb HXM.out) hB))
          have hct := cutO_total H0.out
          rw [HK1.out, HXB.out, HFD.out] at hct
          rw [HXK.out.1] at HGB
          have hbx : xb.hs.length * atT xb.H.rows xb.H.rows.length = bytesG xb := rfl
          rw [hbx] at HGB
          obtain ⟨bb, hbb⟩ : ∃ x, bytesG xb = x := ⟨_, rfl⟩
          rw [hbb] at hct HGB
          obtain ⟨F2, hF2⟩ : ∃ x, totalG (cutO hF (cutsO hF gs m)) = x := ⟨_, rfl⟩
          rw [hF2] at hct
          have HF2 := Lib.hid (show totalG (cutsO hF gs (m + 1)) = F2 from hF2)
          have hsub : IntKind.i64.wrap ((F : Int) + (n : Int) - (bb : Int)) = (F2 : Int) + (n : Int) := by rw [IntKind.wrap_i64]; omega
          clear hbx hbb hF2
          go_wp2_with fail
          refine (HGB.out _ (Below.refl _ _)).mono ?_
          rintro e w13 ⟨rfl, hB13⟩
          have HB13 := Lib.hid hB13
          have z13 := zk HZ12.out hB13
          have r0 := cell_of z13 0
          have r1 := cell_of z13 1
          have r2 := cell_of z13 2
          have HU13 := Lib.hid (ownsRow_keptS HU12.out (Kept.below hB13) (fun _ _ h => h))
          have hwl13 : w3.heap.size ≤ w13.heap.size := by have h1 := HPL.out.kept.size; have h2 := HK12.out.size; have h3 := hB13.size; omega
          clear hB13 z13 hct
          go_wp2_with (at_builtin; refine app_el 36 46 1 8 (.pointer none) Try.underlying36 infoPG rfl (by decide) rfl _ _ rfl w3.heap.size m _ _ rfl HU13.out [.pointer (some ⟨xk, 0, none⟩)] rfl (by simp [Value.oneCell']) rfl (by omega) hwl13 ?_; intro g1 c1 w14 oA kA sA gA)
          have hwS : ∀ k, k < w13.heap.size → (Value.slice po m co).ownBlock = some k → w3.heap.size ≤ k ∧ ∃ C, w13.heap[k]? = some (.cells C 46 (0, 0)) := fun k _ e => own_cells HU13.out k e
          go_roundw
          case rel =>
            refine ⟨m + 1, v10, by first | (rw [HF2.out]) | (rw [HF2.out]; go_num), ?_⟩
            refine ⟨(HT12.out.below HB13.out).ptr kA hwS (fun g hg => HPL.out.vlo g ((cutsO_sub hF gs (m + 1)).subset hg)) HPL.out.tbl.1 (fun k e => HPL.out.tbl.2 k (by rw [← HPL.out.own, ← HO10.out]; exact e)), HO10.out.trans HPL.out.own, HMO.out, fun m' hm' => ?_, fun g hg => GDAt.ptr (g := g) (GrpAt.below (HA12.out g hg) HB13.out) kA hwS (HPL.out.vlo g hg), ?_, ?_, HPL.out.lw, HPL.out.tbl, HPL.out.vlo, HPL.out.far⟩
            · by_cases q : m' = m
              · subst q
                rw [HFD.out]
                exact hmore
              · exact HPL.out.min m' (by omega)
            · have hnx := cutsO_next (f := hF) (gs := gs) HMO.out
              rw [HK1.out, HXB.out] at hnx
              rw [hnx, List.map_append]
              show w14.ownsRow w3.heap.size _ 1 _ (m + 1) (_ ++ [.pointer (some ⟨xb.blk, 0, none⟩)])
              rw [HXK.out.1]
              exact oA
            · exact ((HPL.out.kept.trans HK12.out (fun i _ e => (rowS_own HPL.out.own i).1 e)).trans (Kept.below HB13.out) (fun _ _ h => h.elim)).trans kA (fun i hi e => by have := (HU13.out.lt i e).1; omega)
          case measure =>
            have := HMO.out
            simp [lenV]
            omega
        exact AllReadyH.nil
      refine s_step 11 (by as_aux_lemma => kernel_rfl) (fun o ho K hK => ?_) ?_
      · simp only [List.getElem?_toArray, List.getElem?_cons_succ, List.getElem?_cons_zero, Option.some.injEq] at ho
        subst ho
        go_simp
        refine K_name ?_
        intro w11 e11
        first
          | (have HE11 := Lib.hid HK10.out.size; have z11 := mk_new e11; have HQ11 := Lib.hid (show Kept (fun k => wo.heap.size ≤ k) w10 w11 from (Kept.below (mk_belT e11)).mono (fun _ _ h => h.elim)); have HK11 := Lib.hid (show Kept (RowS tb vt) wo w11 from HK10.out.trans (Kept.below (mk_belT e11)) (fun _ _ h => h.elim)); have q0 := cell_of z11 0; have q1 := cell_of z11 1; have q2 := cell_of z11 2; have q3 := fz_of z11 0; have q4 := fz_of z11 1; have q5 := fz_of z11 2)
          | (have HE11 := Lib.hid HB9.out.size; have HZ11 := Lib.hid (mk_new e11); have HB11 := Lib.hid (show Below wo.heap.size wo w11 from below_more HB9.out (mk_belT e11) HB9.out.size))
          | (have HE11 := Lib.hid HB8.out.size; have HZ11 := Lib.hid (mk_new e11); have HC11 := Lib.hid (mk_belT e11); have HB11 := Lib.hid (show Below wo.heap.size wo w11 from below_more HB8.out (mk_belT e11) HB8.out.size))
          | (have HE11 := Lib.hid (Nat.le_refl wo.heap.size); have HZ11 := Lib.hid (mk_newD e11); have HB11 := Lib.hid (mk_belD e11))
          | (have HE11 := Lib.hid (Nat.le_refl wo.heap.size); have HZ11 := Lib.hid (mk_new e11); have HB11 := Lib.hid (show Below wo.heap.size wo w11 from below_more HDB.out (mk_belT e11) HDB.out.size))
        clear e11
        refine hK.out _ _ (by first | exact HK11.out | exact HKB.out _ HB11.out) ?_
        clear hK K
        try simp only [Act.put, List.setIfInBounds_toArray, List.set_cons_zero, List.set_cons_succ]
        refine s_all (rs := [8]) (by as_aux_lemma => kernel_rfl) (by simp) ?_
        refine s_step 8 (by as_aux_lemma => kernel_rfl) (fun o ho K hK => ?_) AllReadyH.nil
        simp only [List.getElem?_toArray, List.getElem?_cons_succ, List.getElem?_cons_zero, Option.some.injEq] at ho
        subst ho
        go_simp
        refine (but_any _ hF).mono ?_
        rintro e w8 ⟨rfl, e8⟩
        have HB8 := Lib.hid (show Below wo.heap.size wo w8 from by rw [← e8]; first | exact HB11.out.alloc HB11.out.size _ | exact HDB.out.alloc HDB.out.size _)
        have HX8 := Lib.hid (mk_box e8)
        try have HZ8 := Lib.hid (zk HZ11.out (show Below w11.heap.size w11 w8 from by rw [← e8]; exact (Below.refl _ _).alloc (Nat.le_refl _) _))
        clear e8
        go_wp2_with fail
        refine hK.out _ _ (HKB.out _ HB8.out) ?_
        clear hK K
        try simp only [Act.put, List.setIfInBounds_toArray, List.set_cons_zero, List.set_cons_succ]
        refine s_all (rs := [9]) (by as_aux_lemma => kernel_rfl) (by simp) ?_
        refine s_step 9 (by as_aux_lemma => kernel_rfl) (fun o ho K hK => ?_) AllReadyH.nil
        simp only [List.getElem?_toArray, List.getElem?_cons_succ, List.getElem?_cons_zero, Option.some.injEq] at ho
        subst ho
        go_simp
        refine (find_any (HRW.out _ (by first | exact HB11.out | exact HB8.out)) (fun x => decide (x.2.1 ≠ hF)) _ _ eg_but (but1_tells _ _ hF (by first | exact HX8.out | exact (HC11.out.cell (blt HX8.out)).trans HX8.out))).mono ?_
        rintro e w9 ⟨he9, hB9⟩
        rw [HIX.out] at he9
        subst he9
        have HB9 := Lib.hid (show Below wo.heap.size wo w9 from by first | exact below_more HB11.out hB9 HB11.out.size | exact below_more HB8.out hB9 HB8.out.size)
        first | have HZ9 := Lib.hid (zk HZ11.out hB9) | have HZ9 := Lib.hid (zk HZ8.out hB9) | skip
        clear hB9
        go_wp2_with fail
        refine hK.out _ _ (HKB.out _ HB9.out) ?_
        clear hK K
        try simp only [Act.put, List.setIfInBounds_toArray, List.set_cons_zero, List.set_cons_succ]
        refine s_all (rs := [10]) (by as_aux_lemma => kernel_rfl) (by simp) ?_
        refine s_step 10 (by as_aux_lemma => kernel_rfl) (fun o ho K hK => ?_) AllReadyH.nil
        simp only [List.getElem?_toArray, List.getElem?_cons_succ, List.getElem?_cons_zero, Option.some.injEq] at ho
        subst ho
        go_simp
        refine (remove_any (HRW.out _ (by first | exact HB11.out | exact HB9.out)) k1 hfl).mono ?_
        rintro e w10 ⟨v10, he10, hr10, hk10, ho10⟩
        rw [HGX.out] at he10
        subst he10
        have HR10 := Lib.hid hr10
        have HO10 := Lib.hid ho10
        have HK10 := Lib.hid (show Kept (RowS tb vt) wo w10 from by first | exact (HKB.out _ HB11.out).trans hk10 (fun _ _ h => h) | exact (HKB.out _ HB9.out).trans hk10 (fun _ _ h => h))
        first | (have z10 := zk2 HZ11.out hk10 (HNR.out _ (by have := HE11.out; omega))) | (have z10 := zk2 HZ9.out hk10 (HNR.out _ (by have := HE11.out; omega))) | skip
        try (have q0 := cell_of z10 0; have q1 := cell_of z10 1; have q2 := cell_of z10 2; have q3 := fz_of z10 0; have q4 := fz_of z10 1; have q5 := fz_of z10 2)
        clear hr10 hk10 ho10
        go_wp2_with fail
        refine hK.out _ _ HK10.out ?_
        clear hK K
        try simp only [Act.put, List.setIfInBounds_toArray, List.set_cons_zero, List.set_cons_succ]
        refine s_all (rs := [12]) (by as_aux_lemma => kernel_rfl) (by simp) ?_
        refine s_step 12 (by as_aux_lemma => kernel_rfl) (fun o ho K hK => ?_) AllReadyH.nil
        simp only [List.getElem?_toArray, List.getElem?_cons_succ, List.getElem?_cons_zero, Option.some.injEq] at ho
        subst ho
        go_simp
        refine K_name ?_
        intro w12 e12
        first
          | (have HZ12 := Lib.hid (mk_set3 z11 e12); have HQ12 := Lib.hid (show Kept (fun k => wo.heap.size ≤ k) w10 w12 from HQ11.out.trans (mk_kept3 (S := fun k => wo.heap.size ≤ k) HE11.out e12) (fun _ _ h => h)))
          | (have HZ12 := Lib.hid (mk_set3 z10 e12); have HQ12 := Lib.hid (show Kept (fun k => wo.heap.size ≤ k) w10 w12 from mk_kept3 (S := fun k => wo.heap.size ≤ k) HE11.out e12))
        have HK12 := Lib.hid (show Kept (RowS tb vt) wo w12 from HK10.out.trans HQ12.out (fun i hi h => absurd h (by omega)))
        clear e12 q0 q1 q2 q3 q4 q5
        refine hK.out _ _ HK12.out ?_
        clear hK K
        try simp only [Act.put, List.setIfInBounds_toArray, List.set_cons_zero, List.set_cons_succ]
        refine s_done (by as_aux_lemma => kernel_rfl) ?_
        have r0 := cell_of HZ12.out 0
        have r1 := cell_of HZ12.out 1
        have r2 := cell_of HZ12.out 2
        have HR12 := Lib.hid (HR10.out.keptS HQ12.out (by have := HTo.out.row.lt; omega) (fun k e h => by have := (HTo.out.row.ents.lt k (by rw [← HO10.out]; exact e)).2; omega))
        have HT12 := Lib.hid (TabS.cut HTo.out hF (by rw [HK1.out]; exact HR12.out) HK12.out HO10.out)
        have HA12 := Lib.hid (show ∀ g ∈ gs, GDAt w12 base g from fun g hg => (HPL.out.all g hg).row HTo.out.row HK12.out (fun k e hs => HPL.out.far g hg k e ((rowS_own HPL.out.own k).1 hs)))
        have HU12 := Lib.hid (ownsRow_keptS HPL.out.outs HK12.out (fun k e => HNR.out k (by have := (HPL.out.outs.lt k e).1; omega)))
        have HXM := Lib.hid (show xb ∈ gs from (cutsO_sub hF gs m).subset (by rw [← HXB.out]; exact getD_mem (by rw [← HK1.out]; exact firstO_lt H0.out)))
        have HGB := Lib.hid (fun W (hB : Below w12.heap.size w12 W) => gbytes_any (GrpAt.below (HA12.out xb HXM.out) hB))
        have hct := cutO_total H0.out
        rw [HK1.out, HXB.out, HFD.out] at hct
        rw [HXK.out.1] at HGB
        have hbx : xb.hs.length * atT xb.H.rows xb.H.rows.length = bytesG xb := rfl
        rw [hbx] at HGB
        obtain ⟨bb, hbb⟩ : ∃ x, bytesG xb = x := ⟨_, rfl⟩
        rw [hbb] at hct HGB
        obtain ⟨F2, hF2⟩ : ∃ x, totalG (cutO hF (cutsO hF gs m)) = x := ⟨_, rfl⟩
        rw [hF2] at hct
        have HF2 := Lib.hid (show totalG (cutsO hF gs (m + 1)) = F2 from hF2)
        have hsub : IntKind.i64.wrap ((F : Int) + (n : Int) - (bb : Int)) = (F2 : Int) + (n : Int) := by rw [IntKind.wrap_i64]; omega
        clear hbx hbb hF2
        go_wp2_with fail
        refine (HGB.out _ (Below.refl _ _)).mono ?_
        rintro e w13 ⟨rfl, hB13⟩
        have HB13 := Lib.hid hB13
        have z13 := zk HZ12.out hB13
        have r0 := cell_of z13 0
        have r1 := cell_of z13 1
        have r2 := cell_of z13 2
        have HU13 := Lib.hid (ownsRow_keptS HU12.out (Kept.below hB13) (fun _ _ h => h))
        have hwl13 : w3.heap.size ≤ w13.heap.size := by have h1 := HPL.out.kept.size; have h2 := HK12.out.size; have h3 := hB13.size; omega
        clear hB13 z13 hct
        go_wp2_with (at_builtin; refine app_el 36 46 1 8 (.pointer none) Try.underlying36 infoPG rfl (by decide) rfl _ _ rfl w3.heap.size m _ _ rfl HU13.out [.pointer (some ⟨xk, 0, none⟩)] rfl (by simp [Value.oneCell']) rfl (by omega) hwl13 ?_; intro g1 c1 w14 oA kA sA gA)
        have hwS : ∀ k, k < w13.heap.size → (Value.slice po m co).ownBlock = some k → w3.heap.size ≤ k ∧ ∃ C, w13.heap[k]? = some (.cells C 46 (0, 0)) := fun k _ e => own_cells HU13.out k e
        go_roundw
        case rel =>
          refine ⟨m + 1, v10, by first | (rw [HF2.out]) | (rw [HF2.out]; go_num), ?_⟩
          refine ⟨(HT12.out.below HB13.out).ptr kA hwS (fun g hg => HPL.out.vlo g ((cutsO_sub hF gs (m + 1)).subset hg)) HPL.out.tbl.1 (fun k e => HPL.out.tbl.2 k (by rw [← HPL.out.own, ← HO10.out]; exact e)), HO10.out.trans HPL.out.own, HMO.out, fun m' hm' => ?_, fun g hg => GDAt.ptr (g := g) (GrpAt.below (HA12.out g hg) HB13.out) kA hwS (HPL.out.vlo g hg), ?_, ?_, HPL.out.lw, HPL.out.tbl, HPL.out.vlo, HPL.out.far⟩
          · by_cases q : m' = m
            · subst q
              rw [HFD.out]
              exact hmore
            · exact HPL.out.min m' (by omega)
          · have hnx := cutsO_next (f := hF) (gs := gs) HMO.out
            rw [HK1.out, HXB.out] at hnx
            rw [hnx, List.map_append]
            show w14.ownsRow w3.heap.size _ 1 _ (m + 1) (_ ++ [.pointer (some ⟨xb.blk, 0, none⟩)])
            rw [HXK.out.1]
            exact oA
          · exact ((HPL.out.kept.trans HK12.out (fun i _ e => (rowS_own HPL.out.own i).1 e)).trans (Kept.below HB13.out) (fun _ _ h => h.elim)).trans kA (fun i hi e => by have := (HU13.out.lt i e).1; omega)
        case measure =>
          have := HMO.out
          simp [lenV]
          omega
      exact AllReadyH.nil
    · have hfit : (F : Int) + (n : Int) ≤ cn := by omega
      have HFIT := Lib.hid hfit
      have HFI := Lib.hid (fun W (hB : Below wo.heap.size wo W) => tfind_any (HTo.out.below hB) hF)
      have HNR := Lib.hid (show ∀ k, w.heap.size ≤ k → ¬ RowS tb vt k from fun k hk hs => by
        rcases hs with e | e
        · omega
        · have := HOW.out k (by rw [← HPL.out.own]; exact e)
          omega)
      have HNV := Lib.hid (show ∀ k, w.heap.size ≤ k → ¬ RowS tb v k from fun k hk hs => HNR.out k hk ((rowS_own HPL.out.own k).2 hs))
      have HBXo := Lib.hid (show HeadBox wo w.heap.size ⟨hS, hF, hI, hN, hD, rows⟩ (.slice pv M cv) from zk2 HBX3.out HPL.out.kept (HNV.out _ (Nat.le_refl _)))
      have y1 := HBXo.out.c1
      dsimp only at y1
      have HKW := Lib.hid (show Kept (PutS tb v gs) w wo from ((Kept.below HB3.out).mono (fun _ _ h => h.elim)).trans HPL.out.kept (fun _ _ h => .inl h))
      have HBY := Lib.hid (show BytesAt wo (.slice pb n c) l from (HL.out.below HB3.out).kept0 HPL.out.kept (fun h0 k e hs => HLB.out h0 k e (.inl hs)))
      have HVH := Lib.hid (show TableAt wo (.slice pv M cv) rows from (HVT.out.below HB3.out).keptB HPL.out.kept (fun k e hs => HVB.out k (by rw [hM]; exact e) (.inl hs)))
      obtain ⟨hok, hnl, hown⟩ := refE_zero HE.out
      have HNN := Lib.hid (show n = l.length from by obtain ⟨p, c', e⟩ := HHB.out.2; exact (Value.slice.inj e).2.1)
      have HOK := Lib.hid hok
      have HNL := Lib.hid hnl
      have hwsz : w.heap.size ≤ wo.heap.size := by have := HPL.out.kept.size; omega
      clear hok hnl
      by_cases hpos : posG hF (cutsO hF gs m) < (cutsO hF gs m).length
      · have hV : findV hF (cutsO hF gs m) = .tuple #[.pointer (some ⟨((cutsO hF gs m).getD (posG hF (cutsO hF gs m)) default).blk, 0, none⟩), .bool true] := by unfold findV; rw [if_pos hpos]
        rw [hV] at HFI
        obtain ⟨hpg, hsame⟩ := own_same HP.out.nod m hpos
        have hz := hown hpg
        dsimp only at hz
        rw [← hsame] at hz
        have hgm := getD_mem hpos
        have hhit := posG_hit hpos
        obtain ⟨G, hG⟩ : ∃ G, (cutsO hF gs m).getD (posG hF (cutsO hF gs m)) default = G := ⟨_, rfl⟩
        have HG := Lib.hid hG
        rw [hG] at hz hgm HFI hhit
        have HZ := Lib.hid hz
        have HGM := Lib.hid hgm
        have HHT := Lib.hid hhit
        have HPO := Lib.hid hpos
        have HGR : G.H.rows = rows := hz.1.2.2.2.2.symm
        obtain ⟨gb, hgb⟩ : ∃ x, G.blk = x := ⟨_, rfl⟩
        have HGB := Lib.hid hgb
        rw [hgb] at HFI
        clear hV hown hpg hsame hz hgm hG hhit hgb
        go_wp2_with fail
        refine (HFI.out _ (Below.refl _ wo)).mono ?_
        rintro e w5 ⟨rfl, hB5⟩
        have HB5 := Lib.hid hB5
        clear y1 hB5 c3
        have hbx := HBXo.out.below HB5.out
        have y0 := hbx.c0
        have y1 := hbx.c1
        have y2 := hbx.c2
        have y3 := hbx.c3
        have y4 := hbx.c4
        have y5 := hbx.c5
        dsimp only at y0 y1 y2 y3 y4
        clear hbx
        have HLN := Lib.hid (show l.length = atT G.H.rows G.H.rows.length from by
          rw [HGR]
          have h1 : n = atT rows rows.length := HNL.out
          have h2 := HNN.out
          omega)
        have hTK := gtake_any (GrpAt.below (HTo.out.grp G HGM.out) HB5.out) (by have := HB5.out.size; have := HHB.out.1; omega) ⟨hS, hF, hI, hN, hD, rows⟩ (.slice pv M cv) (.slice pb n c) l (HVH.out.below HB5.out) (HBY.out.below HB5.out) HOK.out HZ.out.1 (HLN.out) (by have := GrpAt.few (HTo.out.grp G HGM.out); omega)
        rw [if_neg HZ.out.2, if_neg HZ.out.2, HGB.out] at hTK
        have HTK := Lib.hid hTK
        clear hTK HGR
        go_wp2_with fail
        refine HTK.out.mono ?_
        rintro e w6 ⟨V', rfl, hG6, hk6⟩
        rw [← HGB.out] at hG6
        have HG6 := Lib.hid hG6
        have HK6 := Lib.hid hk6
        clear y0 y1 y2 y3 y4 y5 hG6 hk6
        go_wp2
        go_ret2
        have hmap5 := (GrpAt.below (HTo.out.grp G HGM.out) HB5.out).map
        have hno : ∀ g ∈ (othersG hF gs).take m, g.bm ≠ G.bm := fun g hg e => by
          have h1 := List.mem_of_mem_take hg
          simp only [othersG, List.mem_filter, decide_eq_true_eq] at h1
          have h2 := bm_inj HT.out.maps h1.1 ((cutsO_sub hF gs m).subset HGM.out) e
          exact h1.2 (by rw [h2]; exact HHT.out)
        refine ⟨_, vt, _, (othersG hF gs).take m, m, rfl, (HTo.out.below HB5.out).took HPO.out HG.out HG6.out HK6.out, ⟨HPL.out.le, rfl, by have := HNN.out; dsimp only; rw [HFD.out]; omega, fun m' hm' => .inl (by have := HPL.out.min m' hm'; dsimp only; rw [← HNN.out]; exact this), .inl ⟨V', HPO.out, by rw [HG.out]; exact HZ.out.2, by rw [HG.out]⟩⟩, ?_, fun g hg => ?_, ?_, vrs_old HPO.out (by rw [HG.out])⟩
        · have hlen : ((othersG hF gs).take m).length = m := by rw [List.length_take]; exact Nat.min_eq_left HPL.out.le
          unfold OutsAt
          rw [hlen]
          refine ownsRow_keptS (ownsRow_keptS (ownsRow_weaken HPL.out.outs (by omega)) (Kept.below HB5.out) (fun _ _ h => h)) HK6.out (fun k e e2 => ?_)
          obtain ⟨_, C, h1⟩ := own_cells (ownsRow_keptS HPL.out.outs (Kept.below HB5.out) (fun _ _ h => h)) k e
          obtain ⟨mm, cc, h2⟩ := hmap5.heap
          rw [e2] at h1
          rw [h2] at h1
          cases h1
        · have h1 := List.mem_of_mem_take hg
          simp only [othersG, List.mem_filter, decide_eq_true_eq] at h1
          exact GDAt.mapK (w := w5) (GrpAt.below (HPL.out.all g h1.1) HB5.out) hmap5 (hno g hg) HK6.out
        · exact (HKW.out.trans (Kept.below HB5.out) (fun _ _ h => h.elim)).trans HK6.out (fun i _ e => .inr ⟨G, (cutsO_sub hF gs m).subset HGM.out, e⟩)
      · have hV : findV hF (cutsO hF gs m) = .tuple #[.pointer none, .bool false] := by unfold findV; rw [if_neg hpos]
        rw [hV] at HFI
        have hnew : hF ∉ framesG gs := fun h => hpos (posG_mem.2 ((cutsO_frame m).2 h))
        have HNEW := Lib.hid hnew
        have HCN := Lib.hid (show ((cutsO hF gs m).length : Int) ≤ gn from by have h1 := (cutsO_sub hF gs m).length_le; have h2 := HP.out.cnt; omega)
        obtain ⟨pt, ct, hvt, hct⟩ := HTo.out.row.ents.shape
        rw [List.length_map] at hvt hct
        subst hvt
        have HOTH := Lib.hid (show (othersG hF (cutsO hF gs m)).length = (cutsO hF gs m).length from by
          have : othersG hF (cutsO hF gs m) = cutsO hF gs m := List.filter_eq_self.2 (fun g hg => by simpa using posG_none hpos g hg)
          rw [this])
        obtain ⟨Mt, hMt⟩ : ∃ x, (cutsO hF gs m).length = x := ⟨_, rfl⟩
        have HMT := Lib.hid hMt
        rw [hMt] at HCN HPL HTo hct HOTH HNR
        clear hV hown hnew hMt hpos
        go_wp2_with fail
        refine (HFI.out _ (Below.refl _ wo)).mono ?_
        rintro e w5 ⟨rfl, hB5⟩
        have HB5 := Lib.hid hB5
        clear y1 hB5 c3
        have HT5 := Lib.hid (HTo.out.below HB5.out)
        have HD5 := Lib.hid (show Below w5.heap.size w5 w5.drew from (Kept.refl (fun _ => False) w5).drew.toBelow (Nat.le_refl _) (fun _ h => h.elim))
        have k0 := HT5.out.row.c0
        have k2 := HT5.out.row.c2
        by_cases hfull : (Mt : Int) = gn
        · go_wp2_with fail
          refine s_start 11 (fun W => Below w5.heap.size w5 W) (by as_aux_lemma => kernel_rfl) (by as_aux_lemma => kernel_rfl) HD5.out ?_
          refine s_take 0 (by as_aux_lemma => kernel_rfl) (by as_aux_lemma => kernel_rfl) (by as_aux_lemma => kernel_rfl) (by as_aux_lemma => kernel_rfl) HD5.out (fun oi ho => ?_)
          simp only [List.getElem?_toArray, List.getElem?_cons_succ, List.getElem?_cons_zero, Option.some.injEq] at ho
          subst ho
          refine ⟨?_, Or.inl ⟨by rfl, fun w _ => ?_⟩, ?_⟩
          rotate_left
          · (go_simp <;> with_reducible rfl)
          try simp only [Act.put, List.setIfInBounds_toArray, List.set_cons_zero, List.set_cons_succ]
          refine s_take 1 (by as_aux_lemma => kernel_rfl) (by as_aux_lemma => kernel_rfl) (by as_aux_lemma => kernel_rfl) (by as_aux_lemma => kernel_rfl) HD5.out (fun oi ho => ?_)
          simp only [List.getElem?_toArray, List.getElem?_cons_succ, List.getElem?_cons_zero, Option.some.injEq] at ho
          subst ho
          refine ⟨?_, Or.inl ⟨by rfl, fun w _ => ?_⟩, ?_⟩
          rotate_left
          · (go_simp <;> with_reducible rfl)
          try simp only [Act.put, List.setIfInBounds_toArray, List.set_cons_zero, List.set_cons_succ]
          refine s_take 2 (by as_aux_lemma => kernel_rfl) (by as_aux_lemma => kernel_rfl) (by as_aux_lemma => kernel_rfl) (by as_aux_lemma => kernel_rfl) HD5.out (fun oi ho => ?_)
          simp only [List.getElem?_toArray, List.getElem?_cons_succ, List.getElem?_cons_zero, Option.some.injEq] at ho
          subst ho
          refine ⟨?_, Or.inl ⟨by rfl, fun w _ => ?_⟩, ?_⟩
          rotate_left
          · (go_simp <;> with_reducible rfl)
          try simp only [Act.put, List.setIfInBounds_toArray, List.set_cons_zero, List.set_cons_succ]
          refine s_take 3 (by as_aux_lemma => kernel_rfl) (by as_aux_lemma => kernel_rfl) (by as_aux_lemma => kernel_rfl) (by as_aux_lemma => kernel_rfl) HD5.out (fun oi ho => ?_)
          simp only [List.getElem?_toArray, List.getElem?_cons_succ, List.getElem?_cons_zero, Option.some.injEq] at ho
          subst ho
          refine ⟨?_, Or.inl ⟨by rfl, fun w _ => ?_⟩, ?_⟩
          rotate_left
          · (go_simp <;> with_reducible rfl)
          try simp only [Act.put, List.setIfInBounds_toArray, List.set_cons_zero, List.set_cons_succ]
          refine s_take 4 (by as_aux_lemma => kernel_rfl) (by as_aux_lemma => kernel_rfl) (by as_aux_lemma => kernel_rfl) (by as_aux_lemma => kernel_rfl) HD5.out (fun oi ho => ?_)
          simp only [List.getElem?_toArray, List.getElem?_cons_succ, List.getElem?_cons_zero, Option.some.injEq] at ho
          subst ho
          refine ⟨.slice pt Mt ct, Or.inl ⟨by rfl, fun w' hS' => ?_⟩, ?_⟩
          · have z := (hS'.cell (p := ⟨tb, 0, none⟩) (blt k0)).trans k0
            clear k0 k2
            (go_simp <;> with_reducible rfl)
          try simp only [Act.put, List.setIfInBounds_toArray, List.set_cons_zero, List.set_cons_succ]
          refine s_take 5 (by as_aux_lemma => kernel_rfl) (by as_aux_lemma => kernel_rfl) (by as_aux_lemma => kernel_rfl) (by as_aux_lemma => kernel_rfl) HD5.out (fun oi ho => ?_)
          simp only [List.getElem?_toArray, List.getElem?_cons_succ, List.getElem?_cons_zero, Option.some.injEq] at ho
          subst ho
          refine ⟨?_, Or.inl ⟨by rfl, fun w _ => ?_⟩, ?_⟩
          rotate_left
          · (go_simp <;> with_reducible rfl)
          try simp only [Act.put, List.setIfInBounds_toArray, List.set_cons_zero, List.set_cons_succ]
          refine s_take 6 (by as_aux_lemma => kernel_rfl) (by as_aux_lemma => kernel_rfl) (by as_aux_lemma => kernel_rfl) (by as_aux_lemma => kernel_rfl) HD5.out (fun oi ho => ?_)
          simp only [List.getElem?_toArray, List.getElem?_cons_succ, List.getElem?_cons_zero, Option.some.injEq] at ho
          subst ho
          refine ⟨?_, Or.inl ⟨by rfl, fun w _ => ?_⟩, ?_⟩
          rotate_left
          · (go_simp <;> with_reducible rfl)
          try simp only [Act.put, List.setIfInBounds_toArray, List.set_cons_zero, List.set_cons_succ]
          refine s_take 7 (by as_aux_lemma => kernel_rfl) (by as_aux_lemma => kernel_rfl) (by as_aux_lemma => kernel_rfl) (by as_aux_lemma => kernel_rfl) HD5.out (fun oi ho => ?_)
          simp only [List.getElem?_toArray, List.getElem?_cons_succ, List.getElem?_cons_zero, Option.some.injEq] at ho
          subst ho
          refine ⟨?_, Or.inl ⟨by rfl, fun w _ => ?_⟩, ?_⟩
          rotate_left
          · (go_simp <;> with_reducible rfl)
          try simp only [Act.put, List.setIfInBounds_toArray, List.set_cons_zero, List.set_cons_succ]
          refine s_take 8 (by as_aux_lemma => kernel_rfl) (by as_aux_lemma => kernel_rfl) (by as_aux_lemma => kernel_rfl) (by as_aux_lemma => kernel_rfl) HD5.out (fun oi ho => ?_)
          simp only [List.getElem?_toArray, List.getElem?_cons_succ, List.getElem?_cons_zero, Option.some.injEq] at ho
          subst ho
          refine ⟨?_, Or.inl ⟨by rfl, fun w _ => ?_⟩, ?_⟩
          rotate_left
          · (go_simp <;> with_reducible rfl)
          try simp only [Act.put, List.setIfInBounds_toArray, List.set_cons_zero, List.set_cons_succ]
          refine s_take 9 (by as_aux_lemma => kernel_rfl) (by as_aux_lemma => kernel_rfl) (by as_aux_lemma => kernel_rfl) (by as_aux_lemma => kernel_rfl) HD5.out (fun oi ho => ?_)
          simp only [List.getElem?_toArray, List.getElem?_cons_succ, List.getElem?_cons_zero, Option.some.injEq] at ho
          subst ho
          refine ⟨.int .i64 gn, Or.inl ⟨by rfl, fun w' hS' => ?_⟩, ?_⟩
          · have z := (hS'.cell (p := ⟨tb, 2, none⟩) (blt k2)).trans k2
            clear k0 k2
            (go_simp <;> with_reducible rfl)
          try simp only [Act.put, List.setIfInBounds_toArray, List.set_cons_zero, List.set_cons_succ]
          refine s_take 10 (by as_aux_lemma => kernel_rfl) (by as_aux_lemma => kernel_rfl) (by as_aux_lemma => kernel_rfl) (by as_aux_lemma => kernel_rfl) HD5.out (fun oi ho => ?_)
          simp only [List.getElem?_toArray, List.getElem?_cons_succ, List.getElem?_cons_zero, Option.some.injEq] at ho
          subst ho
          refine ⟨.bool true, Or.inl ⟨by rfl, fun w' hS' => ?_⟩, ?_⟩
          · clear k0 k2
            (go_simp <;> first | with_reducible rfl | simp [hfull])
          try simp only [Act.put, List.setIfInBounds_toArray, List.set_cons_zero, List.set_cons_succ]
          refine s_done (by as_aux_lemma => kernel_rfl) ?_
          skip
          clear k0 k2
          have HB6d := Lib.hid (show Below wo.heap.size wo w5.drew from below_more HB5.out HD5.out HB5.out.size)
          generalize w5.drew = wA at *
          have HTA := Lib.hid (HTo.out.below HB6d.out)
          have HDA := Lib.hid (show Below wA.heap.size wA wA.drew from (Kept.refl (fun _ => False) wA).drew.toBelow (Nat.le_refl _) (fun _ h => h.elim))
          have y1 := (HBXo.out.below HB6d.out).c1
          dsimp only at y1
          have h0 : 0 < (othersG hF (cutsO hF gs m)).length := by rw [HOTH.out]; have := HP.out.pos; omega
          have H0 := Lib.hid h0
          have HMO := Lib.hid (show m < (othersG hF gs).length from by
            have h1 := HPL.out.le
            rw [cutsO_others h1, List.length_drop] at h0
            omega)
          obtain ⟨xb, hxb⟩ : ∃ x, ((cutsO hF gs m).getD (firstO hF (cutsO hF gs m)) default) = x := ⟨_, rfl⟩
          have HXB := Lib.hid hxb
          have hgx : ((cutsO hF gs m).map entG).getD (firstO hF (cutsO hF gs m)) (0, 0, 0) = (xb.blk, xb.H.frame, xb.H.deadline) := by rw [getD_ent (firstO_lt h0), hxb]; rfl
          have HGX := Lib.hid hgx
          have hfl : firstO hF (cutsO hF gs m) < ((cutsO hF gs m).map entG).length := by rw [List.length_map]; exact firstO_lt h0
          have HIX := Lib.hid (idx_firstO hF (cutsO hF gs m) h0)
          obtain ⟨k1, hk1⟩ : ∃ x, firstO hF (cutsO hF gs m) = x := ⟨_, rfl⟩
          have HK1 := Lib.hid hk1
          rw [hk1] at HGX hfl HIX HXB
          obtain ⟨xk, hxk⟩ : ∃ x, xb.blk = x := ⟨_, rfl⟩
          obtain ⟨xf, hxf⟩ : ∃ x, xb.H.frame = x := ⟨_, rfl⟩
          obtain ⟨xd, hxd⟩ : ∃ x, xb.H.deadline = x := ⟨_, rfl⟩
          rw [hxk, hxf, hxd] at HGX
          have HXK := Lib.hid hxk
          clear h0 hgx hxb hk1 hxk hxf hxd
          have HRW := Lib.hid (fun W (hB : Below wA.heap.size wA W) => HTA.out.row.below hB)
          have HKB := Lib.hid (fun W (hB : Below wA.heap.size wA W) => show Kept (RowS tb (.slice pt Mt ct)) wA W from (Kept.below hB).mono (fun _ _ h => h.elim))
          have hfull2 : gn ≤ (Mt : Int) := by omega
          have HFU := Lib.hid hfull2
          have HUA := Lib.hid (ownsRow_keptS HPL.out.outs (Kept.below HB6d.out) (fun _ _ h => h))
          have hwlA : w3.heap.size ≤ wA.heap.size := by have h1 := HPL.out.kept.size; have h2 := HB6d.out.size; omega
          have hmlen2 : m < 1000000000000 := by omega
          clear hfull hfull2
          go_wp2_with fail
          refine s_start 16 (fun W => Kept (RowS tb (.slice pt Mt ct)) wA W ∨ True) (by as_aux_lemma => kernel_rfl) (by as_aux_lemma => kernel_rfl) (.inr trivial) ?_
          refine s_take 0 (by as_aux_lemma => kernel_rfl) (by as_aux_lemma => kernel_rfl) (by as_aux_lemma => kernel_rfl) (by as_aux_lemma => kernel_rfl) (Or.inr trivial) (fun oi ho => ?_)
          simp only [List.getElem?_toArray, List.getElem?_cons_succ, List.getElem?_cons_zero, Option.some.injEq] at ho
          subst ho
          refine ⟨?_, Or.inl ⟨by rfl, fun w _ => ?_⟩, ?_⟩
          rotate_left
          · (go_simp <;> with_reducible rfl)
          try simp only [Act.put, List.setIfInBounds_toArray, List.set_cons_zero, List.set_cons_succ]
          refine s_take 1 (by as_aux_lemma => kernel_rfl) (by as_aux_lemma => kernel_rfl) (by as_aux_lemma => kernel_rfl) (by as_aux_lemma => kernel_rfl) (Or.inr trivial) (fun oi ho => ?_)
          simp only [List.getElem?_toArray, List.getElem?_cons_succ, List.getElem?_cons_zero, Option.some.injEq] at ho
          subst ho
          refine ⟨?_, Or.inl ⟨by rfl, fun w _ => ?_⟩, ?_⟩
          rotate_left
          · (go_simp <;> with_reducible rfl)
          try simp only [Act.put, List.setIfInBounds_toArray, List.set_cons_zero, List.set_cons_succ]
          refine s_take 2 (by as_aux_lemma => kernel_rfl) (by as_aux_lemma => kernel_rfl) (by as_aux_lemma => kernel_rfl) (by as_aux_lemma => kernel_rfl) (Or.inr trivial) (fun oi ho => ?_)
          simp only [List.getElem?_toArray, List.getElem?_cons_succ, List.getElem?_cons_zero, Option.some.injEq] at ho
          subst ho
          refine ⟨?_, Or.inl ⟨by rfl, fun w _ => ?_⟩, ?_⟩
          rotate_left
          · (go_simp <;> with_reducible rfl)
          try simp only [Act.put, List.setIfInBounds_toArray, List.set_cons_zero, List.set_cons_succ]
          refine s_take 3 (by as_aux_lemma => kernel_rfl) (by as_aux_lemma => kernel_rfl) (by as_aux_lemma => kernel_rfl) (by as_aux_lemma => kernel_rfl) (Or.inr trivial) (fun oi ho => ?_)
          simp only [List.getElem?_toArray, List.getElem?_cons_succ, List.getElem?_cons_zero, Option.some.injEq] at ho
          subst ho
          refine ⟨?_, Or.inl ⟨by rfl, fun w _ => ?_⟩, ?_⟩
          rotate_left
          · (go_simp <;> with_reducible rfl)
          try simp only [Act.put, List.setIfInBounds_toArray, List.set_cons_zero, List.set_cons_succ]
          refine s_take 4 (by as_aux_lemma => kernel_rfl) (by as_aux_lemma => kernel_rfl) (by as_aux_lemma => kernel_rfl) (by as_aux_lemma => kernel_rfl) (Or.inr trivial) (fun oi ho => ?_)
          simp only [List.getElem?_toArray, List.getElem?_cons_succ, List.getElem?_cons_zero, Option.some.injEq] at ho
          subst ho
          refine ⟨?_, Or.inl ⟨by rfl, fun w _ => ?_⟩, ?_⟩
          rotate_left
          · (go_simp <;> with_reducible rfl)
          try simp only [Act.put, List.setIfInBounds_toArray, List.set_cons_zero, List.set_cons_succ]
          refine s_take 5 (by as_aux_lemma => kernel_rfl) (by as_aux_lemma => kernel_rfl) (by as_aux_lemma => kernel_rfl) (by as_aux_lemma => kernel_rfl) (Or.inr trivial) (fun oi ho => ?_)
          simp only [List.getElem?_toArray, List.getElem?_cons_succ, List.getElem?_cons_zero, Option.some.injEq] at ho
          subst ho
          refine ⟨?_, Or.inl ⟨by rfl, fun w _ => ?_⟩, ?_⟩
          rotate_left
          · (go_simp <;> with_reducible rfl)
          try simp only [Act.put, List.setIfInBounds_toArray, List.set_cons_zero, List.set_cons_succ]
          refine s_take 6 (by as_aux_lemma => kernel_rfl) (by as_aux_lemma => kernel_rfl) (by as_aux_lemma => kernel_rfl) (by as_aux_lemma => kernel_rfl) (Or.inr trivial) (fun oi ho => ?_)
          simp only [List.getElem?_toArray, List.getElem?_cons_succ, List.getElem?_cons_zero, Option.some.injEq] at ho
          subst ho
          refine ⟨?_, Or.inl ⟨by rfl, fun w _ => ?_⟩, ?_⟩
          rotate_left
          · (go_simp <;> with_reducible rfl)
          try simp only [Act.put, List.setIfInBounds_toArray, List.set_cons_zero, List.set_cons_succ]
          refine s_take 7 (by as_aux_lemma => kernel_rfl) (by as_aux_lemma => kernel_rfl) (by as_aux_lemma => kernel_rfl) (by as_aux_lemma => kernel_rfl) (Or.inr trivial) (fun oi ho => ?_)
          simp only [List.getElem?_toArray, List.getElem?_cons_succ, List.getElem?_cons_zero, Option.some.injEq] at ho
          subst ho
          refine ⟨?_, Or.inl ⟨by rfl, fun w _ => ?_⟩, ?_⟩
          rotate_left
          · (go_simp <;> with_reducible rfl)
          try simp only [Act.put, List.setIfInBounds_toArray, List.set_cons_zero, List.set_cons_succ]
          refine s_all (rs := [8]) (by as_aux_lemma => kernel_rfl) (by simp) ?_
          refine s_step 8 (by as_aux_lemma => kernel_rfl) (fun o ho K hK => ?_) AllReadyH.nil
          simp only [List.getElem?_toArray, List.getElem?_cons_succ, List.getElem?_cons_zero, Option.some.injEq] at ho
          subst ho
          go_simp
          refine hK.out _ _ (Or.inr trivial) ?_
          clear hK K
          try simp only [Act.put, List.setIfInBounds_toArray, List.set_cons_zero, List.set_cons_succ]
          refine s_all (rs := [9]) (by as_aux_lemma => kernel_rfl) (by simp) ?_
          refine s_step 9 (by as_aux_lemma => kernel_rfl) (fun o ho K hK => ?_) AllReadyH.nil
          simp only [List.getElem?_toArray, List.getElem?_cons_succ, List.getElem?_cons_zero, Option.some.injEq] at ho
          subst ho
          go_simp
          refine (but_any _ hF).mono ?_
          rintro e w8 ⟨rfl, e8⟩
          have HB8 := Lib.hid (show Below wA.heap.size wA w8 from by rw [← e8]; exact HDA.out.alloc HDA.out.size _)
          have HX8 := Lib.hid (mk_box e8)
          clear e8
          go_wp2_with fail
          refine hK.out _ _ (Or.inr trivial) ?_
          clear hK K
          try simp only [Act.put, List.setIfInBounds_toArray, List.set_cons_zero, List.set_cons_succ]
          refine s_all (rs := [10]) (by as_aux_lemma => kernel_rfl) (by simp) ?_
          refine s_step 10 (by as_aux_lemma => kernel_rfl) (fun o ho K hK => ?_) AllReadyH.nil
          simp only [List.getElem?_toArray, List.getElem?_cons_succ, List.getElem?_cons_zero, Option.some.injEq] at ho
          subst ho
          go_simp
          refine (find_any (HRW.out _ HB8.out) (fun x => decide (x.2.1 ≠ hF)) _ _ eg_but (but1_tells _ _ hF HX8.out)).mono ?_
          rintro e w9 ⟨he9, hB9⟩
          rw [HIX.out] at he9
          subst he9
          have HB9 := Lib.hid (show Below wA.heap.size wA w9 from below_more HB8.out hB9 HB8.out.size)
          clear hB9
          go_wp2_with fail
          refine hK.out _ _ (Or.inr trivial) ?_
          clear hK K
          try simp only [Act.put, List.setIfInBounds_toArray, List.set_cons_zero, List.set_cons_succ]
          refine s_all (rs := [11]) (by as_aux_lemma => kernel_rfl) (by simp) ?_
          refine s_step 11 (by as_aux_lemma => kernel_rfl) (fun o ho K hK => ?_) AllReadyH.nil
          simp only [List.getElem?_toArray, List.getElem?_cons_succ, List.getElem?_cons_zero, Option.some.injEq] at ho
          subst ho
          go_simp
          refine (remove_any (HRW.out _ HB9.out) k1 hfl).mono ?_
          rintro e w10 ⟨v1, he10, hr10, hk10, ho10⟩
          rw [HGX.out] at he10
          subst he10
          have HR10 := Lib.hid hr10
          have HO10 := Lib.hid ho10
          have HK10 := Lib.hid (show Kept (RowS tb (.slice pt Mt ct)) wA w10 from (HKB.out _ HB9.out).trans hk10 (fun _ _ h => h))
          have HU10 := Lib.hid (ownsRow_keptS HUA.out HK10.out (fun k e => HNR.out k (by have h1 := (HPL.out.outs.lt k e).1; omega)))
          clear hr10 hk10 ho10 y1
          go_wp2_with fail
          refine hK.out _ _ (Or.inr trivial) ?_
          clear hK K
          try simp only [Act.put, List.setIfInBounds_toArray, List.set_cons_zero, List.set_cons_succ]
          refine s_take 12 (by as_aux_lemma => kernel_rfl) (by as_aux_lemma => kernel_rfl) (by as_aux_lemma => kernel_rfl) (by as_aux_lemma => kernel_rfl) (Or.inr trivial) (fun oi ho => ?_)
          simp only [List.getElem?_toArray, List.getElem?_cons_succ, List.getElem?_cons_zero, Option.some.injEq] at ho
          subst ho
          refine ⟨.pointer (some ⟨xk, 0, none⟩), Or.inl ⟨by rfl, fun w' hS' => ?_⟩, ?_⟩
          · (go_simp <;> (rw [field_ent]; rfl))
          try simp only [Act.put, List.setIfInBounds_toArray, List.set_cons_zero, List.set_cons_succ]
          refine s_all (rs := [13]) (by as_aux_lemma => kernel_rfl) (by simp) ?_
          refine s_step 13 (by as_aux_lemma => kernel_rfl) (fun o ho K hK => ?_) AllReadyH.nil
          simp only [List.getElem?_toArray, List.getElem?_cons_succ, List.getElem?_cons_zero, Option.some.injEq] at ho
          subst ho
          go_simp
          refine K_name ?_
          intro w11 e11
          have HB11 := Lib.hid (mk_belT e11)
          have hc11 : ∀ j u, [(Value.pointer (some ⟨xk, 0, none⟩))][j]? = some u → w11.cell? ⟨w10.heap.size, j, none⟩ = some u := fun j u hj => by
            rw [e11]
            refine (World.cell?_alloc_new w10 _ _ j).trans ?_
            rw [← hj]
            simp
          have HU11 := Lib.hid (ownsRow_keptS HU10.out (Kept.below HB11.out) (fun _ _ h => h))
          have hwl11 : w3.heap.size ≤ w11.heap.size := by have h1 := HK10.out.size; have h2 := HB11.out.size; omega
          clear e11
          refine hK.out _ _ (Or.inr trivial) ?_
          clear hK K
          try simp only [Act.put, List.setIfInBounds_toArray, List.set_cons_zero, List.set_cons_succ]
          refine s_all (rs := [14]) (by as_aux_lemma => kernel_rfl) (by simp) ?_
          refine s_step 14 (by as_aux_lemma => kernel_rfl) (fun o ho K hK => ?_) AllReadyH.nil
          simp only [List.getElem?_toArray, List.getElem?_cons_succ, List.getElem?_cons_zero, Option.some.injEq] at ho
          subst ho
          refine step_appO 36 46 1 8 (.pointer none) Try.underlying36 infoPG rfl (by decide) (by rfl) _ _ rfl w3.heap.size m _ _ (by rfl) HU11.out w10.heap.size [.pointer (some ⟨xk, 0, none⟩)] rfl (by simp [Value.oneCell']) (by rfl) hc11 hmlen2 hwl11 ?_
          intro g1 c1 w14 oA kA sA
          refine hK.out _ _ (Or.inr trivial) ?_
          clear hK K
          try simp only [Act.put, List.setIfInBounds_toArray, List.set_cons_zero, List.set_cons_succ]
          refine s_take 15 (by as_aux_lemma => kernel_rfl) (by as_aux_lemma => kernel_rfl) (by as_aux_lemma => kernel_rfl) (by as_aux_lemma => kernel_rfl) (Or.inr trivial) (fun oi ho => ?_)
          simp only [List.getElem?_toArray, List.getElem?_cons_succ, List.getElem?_cons_zero, Option.some.injEq] at ho
          subst ho
          refine ⟨?_, Or.inl ⟨by rfl, fun w _ => ?_⟩, ?_⟩
          rotate_left
          · (go_simp <;> with_reducible rfl)
          try simp only [Act.put, List.setIfInBounds_toArray, List.set_cons_zero, List.set_cons_succ]
          refine s_done (by as_aux_lemma => kernel_rfl) ?_
          skip
          clear hc11
          have hwS : ∀ k, k < w11.heap.size → (Value.slice po m co).ownBlock = some k → w3.heap.size ≤ k ∧ ∃ C, w11.heap[k]? = some (.cells C 46 (0, 0)) := fun k _ e => own_cells HU11.out k e
          have HT10 := Lib.hid (TabS.cut HTA.out hF (by rw [HK1.out]; exact HR10.out) HK10.out HO10.out)
          have HA10 := Lib.hid (show ∀ g ∈ gs, GDAt w10 base g from fun g hg => GDAt.row (w := wA) (GrpAt.below (HPL.out.all g hg) HB6d.out) HTA.out.row HK10.out (fun k e hs => HPL.out.far g hg k e ((rowS_own HPL.out.own k).1 hs)))
          have HKP := Lib.hid (show Kept (fun k => w3.heap.size ≤ k) w10 w14 from ((Kept.below HB11.out).mono (fun _ _ h => h.elim)).trans (kA.mono (fun k _ e => (HU11.out.lt k e).1)) (fun _ _ h => h))
          obtain ⟨m1, hm1⟩ : ∃ x, m + 1 = x := ⟨_, rfl⟩
          have HN := Lib.hid (show PutN w base tb gn cn v gs ⟨hS, hF, hI, hN, hD, rows⟩ (.slice pv M cv) (.slice pb n c) l m1 (.slice (some ⟨g1, 0, none⟩) (m + 1) c1) v1 w14 from by
            subst hm1
            refine ⟨(HT10.out.below HB11.out).ptr kA hwS (fun g hg => HPL.out.vlo g ((cutsO_sub hF gs (m + 1)).subset hg)) HPL.out.tbl.1 (fun k e => HPL.out.tbl.2 k (by rw [← HPL.out.own, ← HO10.out]; exact e)), HMO.out, ?_, fun m' hm' => ?_, ?_, fun g hg => GDAt.ptr (w := w11) (GrpAt.below (HA10.out g hg) HB11.out) kA hwS (HPL.out.vlo g hg), HPL.out.far, ?_, HO10.out.trans HPL.out.own, ?_, ?_, ?_, HNEW.out, ?_, ⟨htw, HOW.out⟩⟩
            · have h1 := total_sub (cutO_sub hF (cutsO hF gs m))
              have h2 := HNN.out
              rw [HFD.out] at h1
              show ((totalG (cutO hF (cutsO hF gs m)) : Nat) : Int) + _ ≤ cn
              omega
            · by_cases q : m' = m
              · subst q
                exact .inr ⟨HNEW.out, by dsimp only; rw [HMT.out]; exact HFU.out⟩
              · exact .inl (by have := HPL.out.min m' (by omega); dsimp only; rw [← HNN.out]; exact this)
            · have hnx := cutsO_next (f := hF) (gs := gs) HMO.out
              rw [HK1.out, HXB.out] at hnx
              dsimp only
              rw [hnx, List.map_append]
              refine ownsRow_weaken (base := w3.heap.size) ?_ (by omega)
              show w14.ownsRow w3.heap.size _ 1 _ (m + 1) (_ ++ [.pointer (some ⟨xb.blk, 0, none⟩)])
              rw [HXK.out]
              exact oA
            · exact (((HKW.out.trans (Kept.below HB6d.out) (fun _ _ h => h.elim)).trans HK10.out (fun i _ e => .inl ((rowS_own HPL.out.own i).1 e))).trans HKP.out (fun i hi e => by omega))
            · exact zk2 (zk2 (HBXo.out.below HB6d.out) HK10.out (HNR.out _ (Nat.le_refl _))) HKP.out (by omega)
            · exact ((HBY.out.below HB6d.out).kept0 HK10.out (fun h0 k e hs => HLB.out h0 k e (.inl ((rowS_own HPL.out.own k).1 hs)))).keptLt HL.out HKP.out (fun k hk hs => by omega)
            · exact ((HVH.out.below HB6d.out).keptB HK10.out (fun k e hs => HVB.out k (by rw [hM]; exact e) (.inl ((rowS_own HPL.out.own k).1 hs)))).keptLt HVT.out HKP.out (fun k hk hs => by omega)
            · have h1 := cutO_len H0.out
              have h2 := HCN.out
              rw [HMT.out] at h1
              show ((cutO hF (cutsO hF gs m)).length : Int) + 1 ≤ gn
              omega)
          clear hm1
          have hbx := HN.out.box
          have y0 := hbx.c0
          have y1 := hbx.c1
          have y2 := hbx.c2
          have y3 := hbx.c3
          have y4 := hbx.c4
          have y5 := hbx.c5
          dsimp only at y0 y1 y2 y3 y4
          clear hbx
          go_wp2_with fail
          refine (gnew_ok _ ⟨hS, hF, hI, hN, hD, rows⟩ (.slice pv M cv) HN.out.tabv HOK.out).mono ?_
          rintro e w6 ⟨b, bm, vr, rfl, hG, hB6⟩
          have HG6 := Lib.hid hG
          have HB6 := Lib.hid hB6
          clear y0 y1 y2 y3 y4 y5
          clear hG hB6
          have hbx := HN.out.box.below HB6.out
          have y0 := hbx.c0
          have y1 := hbx.c1
          have y2 := hbx.c2
          have y3 := hbx.c3
          have y4 := hbx.c4
          have y5 := hbx.c5
          dsimp only at y0 y1 y2 y3 y4
          clear hbx
          have HNRR := Lib.hid (show ∀ k, w.heap.size ≤ k → ¬ RowS tb v1 k from fun k hk hs => by
            rcases hs with e | e
            · have := HN.out.tbl.1
              omega
            · have := HN.out.tbl.2 k (by rw [← HN.out.own]; exact e)
              omega)
          have HR6 := Lib.hid (HN.out.tab.row.below HB6.out)
          have hK6 : Kept (RowS tb v1) w6 w6.drew := (Kept.refl _ w6).drew
          have HK6 := Lib.hid hK6
          have hclen : (cutsO hF gs m1).length < 1000 := by have h1 := HN.out.room; have h2 := HP.out.few; dsimp only at h1; omega
          have HIN := Lib.hid (insert_any (HR6.out.keptS ((Kept.refl (fun _ => False) w6).drew) (fun h => h) (fun _ _ h => h)) (b, hF, hD) (by rw [List.length_map]; exact hclen) (by have h1 := HHB.out.1; have h2 := HN.out.kept.size; have h3 := HB6.out.size; show base ≤ w6.heap.size; omega) (srt_mono (HP.out.sub (cutsO_sub hF gs m1)).srt (b, hF, hD)))
          dsimp only at HIN
          clear hK6 hclen
          go_wp2_with fail
          refine s_start 10 (fun W => Kept (RowS tb v1) w6 W) (by as_aux_lemma => kernel_rfl) (by as_aux_lemma => kernel_rfl) HK6.out ?_
          refine s_take 0 (by as_aux_lemma => kernel_rfl) (by as_aux_lemma => kernel_rfl) (by as_aux_lemma => kernel_rfl) (by as_aux_lemma => kernel_rfl) HK6.out (fun oi ho => ?_)
          simp only [List.getElem?_toArray, List.getElem?_cons_succ, List.getElem?_cons_zero, Option.some.injEq] at ho
          subst ho
          refine ⟨?_, Or.inl ⟨by rfl, fun w _ => ?_⟩, ?_⟩
          rotate_left
          · (go_simp <;> with_reducible rfl)
          try simp only [Act.put, List.setIfInBounds_toArray, List.set_cons_zero, List.set_cons_succ]
          refine s_take 1 (by as_aux_lemma => kernel_rfl) (by as_aux_lemma => kernel_rfl) (by as_aux_lemma => kernel_rfl) (by as_aux_lemma => kernel_rfl) HK6.out (fun oi ho => ?_)
          simp only [List.getElem?_toArray, List.getElem?_cons_succ, List.getElem?_cons_zero, Option.some.injEq] at ho
          subst ho
          refine ⟨?_, Or.inl ⟨by rfl, fun w _ => ?_⟩, ?_⟩
          rotate_left
          · (go_simp <;> with_reducible rfl)
          try simp only [Act.put, List.setIfInBounds_toArray, List.set_cons_zero, List.set_cons_succ]
          refine s_take 2 (by as_aux_lemma => kernel_rfl) (by as_aux_lemma => kernel_rfl) (by as_aux_lemma => kernel_rfl) (by as_aux_lemma => kernel_rfl) HK6.out (fun oi ho => ?_)
          simp only [List.getElem?_toArray, List.getElem?_cons_succ, List.getElem?_cons_zero, Option.some.injEq] at ho
          subst ho
          refine ⟨?_, Or.inl ⟨by rfl, fun w _ => ?_⟩, ?_⟩
          rotate_left
          · (go_simp <;> with_reducible rfl)
          try simp only [Act.put, List.setIfInBounds_toArray, List.set_cons_zero, List.set_cons_succ]
          refine s_take 3 (by as_aux_lemma => kernel_rfl) (by as_aux_lemma => kernel_rfl) (by as_aux_lemma => kernel_rfl) (by as_aux_lemma => kernel_rfl) HK6.out (fun oi ho => ?_)
          simp only [List.getElem?_toArray, List.getElem?_cons_succ, List.getElem?_cons_zero, Option.some.injEq] at ho
          subst ho
          refine ⟨?_, Or.inl ⟨by rfl, fun w _ => ?_⟩, ?_⟩
          rotate_left
          · (go_simp <;> with_reducible rfl)
          try simp only [Act.put, List.setIfInBounds_toArray, List.set_cons_zero, List.set_cons_succ]
          refine s_take 4 (by as_aux_lemma => kernel_rfl) (by as_aux_lemma => kernel_rfl) (by as_aux_lemma => kernel_rfl) (by as_aux_lemma => kernel_rfl) HK6.out (fun oi ho => ?_)
          simp only [List.getElem?_toArray, List.getElem?_cons_succ, List.getElem?_cons_zero, Option.some.injEq] at ho
          subst ho
          refine ⟨?_, Or.inl ⟨by rfl, fun w _ => ?_⟩, ?_⟩
          rotate_left
          · (go_simp <;> with_reducible rfl)
          try simp only [Act.put, List.setIfInBounds_toArray, List.set_cons_zero, List.set_cons_succ]
          refine s_take 5 (by as_aux_lemma => kernel_rfl) (by as_aux_lemma => kernel_rfl) (by as_aux_lemma => kernel_rfl) (by as_aux_lemma => kernel_rfl) HK6.out (fun oi ho => ?_)
          simp only [List.getElem?_toArray, List.getElem?_cons_succ, List.getElem?_cons_zero, Option.some.injEq] at ho
          subst ho
          refine ⟨.int .i64 hF, Or.inl ⟨by rfl, fun w' hS' => ?_⟩, ?_⟩
          · have z := (hS'.cell (p := ⟨w.heap.size, 1, none⟩) (blt y1) (HNRR.out _ (Nat.le_refl _))).trans y1
            clear y0 y1 y2 y3 y4 y5
            (go_simp <;> with_reducible rfl)
          try simp only [Act.put, List.setIfInBounds_toArray, List.set_cons_zero, List.set_cons_succ]
          refine s_take 6 (by as_aux_lemma => kernel_rfl) (by as_aux_lemma => kernel_rfl) (by as_aux_lemma => kernel_rfl) (by as_aux_lemma => kernel_rfl) HK6.out (fun oi ho => ?_)
          simp only [List.getElem?_toArray, List.getElem?_cons_succ, List.getElem?_cons_zero, Option.some.injEq] at ho
          subst ho
          refine ⟨?_, Or.inl ⟨by rfl, fun w _ => ?_⟩, ?_⟩
          rotate_left
          · (go_simp <;> with_reducible rfl)
          try simp only [Act.put, List.setIfInBounds_toArray, List.set_cons_zero, List.set_cons_succ]
          refine s_take 7 (by as_aux_lemma => kernel_rfl) (by as_aux_lemma => kernel_rfl) (by as_aux_lemma => kernel_rfl) (by as_aux_lemma => kernel_rfl) HK6.out (fun oi ho => ?_)
          simp only [List.getElem?_toArray, List.getElem?_cons_succ, List.getElem?_cons_zero, Option.some.injEq] at ho
          subst ho
          refine ⟨.int .i64 hD, Or.inl ⟨by rfl, fun w' hS' => ?_⟩, ?_⟩
          · have z := (hS'.cell (p := ⟨w.heap.size, 4, none⟩) (blt y4) (HNRR.out _ (Nat.le_refl _))).trans y4
            clear y0 y1 y2 y3 y4 y5
            (go_simp <;> with_reducible rfl)
          try simp only [Act.put, List.setIfInBounds_toArray, List.set_cons_zero, List.set_cons_succ]
          refine s_take 8 (by as_aux_lemma => kernel_rfl) (by as_aux_lemma => kernel_rfl) (by as_aux_lemma => kernel_rfl) (by as_aux_lemma => kernel_rfl) HK6.out (fun oi ho => ?_)
          simp only [List.getElem?_toArray, List.getElem?_cons_succ, List.getElem?_cons_zero, Option.some.injEq] at ho
          subst ho
          refine ⟨?_, Or.inl ⟨by rfl, fun w _ => ?_⟩, ?_⟩
          rotate_left
          · (go_simp <;> with_reducible rfl)
          try simp only [Act.put, List.setIfInBounds_toArray, List.set_cons_zero, List.set_cons_succ]
          refine s_all (rs := [9]) (by as_aux_lemma => kernel_rfl) (by simp) ?_
          refine s_step 9 (by as_aux_lemma => kernel_rfl) (fun o ho K hK => ?_) AllReadyH.nil
          simp only [List.getElem?_toArray, List.getElem?_cons_succ, List.getElem?_cons_zero, Option.some.injEq] at ho
          subst ho
          go_simp
          refine HIN.out.mono ?_
          rintro e w7 ⟨v2, k, rfl, hkl, hka, hkb, hr7, hk7, ho7⟩
          have HAB := Lib.hid (And.intro hkl (And.intro hka hkb))
          have HR7 := Lib.hid hr7
          have HO7 := Lib.hid ho7
          have HK7 := Lib.hid (show Kept (RowS tb v1) w6 w7 from HK6.out.trans hk7 (fun _ _ h => h))
          clear y0 y1 y2 y3 y4 y5
          clear hkl hka hkb hr7 hk7 ho7
          go_wp2_with fail
          refine hK.out _ _ HK7.out ?_
          clear hK K
          try simp only [Act.put, List.setIfInBounds_toArray, List.set_cons_zero, List.set_cons_succ]
          refine s_done (by as_aux_lemma => kernel_rfl) ?_
          skip

          have HNW := Lib.hid (fun k (h : w.heap.size ≤ k) => HNRR.out k h)
          have hgl := HG6.out.lo
          have hwW : w.heap.size ≤ w14.heap.size := HN.out.kept.size
          have HVL := Lib.hid (show ∀ k, vr.ownBlock = some k → w14.heap.size ≤ k ∧ k < w6.heap.size from fun k e => ⟨HG6.out.lo.2.2 k e, by obtain ⟨u, o, h1⟩ := GrpAt.vlt HG6.out k e; exact blt h1⟩)
          have HG7 := Lib.hid (GrpAt.keptT HG6.out HK7.out (fun k _ hs => .inl (rowS_cells HR6.out k hs)) (fun k e hs => HNRR.out k (by have := (HVL.out k e).1; omega) hs))
          have hbx := (show HeadBox w7 w.heap.size ⟨hS, hF, hI, hN, hD, rows⟩ (.slice pv M cv) from zk2 (HN.out.box.below HB6.out) HK7.out (HNRR.out _ (Nat.le_refl _)))
          have y0 := hbx.c0
          have y1 := hbx.c1
          have y2 := hbx.c2
          have y3 := hbx.c3
          have y4 := hbx.c4
          have y5 := hbx.c5
          dsimp only at y0 y1 y2 y3 y4
          clear hbx
          have hTK := gtake_any HG7.out (by have := HB6.out.size; have := HK7.out.size; omega) ⟨hS, hF, hI, hN, hD, rows⟩ (.slice pv M cv) (.slice pb n c) l ((HN.out.tabv.below HB6.out).keptB HK7.out (fun k e hs => HVB.out k (by rw [hM]; exact e) (.inl ((rowS_own HN.out.own k).1 hs)))) ((HN.out.byt.below HB6.out).kept0 HK7.out (fun h0 k e hs => HLB.out h0 k e (.inl ((rowS_own HN.out.own k).1 hs)))) HOK.out ⟨rfl, rfl, rfl, rfl, rfl⟩ (by have h1 : n = atT rows rows.length := HNL.out; have h2 := HNN.out; show l.length = atT rows rows.length; omega) (by simp)
          rw [if_neg (by simp), if_neg (by simp)] at hTK
          have HTK := Lib.hid hTK
          clear hTK hgl
          go_wp2_with fail
          refine HTK.out.mono ?_
          rintro e w8 ⟨V', rfl, hG8, hk8⟩
          have HG8 := Lib.hid hG8
          have HK8 := Lib.hid hk8
          clear y0 y1 y2 y3 y4 y5
          clear hG8 hk8
          go_wp2
          go_ret2
          have hBW : w.heap.size ≤ bm := Nat.le_trans hwW HG6.out.lo.2.1
          have hbm6 : bm < w6.heap.size := HG6.out.map.lt
          have hmap7 : MapI w7 bm _ := HG7.out.map
          have HPUT := TabS.put (h := ⟨hS, hF, hI, hN, hD, rows⟩) HN.out.tab (by have := HHB.out.1; omega) HB6.out HR7.out HK7.out (HO7.out.imp id (fun ⟨g, h1, h2⟩ => ⟨g, h1, h2⟩)) HVL.out HG6.out.lo.2.1 ⟨_, hmap7⟩ HG8.out HK8.out
          have hnm : ∀ g ∈ gs, g.bm ≠ bm := fun g hg e => by
            have h1 := (HN.out.all g hg).map.lt
            have h2 := HG6.out.lo.2.1
            omega
          refine ⟨_, v2, _, (othersG hF gs).take m1, m1, rfl, HPUT, ⟨HN.out.le, rfl, HN.out.fits, HN.out.least, .inr ⟨HN.out.new, HN.out.room, k, ⟨b, bm, vr, ⟨hS, hF, hI, hN, hD, rows⟩, [(hI, l)], V'⟩, by have h1 := HAB.out.1; rw [List.length_map] at h1; exact h1, HAB.out.2.1, fun j h1 h2 => HAB.out.2.2 j h1 (by rw [List.length_map]; exact h2), rfl, rfl, rfl⟩⟩, ?_, fun g hg => ?_, ?_, vrs_new (fun k e => Nat.le_trans hwW (HVL.out k e).1)⟩
          · have hlen : ((othersG hF gs).take m1).length = m1 := by rw [List.length_take]; exact Nat.min_eq_left HN.out.le
            unfold OutsAt
            rw [hlen]
            have hu7 := ownsRow_keptS (ownsRow_keptS HN.out.outs (Kept.below HB6.out) (fun _ _ h => h)) HK7.out (fun k e => HNRR.out k (HN.out.outs.lt k e).1)
            refine ownsRow_keptS hu7 HK8.out (fun k e e2 => ?_)
            obtain ⟨_, C, h1⟩ := own_cells hu7 k e
            obtain ⟨mm, cc, h2⟩ := hmap7.heap
            rw [e2] at h1
            rw [h2] at h1
            cases h1
          · have h1 := List.mem_of_mem_take hg
            simp only [othersG, List.mem_filter, decide_eq_true_eq] at h1
            exact GDAt.mapK (w := w7) (GDAt.row (GrpAt.below (HN.out.all g h1.1) HB6.out) HR6.out HK7.out (fun k e hs => HN.out.far g h1.1 k e ((rowS_own HN.out.own k).1 hs))) hmap7 (hnm g h1.1) HK8.out
          · exact ((HN.out.kept.trans (Kept.below HB6.out) (fun _ _ h => h.elim)).trans HK7.out (fun i _ e => .inl ((rowS_own HN.out.own i).1 e))).trans HK8.out (fun i hi e => by omega)
        · go_wp2_with fail
          refine s_start 11 (fun W => Below w5.heap.size w5 W) (by as_aux_lemma => kernel_rfl) (by as_aux_lemma => kernel_rfl) HD5.out ?_
          refine s_take 0 (by as_aux_lemma => kernel_rfl) (by as_aux_lemma => kernel_rfl) (by as_aux_lemma => kernel_rfl) (by as_aux_lemma => kernel_rfl) HD5.out (fun oi ho => ?_)
          simp only [List.getElem?_toArray, List.getElem?_cons_succ, List.getElem?_cons_zero, Option.some.injEq] at ho
          subst ho
          refine ⟨?_, Or.inl ⟨by rfl, fun w _ => ?_⟩, ?_⟩
          rotate_left
          · (go_simp <;> with_reducible rfl)
          try simp only [Act.put, List.setIfInBounds_toArray, List.set_cons_zero, List.set_cons_succ]
          refine s_take 1 (by as_aux_lemma => kernel_rfl) (by as_aux_lemma => kernel_rfl) (by as_aux_lemma => kernel_rfl) (by as_aux_lemma => kernel_rfl) HD5.out (fun oi ho => ?_)
          simp only [List.getElem?_toArray, List.getElem?_cons_succ, List.getElem?_cons_zero, Option.some.injEq] at ho
          subst ho
          refine ⟨?_, Or.inl ⟨by rfl, fun w _ => ?_⟩, ?_⟩
          rotate_left
          · (go_simp <;> with_reducible rfl)
          try simp only [Act.put, List.setIfInBounds_toArray, List.set_cons_zero, List.set_cons_succ]
          refine s_take 2 (by as_aux_lemma => kernel_rfl) (by as_aux_lemma => kernel_rfl) (by as_aux_lemma => kernel_rfl) (by as_aux_lemma => kernel_rfl) HD5.out (fun oi ho => ?_)
          simp only [List.getElem?_toArray, List.getElem?_cons_succ, List.getElem?_cons_zero, Option.some.injEq] at ho
          subst ho
          refine ⟨?_, Or.inl ⟨by rfl, fun w _ => ?_⟩, ?_⟩
          rotate_left
          · (go_simp <;> with_reducible rfl)
          try simp only [Act.put, List.setIfInBounds_toArray, List.set_cons_zero, List.set_cons_succ]
          refine s_take 3 (by as_aux_lemma => kernel_rfl) (by as_aux_lemma => kernel_rfl) (by as_aux_lemma => kernel_rfl) (by as_aux_lemma => kernel_rfl) HD5.out (fun oi ho => ?_)
          simp only [List.getElem?_toArray, List.getElem?_cons_succ, List.getElem?_cons_zero, Option.some.injEq] at ho
          subst ho
          refine ⟨?_, Or.inl ⟨by rfl, fun w _ => ?_⟩, ?_⟩
          rotate_left
          · (go_simp <;> with_reducible rfl)
          try simp only [Act.put, List.setIfInBounds_toArray, List.set_cons_zero, List.set_cons_succ]
          refine s_take 4 (by as_aux_lemma => kernel_rfl) (by as_aux_lemma => kernel_rfl) (by as_aux_lemma => kernel_rfl) (by as_aux_lemma => kernel_rfl) HD5.out (fun oi ho => ?_)
          simp only [List.getElem?_toArray, List.getElem?_cons_succ, List.getElem?_cons_zero, Option.some.injEq] at ho
          subst ho
          refine ⟨.slice pt Mt ct, Or.inl ⟨by rfl, fun w' hS' => ?_⟩, ?_⟩
          · have z := (hS'.cell (p := ⟨tb, 0, none⟩) (blt k0)).trans k0
            clear k0 k2
            (go_simp <;> with_reducible rfl)
          try simp only [Act.put, List.setIfInBounds_toArray, List.set_cons_zero, List.set_cons_succ]
          refine s_take 5 (by as_aux_lemma => kernel_rfl) (by as_aux_lemma => kernel_rfl) (by as_aux_lemma => kernel_rfl) (by as_aux_lemma => kernel_rfl) HD5.out (fun oi ho => ?_)
          simp only [List.getElem?_toArray, List.getElem?_cons_succ, List.getElem?_cons_zero, Option.some.injEq] at ho
          subst ho
          refine ⟨?_, Or.inl ⟨by rfl, fun w _ => ?_⟩, ?_⟩
          rotate_left
          · (go_simp <;> with_reducible rfl)
          try simp only [Act.put, List.setIfInBounds_toArray, List.set_cons_zero, List.set_cons_succ]
          refine s_take 6 (by as_aux_lemma => kernel_rfl) (by as_aux_lemma => kernel_rfl) (by as_aux_lemma => kernel_rfl) (by as_aux_lemma => kernel_rfl) HD5.out (fun oi ho => ?_)
          simp only [List.getElem?_toArray, List.getElem?_cons_succ, List.getElem?_cons_zero, Option.some.injEq] at ho
          subst ho
          refine ⟨?_, Or.inl ⟨by rfl, fun w _ => ?_⟩, ?_⟩
          rotate_left
          · (go_simp <;> with_reducible rfl)
          try simp only [Act.put, List.setIfInBounds_toArray, List.set_cons_zero, List.set_cons_succ]
          refine s_take 7 (by as_aux_lemma => kernel_rfl) (by as_aux_lemma => kernel_rfl) (by as_aux_lemma => kernel_rfl) (by as_aux_lemma => kernel_rfl) HD5.out (fun oi ho => ?_)
          simp only [List.getElem?_toArray, List.getElem?_cons_succ, List.getElem?_cons_zero, Option.some.injEq] at ho
          subst ho
          refine ⟨?_, Or.inl ⟨by rfl, fun w _ => ?_⟩, ?_⟩
          rotate_left
          · (go_simp <;> with_reducible rfl)
          try simp only [Act.put, List.setIfInBounds_toArray, List.set_cons_zero, List.set_cons_succ]
          refine s_take 8 (by as_aux_lemma => kernel_rfl) (by as_aux_lemma => kernel_rfl) (by as_aux_lemma => kernel_rfl) (by as_aux_lemma => kernel_rfl) HD5.out (fun oi ho => ?_)
          simp only [List.getElem?_toArray, List.getElem?_cons_succ, List.getElem?_cons_zero, Option.some.injEq] at ho
          subst ho
          refine ⟨?_, Or.inl ⟨by rfl, fun w _ => ?_⟩, ?_⟩
          rotate_left
          · (go_simp <;> with_reducible rfl)
          try simp only [Act.put, List.setIfInBounds_toArray, List.set_cons_zero, List.set_cons_succ]
          refine s_take 9 (by as_aux_lemma => kernel_rfl) (by as_aux_lemma => kernel_rfl) (by as_aux_lemma => kernel_rfl) (by as_aux_lemma => kernel_rfl) HD5.out (fun oi ho => ?_)
          simp only [List.getElem?_toArray, List.getElem?_cons_succ, List.getElem?_cons_zero, Option.some.injEq] at ho
          subst ho
          refine ⟨.int .i64 gn, Or.inl ⟨by rfl, fun w' hS' => ?_⟩, ?_⟩
          · have z := (hS'.cell (p := ⟨tb, 2, none⟩) (blt k2)).trans k2
            clear k0 k2
            (go_simp <;> with_reducible rfl)
          try simp only [Act.put, List.setIfInBounds_toArray, List.set_cons_zero, List.set_cons_succ]
          refine s_take 10 (by as_aux_lemma => kernel_rfl) (by as_aux_lemma => kernel_rfl) (by as_aux_lemma => kernel_rfl) (by as_aux_lemma => kernel_rfl) HD5.out (fun oi ho => ?_)
          simp only [List.getElem?_toArray, List.getElem?_cons_succ, List.getElem?_cons_zero, Option.some.injEq] at ho
          subst ho
          refine ⟨.bool false, Or.inl ⟨by rfl, fun w' hS' => ?_⟩, ?_⟩
          · clear k0 k2
            (go_simp <;> first | with_reducible rfl | simp [hfull])
          try simp only [Act.put, List.setIfInBounds_toArray, List.set_cons_zero, List.set_cons_succ]
          refine s_done (by as_aux_lemma => kernel_rfl) ?_
          skip
          clear k0 k2
          have HB6d := Lib.hid (show Below wo.heap.size wo w5.drew from below_more HB5.out HD5.out HB5.out.size)
          obtain ⟨v1, hv1⟩ : ∃ x, (Value.slice pt Mt ct) = x := ⟨_, rfl⟩
          obtain ⟨m1, hm1⟩ : ∃ x, m = x := ⟨_, rfl⟩
          have HN := Lib.hid (show PutN w base tb gn cn v gs ⟨hS, hF, hI, hN, hD, rows⟩ (.slice pv M cv) (.slice pb n c) l m1 (.slice po m co) v1 w5.drew from by
            subst hv1 hm1
            refine ⟨HTo.out.below HB6d.out, HPL.out.le, by have := HNN.out; dsimp only; rw [HFD.out]; omega, fun m' hm' => .inl (by have := HPL.out.min m' hm'; dsimp only; rw [← HNN.out]; exact this), ownsRow_keptS (ownsRow_weaken HPL.out.outs (by omega)) (Kept.below HB6d.out) (fun _ _ h => h), fun g hg => GrpAt.below (HPL.out.all g hg) HB6d.out, HPL.out.far, HKW.out.trans (Kept.below HB6d.out) (fun _ _ h => h.elim), HPL.out.own, HBXo.out.below HB6d.out, HBY.out.below HB6d.out, HVH.out.below HB6d.out, HNEW.out, by dsimp only; rw [HMT.out]; have := HCN.out; omega, ⟨htw, HOW.out⟩⟩)
          clear hfull hv1 hm1
          have hbx := HN.out.box
          have y0 := hbx.c0
          have y1 := hbx.c1
          have y2 := hbx.c2
          have y3 := hbx.c3
          have y4 := hbx.c4
          have y5 := hbx.c5
          dsimp only at y0 y1 y2 y3 y4
          clear hbx
          go_wp2_with fail
          refine (gnew_ok _ ⟨hS, hF, hI, hN, hD, rows⟩ (.slice pv M cv) HN.out.tabv HOK.out).mono ?_
          rintro e w6 ⟨b, bm, vr, rfl, hG, hB6⟩
          have HG6 := Lib.hid hG
          have HB6 := Lib.hid hB6
          clear y0 y1 y2 y3 y4 y5
          clear hG hB6
          have hbx := HN.out.box.below HB6.out
          have y0 := hbx.c0
          have y1 := hbx.c1
          have y2 := hbx.c2
          have y3 := hbx.c3
          have y4 := hbx.c4
          have y5 := hbx.c5
          dsimp only at y0 y1 y2 y3 y4
          clear hbx
          have HNRR := Lib.hid (show ∀ k, w.heap.size ≤ k → ¬ RowS tb v1 k from fun k hk hs => by
            rcases hs with e | e
            · have := HN.out.tbl.1
              omega
            · have := HN.out.tbl.2 k (by rw [← HN.out.own]; exact e)
              omega)
          have HR6 := Lib.hid (HN.out.tab.row.below HB6.out)
          have hK6 : Kept (RowS tb v1) w6 w6.drew := (Kept.refl _ w6).drew
          have HK6 := Lib.hid hK6
          have hclen : (cutsO hF gs m1).length < 1000 := by have h1 := HN.out.room; have h2 := HP.out.few; dsimp only at h1; omega
          have HIN := Lib.hid (insert_any (HR6.out.keptS ((Kept.refl (fun _ => False) w6).drew) (fun h => h) (fun _ _ h => h)) (b, hF, hD) (by rw [List.length_map]; exact hclen) (by have h1 := HHB.out.1; have h2 := HN.out.kept.size; have h3 := HB6.out.size; show base ≤ w6.heap.size; omega) (srt_mono (HP.out.sub (cutsO_sub hF gs m1)).srt (b, hF, hD)))
          dsimp only at HIN
          clear hK6 hclen
          go_wp2_with fail
          refine s_start 10 (fun W => Kept (RowS tb v1) w6 W) (by as_aux_lemma => kernel_rfl) (by as_aux_lemma => kernel_rfl) HK6.out ?_
          refine s_take 0 (by as_aux_lemma => kernel_rfl) (by as_aux_lemma => kernel_rfl) (by as_aux_lemma => kernel_rfl) (by as_aux_lemma => kernel_rfl) HK6.out (fun oi ho => ?_)
          simp only [List.getElem?_toArray, List.getElem?_cons_succ, List.getElem?_cons_zero, Option.some.injEq] at ho
          subst ho
          refine ⟨?_, Or.inl ⟨by rfl, fun w _ => ?_⟩, ?_⟩
          rotate_left
          · (go_simp <;> with_reducible rfl)
          try simp only [Act.put, List.setIfInBounds_toArray, List.set_cons_zero, List.set_cons_succ]
          refine s_take 1 (by as_aux_lemma => kernel_rfl) (by as_aux_lemma => kernel_rfl) (by as_aux_lemma => kernel_rfl) (by as_aux_lemma => kernel_rfl) HK6.out (fun oi ho => ?_)
          simp only [List.getElem?_toArray, List.getElem?_cons_succ, List.getElem?_cons_zero, Option.some.injEq] at ho
          subst ho
          refine ⟨?_, Or.inl ⟨by rfl, fun w _ => ?_⟩, ?_⟩
          rotate_left
          · (go_simp <;> with_reducible rfl)
          try simp only [Act.put, List.setIfInBounds_toArray, List.set_cons_zero, List.set_cons_succ]
          refine s_take 2 (by as_aux_lemma => kernel_rfl) (by as_aux_lemma => kernel_rfl) (by as_aux_lemma => kernel_rfl) (by as_aux_lemma => kernel_rfl) HK6.out (fun oi ho => ?_)
          simp only [List.getElem?_toArray, List.getElem?_cons_succ, List.getElem?_cons_zero, Option.some.injEq] at ho
          subst ho
          refine ⟨?_, Or.inl ⟨by rfl, fun w _ => ?_⟩, ?_⟩
          rotate_left
          · (go_simp <;> with_reducible rfl)
          try simp only [Act.put, List.setIfInBounds_toArray, List.set_cons_zero, List.set_cons_succ]
          refine s_take 3 (by as_aux_lemma => kernel_rfl) (by as_aux_lemma => kernel_rfl) (by as_aux_lemma => kernel_rfl) (by as_aux_lemma => kernel_rfl) HK6.out (fun oi ho => ?_)
          simp only [List.getElem?_toArray, List.getElem?_cons_succ, List.getElem?_cons_zero, Option.some.injEq] at ho
          subst ho
          refine ⟨?_, Or.inl ⟨by rfl, fun w _ => ?_⟩, ?_⟩
          rotate_left
          · (go_simp <;> with_reducible rfl)
          try simp only [Act.put, List.setIfInBounds_toArray, List.set_cons_zero, List.set_cons_succ]
          refine s_take 4 (by as_aux_lemma => kernel_rfl) (by as_aux_lemma => kernel_rfl) (by as_aux_lemma => kernel_rfl) (by as_aux_lemma => kernel_rfl) HK6.out (fun oi ho => ?_)
          simp only [List.getElem?_toArray, List.getElem?_cons_succ, List.getElem?_cons_zero, Option.some.injEq] at ho
          subst ho
          refine ⟨?_, Or.inl ⟨by rfl, fun w _ => ?_⟩, ?_⟩
          rotate_left
          · (go_simp <;> with_reducible rfl)
          try simp only [Act.put, List.setIfInBounds_toArray, List.set_cons_zero, List.set_cons_succ]
          refine s_take 5 (by as_aux_lemma => kernel_rfl) (by as_aux_lemma => kernel_rfl) (by as_aux_lemma => kernel_rfl) (by as_aux_lemma => kernel_rfl) HK6.out (fun oi ho => ?_)
          simp only [List.getElem?_toArray, List.getElem?_cons_succ, List.getElem?_cons_zero, Option.some.injEq] at ho
          subst ho
          refine ⟨.int .i64 hF, Or.inl ⟨by rfl, fun w' hS' => ?_⟩, ?_⟩
          · have z := (hS'.cell (p := ⟨w.heap.size, 1, none⟩) (blt y1) (HNRR.out _ (Nat.le_refl _))).trans y1
            clear y0 y1 y2 y3 y4 y5
            (go_simp <;> with_reducible rfl)
          try simp only [Act.put, List.setIfInBounds_toArray, List.set_cons_zero, List.set_cons_succ]
          refine s_take 6 (by as_aux_lemma => kernel_rfl) (by as_aux_lemma => kernel_rfl) (by as_aux_lemma => kernel_rfl) (by as_aux_lemma => kernel_rfl) HK6.out (fun oi ho => ?_)
          simp only [List.getElem?_toArray, List.getElem?_cons_succ, List.getElem?_cons_zero, Option.some.injEq] at ho
          subst ho
          refine ⟨?_, Or.inl ⟨by rfl, fun w _ => ?_⟩, ?_⟩
          rotate_left
          · (go_simp <;> with_reducible rfl)
          try simp only [Act.put, List.setIfInBounds_toArray, List.set_cons_zero, List.set_cons_succ]
          refine s_take 7 (by as_aux_lemma => kernel_rfl) (by as_aux_lemma => kernel_rfl) (by as_aux_lemma => kernel_rfl) (by as_aux_lemma => kernel_rfl) HK6.out (fun oi ho => ?_)
          simp only [List.getElem?_toArray, List.getElem?_cons_succ, List.getElem?_cons_zero, Option.some.injEq] at ho
          subst ho
          refine ⟨.int .i64 hD, Or.inl ⟨by rfl, fun w' hS' => ?_⟩, ?_⟩
          · have z := (hS'.cell (p := ⟨w.heap.size, 4, none⟩) (blt y4) (HNRR.out _ (Nat.le_refl _))).trans y4
            clear y0 y1 y2 y3 y4 y5
            (go_simp <;> with_reducible rfl)
          try simp only [Act.put, List.setIfInBounds_toArray, List.set_cons_zero, List.set_cons_succ]
          refine s_take 8 (by as_aux_lemma => kernel_rfl) (by as_aux_lemma => kernel_rfl) (by as_aux_lemma => kernel_rfl) (by as_aux_lemma => kernel_rfl) HK6.out (fun oi ho => ?_)
          simp only [List.getElem?_toArray, List.getElem?_cons_succ, List.getElem?_cons_zero, Option.some.injEq] at ho
          subst ho
          refine ⟨?_, Or.inl ⟨by rfl, fun w _ => ?_⟩, ?_⟩
          rotate_left
          · (go_simp <;> with_reducible rfl)
          try simp only [Act.put, List.setIfInBounds_toArray, List.set_cons_zero, List.set_cons_succ]
          refine s_all (rs := [9]) (by as_aux_lemma => kernel_rfl) (by simp) ?_
          refine s_step 9 (by as_aux_lemma => kernel_rfl) (fun o ho K hK => ?_) AllReadyH.nil
          simp only [List.getElem?_toArray, List.getElem?_cons_succ, List.getElem?_cons_zero, Option.some.injEq] at ho
          subst ho
          go_simp
          refine HIN.out.mono ?_
          rintro e w7 ⟨v2, k, rfl, hkl, hka, hkb, hr7, hk7, ho7⟩
          have HAB := Lib.hid (And.intro hkl (And.intro hka hkb))
          have HR7 := Lib.hid hr7
          have HO7 := Lib.hid ho7
          have HK7 := Lib.hid (show Kept (RowS tb v1) w6 w7 from HK6.out.trans hk7 (fun _ _ h => h))
          clear y0 y1 y2 y3 y4 y5
          clear hkl hka hkb hr7 hk7 ho7
          go_wp2_with fail
          refine hK.out _ _ HK7.out ?_
          clear hK K
          try simp only [Act.put, List.setIfInBounds_toArray, List.set_cons_zero, List.set_cons_succ]
          refine s_done (by as_aux_lemma => kernel_rfl) ?_
          skip

          have HNW := Lib.hid (fun k (h : w.heap.size ≤ k) => HNRR.out k h)
          have hgl := HG6.out.lo
          have hwW : w.heap.size ≤ w5.drew.heap.size := HN.out.kept.size
          have HVL := Lib.hid (show ∀ k, vr.ownBlock = some k → w5.drew.heap.size ≤ k ∧ k < w6.heap.size from fun k e => ⟨HG6.out.lo.2.2 k e, by obtain ⟨u, o, h1⟩ := GrpAt.vlt HG6.out k e; exact blt h1⟩)
          have HG7 := Lib.hid (GrpAt.keptT HG6.out HK7.out (fun k _ hs => .inl (rowS_cells HR6.out k hs)) (fun k e hs => HNRR.out k (by have := (HVL.out k e).1; omega) hs))
          have hbx := (show HeadBox w7 w.heap.size ⟨hS, hF, hI, hN, hD, rows⟩ (.slice pv M cv) from zk2 (HN.out.box.below HB6.out) HK7.out (HNRR.out _ (Nat.le_refl _)))
          have y0 := hbx.c0
          have y1 := hbx.c1
          have y2 := hbx.c2
          have y3 := hbx.c3
          have y4 := hbx.c4
          have y5 := hbx.c5
          dsimp only at y0 y1 y2 y3 y4
          clear hbx
          have hTK := gtake_any HG7.out (by have := HB6.out.size; have := HK7.out.size; omega) ⟨hS, hF, hI, hN, hD, rows⟩ (.slice pv M cv) (.slice pb n c) l ((HN.out.tabv.below HB6.out).keptB HK7.out (fun k e hs => HVB.out k (by rw [hM]; exact e) (.inl ((rowS_own HN.out.own k).1 hs)))) ((HN.out.byt.below HB6.out).kept0 HK7.out (fun h0 k e hs => HLB.out h0 k e (.inl ((rowS_own HN.out.own k).1 hs)))) HOK.out ⟨rfl, rfl, rfl, rfl, rfl⟩ (by have h1 : n = atT rows rows.length := HNL.out; have h2 := HNN.out; show l.length = atT rows rows.length; omega) (by simp)
          rw [if_neg (by simp), if_neg (by simp)] at hTK
          have HTK := Lib.hid hTK
          clear hTK hgl
          go_wp2_with fail
          refine HTK.out.mono ?_
          rintro e w8 ⟨V', rfl, hG8, hk8⟩
          have HG8 := Lib.hid hG8
          have HK8 := Lib.hid hk8
          clear y0 y1 y2 y3 y4 y5
          clear hG8 hk8
          go_wp2
          go_ret2
          have hBW : w.heap.size ≤ bm := Nat.le_trans hwW HG6.out.lo.2.1
          have hbm6 : bm < w6.heap.size := HG6.out.map.lt
          have hmap7 : MapI w7 bm _ := HG7.out.map
          have HPUT := TabS.put (h := ⟨hS, hF, hI, hN, hD, rows⟩) HN.out.tab (by have := HHB.out.1; omega) HB6.out HR7.out HK7.out (HO7.out.imp id (fun ⟨g, h1, h2⟩ => ⟨g, h1, h2⟩)) HVL.out HG6.out.lo.2.1 ⟨_, hmap7⟩ HG8.out HK8.out
          have hnm : ∀ g ∈ gs, g.bm ≠ bm := fun g hg e => by
            have h1 := (HN.out.all g hg).map.lt
            have h2 := HG6.out.lo.2.1
            omega
          refine ⟨_, v2, _, (othersG hF gs).take m1, m1, rfl, HPUT, ⟨HN.out.le, rfl, HN.out.fits, HN.out.least, .inr ⟨HN.out.new, HN.out.room, k, ⟨b, bm, vr, ⟨hS, hF, hI, hN, hD, rows⟩, [(hI, l)], V'⟩, by have h1 := HAB.out.1; rw [List.length_map] at h1; exact h1, HAB.out.2.1, fun j h1 h2 => HAB.out.2.2 j h1 (by rw [List.length_map]; exact h2), rfl, rfl, rfl⟩⟩, ?_, fun g hg => ?_, ?_, vrs_new (fun k e => Nat.le_trans hwW (HVL.out k e).1)⟩
          · have hlen : ((othersG hF gs).take m1).length = m1 := by rw [List.length_take]; exact Nat.min_eq_left HN.out.le
            unfold OutsAt
            rw [hlen]
            have hu7 := ownsRow_keptS (ownsRow_keptS HN.out.outs (Kept.below HB6.out) (fun _ _ h => h)) HK7.out (fun k e => HNRR.out k (HN.out.outs.lt k e).1)
            refine ownsRow_keptS hu7 HK8.out (fun k e e2 => ?_)
            obtain ⟨_, C, h1⟩ := own_cells hu7 k e
            obtain ⟨mm, cc, h2⟩ := hmap7.heap
            rw [e2] at h1
            rw [h2] at h1
            cases h1
          · have h1 := List.mem_of_mem_take hg
            simp only [othersG, List.mem_filter, decide_eq_true_eq] at h1
            exact GDAt.mapK (w := w7) (GDAt.row (GrpAt.below (HN.out.all g h1.1) HB6.out) HR6.out HK7.out (fun k e hs => HN.out.far g h1.1 k e ((rowS_own HN.out.own k).1 hs))) hmap7 (hnm g h1.1) HK8.out
          · exact ((HN.out.kept.trans (Kept.below HB6.out) (fun _ _ h => h.elim)).trans HK7.out (fun i _ e => .inl ((rowS_own HN.out.own i).1 e))).trans HK8.out (fun i hi e => by omega)
theorem put_ok (ht : TabS w base tb gn cn v gs) (hp : TabP gn cn gs) (hb : base ≤ w.heap.size) (h : HeadV) (vh : Value) (hv : TableAt w vh h.rows) (pb : Option Addr) (n c : Nat) (l : List B) (hl : BytesAt w (.slice pb n c) l) (hn : n ≤ 140737488355328) (he : refE gs h n cn = 0) (hlb : 0 < n → ∀ k, (Value.slice pb n c).ownBlock = some k → ¬ PutS tb v gs k) (hvb : ∀ k, vh.ownBlock = some k → ¬ PutS tb v gs k) :
    Calls Try.prog 12 #[.pointer (some ⟨tb, 0, none⟩), headVal h vh, .slice pb n c] w fun e w' => ∃ vo v' gs' outs m, e = .returned (.tuple #[vo, .int .i64 0]) ∧ TabS w' base tb gn cn v' gs' ∧ PutR gs h l gn cn gs' outs m ∧ OutsAt w' w.heap.size vo outs ∧ (∀ g ∈ outs, GDAt w' base g) ∧ Kept (PutS tb v gs) w w' :=
  (put_full ht hp hb h vh hv pb n c l hl hn he hlb hvb).mono fun e w' ⟨vo, v', gs', outs, m, h1, h2, h3, h4, h5, h6, _⟩ => ⟨vo, v', gs', outs, m, h1, h2, h3, h4, h5, h6⟩
end
end -- TbM

section -- TbN
open Go.RowKit Go.Maps
set_option linter.unusedVariables false

section
variable {F : Fence} {n : Nat} {P : Program}
/-- How a round may be left. -/
def postW {α : Type} (B : Nat) (Z : List α → World → Prop) (Xs : Code → List α → World → Prop) (xs : List α) (W : World) : Exit → Act → World → Prop
  | .normal, _, W' => KeepsFrom B W W' ∧ Z xs W'
  | .ret, _, W' => KeepsFrom B W W' ∧ Xs .ret xs W'
  | .exit id, _, W' => KeepsFrom B W W' ∧ Xs (.exit id) xs W'
  | .goto t, _, W' => KeepsFrom B W W' ∧ Xs (.goto t) xs W'
  | .panic _, _, _ => False
  | .outgrown, _, _ => False
/-- What speaks of no cells from B on stays where they stay. -/
def Apart (B : Nat) (L : World → Prop) : Prop := ∀ A C, L A → KeepsFrom B A C → L C
theorem keepsFrom_put {B k : Nat} {W : World} {o o' : Obj} (hk : W.heap[k]? = some o) : ∀ j (q : Obj), B ≤ j → W.heap[j]? = some q → j ≠ k → (W.putObj k o').heap[j]? = some q := fun j q _ hj hne => (World.putObj_heap_other hne).trans hj

theorem wpIn_rangeFunc_w {α : Type} {g : Operand} {ps : Array Tmp} {assign body : Code} {Q : Exit → Act → World → Prop} {a : Act} {w : World}
    (hro : F.round = none) (h1 : 1 ≤ n) {gf : Nat} {lb : Array Value} (hg : a.eval g = .func (.func gf) #[] lb) (hFg : F.fn gf) (eg : ∀ args w, (callFunc gf args).run P w = .ok (.enter gf args) w)
    {encs : α → Array Value} (Z : List α → World → Prop) (Y : List α → α → World → Prop) (Y1 : List α → α → Act → World → Prop) (Dn : List α → World → Prop) (Xs : Code → List α → World → Prop)
    (hZ : OwnFrom w.heap.size Z) (hY1 : ∀ x a', OwnFrom w.heap.size (fun pre => Y1 pre x a')) (hDn : OwnFrom w.heap.size Dn) (hXs : ∀ c, OwnFrom w.heap.size (Xs c))
    (hps : ∀ x, (encs x).size = ps.size) (h0 : Z [] w)
    (hiter : ∀ (l : Nat) (L : World → Prop) (Lx : Code → World → Prop) (W : World), Below w.heap.size w W → Apart w.heap.size L → (∀ c, Apart w.heap.size (Lx c)) → Z [] W → L W →
      (∀ pre x W1, Y pre x W1 → L W1 → YieldAt F (n - 1 - 1) P l (encs x) W1 fun e W' =>
        (e = .returned (.bool true) ∧ Z (pre ++ [x]) W' ∧ L W') ∨ (e = .returned (.bool false) ∧ ∃ c, Xs c (pre ++ [x]) W' ∧ Lx c W')) →
      CallsIn F (n - 1) P gf (#[.func (.yield l) #[] #[]] ++ lb) W fun e W' => (∃ v, e = .returned v) ∧ ((∃ xs, Dn xs W' ∧ L W') ∨ (∃ c pre, Xs c pre W' ∧ Lx c W')))
    (hassign : ∀ (l : Nat) (pre : List α) (x : α) (W : World) (K : Act → World → Prop), Y pre x W → (∀ a' W', KeepsFrom w.heap.size W W' → Y1 pre x a' W' → K a' W') →
      assign.wpIn (F.inRound l) (n - 1 - 1) P (Exit.then K (fun _ _ _ => False)) { tmps := (ps.zip (encs x)).foldl (fun t (p, v) => t.setIfInBounds p v) a.tmps, defers := [] } W)
    (hbody : ∀ (l : Nat) (pre : List α) (x : α) (a' : Act) (W : World), Y1 pre x a' W → body.wpIn (F.inRound l) (n - 1 - 1) P (postW w.heap.size Z Xs (pre ++ [x]) W) a' W)
    (hdone : ∀ (D : Nat) (xs : List α) (W : World), w.heap.size ≤ D → Dn xs W → W.heap[D]? = some (.deferred (some [])) → Q .normal { a with defers := { target := .collected D, args := #[] } :: a.defers } W)
    (hstop : ∀ (D : Nat) (c : Code) (pre : List α) (W : World), w.heap.size ≤ D → Xs c pre W → W.heap[D]? = some (.deferred (some [])) → c.wpIn F n P Q { a with defers := { target := .collected D, args := #[] } :: a.defers } W) :
    (Code.rangeFunc g ps assign body).wpIn F n P Q a w := by
  refine wpIn_rangeFunc fun fn hfn => ?_
  rw [hro]
  -- the loop's record, its two blocks
  let rd (st : LoopState) (pe : Option Code) : Obj := .loop { state := st, pending := pe, fn, tmps := a.tmps, params := ps, assign, body, defers := w.heap.size }
  let fin (o : Obj) (W : World) : Prop := W.heap[w.heap.size + 1]? = some o ∧ W.heap[w.heap.size]? = some (.deferred (some []))
  have keep : ∀ o, o.isCells = false → Apart w.heap.size (fin o) := fun o ho A C hA hk => ⟨hk.same _ _ (by omega) hA.1 ho, hk.same _ _ (Nat.le_refl _) hA.2 rfl⟩
  obtain ⟨V, hV⟩ : ∃ V, (w.alloc (.deferred (some []))).alloc (rd .ready none) = V := ⟨_, rfl⟩
  have hV1 : fin (rd .ready none) V := by
    rw [← hV]
    refine ⟨?_, (Below.heap_alloc _ _ _ (by simp)).trans (World.alloc_heap_new w _)⟩
    have := World.alloc_heap_new (w.alloc (.deferred (some []))) (rd .ready none)
    rwa [World.size_alloc] at this
  have hVB : Below w.heap.size w V := by
    rw [← hV]
    exact ((Below.refl _ w).alloc (Nat.le_refl _) _).alloc (by simp) _
  have hVZ : Z [] V := by
    rw [← hV]
    exact hZ.alloc _ (hZ.alloc _ h0)
  have other : ∀ {o o' : Obj} {W : World}, fin o W → fin o' (W.putObj (w.heap.size + 1) o') := fun {o o' W} h => ⟨World.putObj_heap_same (Array.getElem?_eq_some_iff.1 h.1).1, (World.putObj_heap_other (by omega)).trans h.2⟩
  refine ⟨w.heap.size + 1, [{ target := .collected w.heap.size, args := #[] }], V, { target := .fn (.func gf) lb, args := #[.func (.yield (w.heap.size + 1)) #[] #[]] }, V, gf, #[.func (.yield (w.heap.size + 1)) #[] #[]] ++ lb, V, ?_, ?_, ?_, ?_, fun _ => h1, ?_⟩
  · rw [← hV]
    exact run_enterLoop_outer _ _ _ _ _
  · simp only [resolve, hg]
    simp [go_sem]
  · intro f' hf'
    simp [Target.leads] at hf'
    subst hf'
    exact hFg
  · simp [invoke, go_sem, eg]
  refine (hiter (w.heap.size + 1) (fin (rd .ready none)) (fun c => fin (rd .done (some c))) V hVB (keep _ rfl) (fun c => keep _ rfl) hVZ hV1 ?_).mono ?_
  · intro pre x W hYx hL
    refine ⟨fn, _, assign, body, run_yield hL.1 (hps x), roundIn_of_wpIn hfn (hassign _ pre x W _ hYx fun a' W' hk hY1x => ?_)⟩
    have hL' := keep _ rfl _ _ hL hk
    refine ⟨_, run_beginRound hL'.1 rfl, ?_⟩
    have hb : fin (rd .busy none) (W'.putObj (w.heap.size + 1) (rd .busy none)) := other hL'
    refine wpIn_mono (hbody _ pre x a' _ (OwnFrom.putObj (I := fun p => Y1 p x a') (hY1 x a') _ hY1x (by omega) hL'.1 rfl)) ?_
    rintro e a3 W3 hp
    cases e with
    | normal =>
      have h3 := keep _ rfl _ _ hb hp.1
      exact ⟨_, _, run_endRound none h3.1, .inl ⟨rfl, hZ.putObj _ hp.2 (by omega) h3.1 rfl, other h3⟩⟩
    | ret =>
      have h3 := keep _ rfl _ _ hb hp.1
      exact ⟨_, _, run_endRound (some .ret) h3.1, .inr ⟨rfl, .ret, (hXs _).putObj _ hp.2 (by omega) h3.1 rfl, other h3⟩⟩
    | exit id =>
      have h3 := keep _ rfl _ _ hb hp.1
      exact ⟨_, _, run_endRound (some (.exit id)) h3.1, .inr ⟨rfl, .exit id, (hXs _).putObj _ hp.2 (by omega) h3.1 rfl, other h3⟩⟩
    | goto t =>
      have h3 := keep _ rfl _ _ hb hp.1
      exact ⟨_, _, run_endRound (some (.goto t)) h3.1, .inr ⟨rfl, .goto t, (hXs _).putObj _ hp.2 (by omega) h3.1 rfl, other h3⟩⟩
    | panic ch => exact hp.elim
    | outgrown => exact hp.elim
  · rintro e W2 ⟨⟨v, rfl⟩, ⟨xs, hD, hL⟩ | ⟨c, pre, hX, hL⟩⟩
    · exact ⟨none, _, run_endLoop hL.1 (by simp), hdone _ xs _ (Nat.le_refl _) (hDn.putObj _ hD (by omega) hL.1 rfl) ((World.putObj_heap_other (by omega)).trans hL.2)⟩
    · exact ⟨some c, _, run_endLoop hL.1 (by simp), hstop _ c pre _ (Nat.le_refl _) ((hXs c).putObj _ hX (by omega) hL.1 rfl) ((World.putObj_heap_other (by omega)).trans hL.2)⟩
end
end -- TbN

end Go.Proofs.Ytibelpamolcmcaa
