/-
  TcK: Layer 18: the headers that the law keeps, held against the table's groups.
  TcL: Layer 18: a table, and the headers that are kept beside it.
  CodeUa: What the laws of layer 5 use: SameBytes, SameRows (of what is the same), size, bytesOf.
-/
import Derived.Test.YtibelpamolcmcaaMxbk
import Derived.Test.YtibelpamolcmcaaMxal
namespace Go.Proofs.Ytibelpamolcmcaa

section -- TcK
set_option linter.unusedVariables false
set_option linter.unusedSimpArgs false
set_option maxHeartbeats 1000000

theorem nod_eq : ∀ {gs : List GD}, (framesG gs).Nodup → ∀ g ∈ gs, ∀ g' ∈ gs, g.H.frame = g'.H.frame → g = g'
  | [], _, _, h, _, _, _ => by cases h
  | x :: r, hn, g, hg, g', hg', e => by
    have hn' : (x.H.frame :: framesG r).Nodup := hn
    rw [List.nodup_cons] at hn'
    have hm : ∀ y ∈ r, y.H.frame ∈ framesG r := fun y hy => List.mem_map.2 ⟨y, hy, rfl⟩
    rcases List.mem_cons.1 hg with rfl | h1
    · rcases List.mem_cons.1 hg' with rfl | h2
      · rfl
      · exact absurd (e ▸ hm _ h2) hn'.1
    · rcases List.mem_cons.1 hg' with rfl | h2
      · exact absurd (e ▸ hm _ h1) hn'.1
      · exact nod_eq hn'.2 g h1 g' h2 e
theorem mem_frames {gs : List GD} {g : GD} (h : g ∈ gs) : g.H.frame ∈ framesG gs := List.mem_map.2 ⟨g, h, rfl⟩
theorem frames_mem {gs : List GD} {f : Int} (h : f ∈ framesG gs) : ∃ g ∈ gs, g.H.frame = f := List.mem_map.1 h

/-- Each header kept is of a group that holds its index; of each group, as many are kept as it holds. -/
structure HoldP (gs : List GD) (L : List (HeadV × Value)) : Prop where
  is_ : ∀ p ∈ L, ∃ g ∈ gs, g.H.frame = p.1.frame ∧ LikeH p.1 g.H ∧ p.1.index ∈ g.hs.map (·.1)
  cnt : ∀ g ∈ gs, (L.filter fun p => decide (p.1.frame = g.H.frame)).length = g.hs.length
theorem HoldP.nil : HoldP [] [] := ⟨fun p h => (by cases h), fun g h => (by cases h)⟩
theorem keep_count {gs : List GD} {L : List (HeadV × Value)} {f : Int} (hf : f ∈ framesG gs) : (keepH gs L).filter (fun p => decide (p.1.frame = f)) = L.filter fun p => decide (p.1.frame = f) := by
  unfold keepH
  rw [List.filter_filter]
  refine List.filter_congr fun p _ => ?_
  by_cases h : p.1.frame = f
  · simp [h, hf]
  · simp [h]
theorem keep_mem {gs : List GD} {L : List (HeadV × Value)} {p : HeadV × Value} : p ∈ keepH gs L ↔ p ∈ L ∧ p.1.frame ∈ framesG gs := by
  unfold keepH
  rw [List.mem_filter, decide_eq_true_iff]
theorem HoldP.sub {gs gs' : List GD} {L : List (HeadV × Value)} (h : HoldP gs L) (hn : (framesG gs).Nodup) (hs : gs'.Sublist gs) : HoldP gs' (keepH gs' L) := by
  refine ⟨fun p hp => ?_, fun g hg => ?_⟩
  · obtain ⟨h1, h2⟩ := keep_mem.1 hp
    obtain ⟨g, h3, h4, h5⟩ := h.is_ p h1
    obtain ⟨g', h6, h7⟩ := frames_mem h2
    obtain rfl := nod_eq hn g h3 g' (hs.subset h6) (h4.trans h7.symm)
    exact ⟨g, h6, h4, h5⟩
  · rw [keep_count (mem_frames hg)]
    exact h.cnt g (hs.subset hg)
theorem filter_snoc (L : List (HeadV × Value)) (x : HeadV × Value) (f : Int) : ((L ++ [x]).filter fun p => decide (p.1.frame = f)).length = (L.filter fun p => decide (p.1.frame = f)).length + if x.1.frame = f then 1 else 0 := by
  rw [List.filter_append, List.length_append]
  by_cases h : x.1.frame = f <;> simp [h]
theorem mem_set_or {α : Type} {C : List α} {p : Nat} {y g d : α} (h : g ∈ C) : g = C.getD p d ∨ g ∈ C.set p y := by
  obtain ⟨j, hj, rfl⟩ := List.mem_iff_getElem.1 h
  by_cases e : p = j
  · subst e
    exact .inl (by rw [List.getD_eq_getElem?_getD, List.getElem?_eq_getElem hj]; rfl)
  · exact .inr (List.mem_iff_getElem.2 ⟨j, by simpa using hj, by rw [List.getElem_set, if_neg e]⟩)

theorem HoldP.put {gs gs' outs : List GD} {h : HeadV} {l : List B} {gn cn : Int} {m : Nat} {L : List (HeadV × Value)} (h0 : HoldP gs L) (hn : (framesG gs).Nodup) (H : PutR gs h l gn cn gs' outs m) (he : refE gs h l.length cn = 0) (vr : Value) : HoldP gs' (keepH gs' (L ++ [(h, vr)])) := by
  have hlk := (refE_zero he).2.2
  have hsub := cutsO_sub h.frame gs m
  have hfr := H.frames
  have hnC : (framesG (cutsO h.frame gs m)).Nodup := List.Pairwise.sublist (hsub.map _) hn
  rcases H.now with ⟨V', h1, h2, hgs⟩ | ⟨h1, h2, k, g, h3, -, -, hgH, hghs, hgs⟩
  · obtain ⟨hp, hsame⟩ := own_same hn m h1
    have hlk := hlk hp
    rw [← hsame] at hlk
    have hof := posG_hit h1
    have hom : (cutsO h.frame gs m).getD (posG h.frame (cutsO h.frame gs m)) default ∈ cutsO h.frame gs m := getD_mem h1
    have hgF : framesG gs' = framesG (cutsO h.frame gs m) := by rw [hgs]; exact framesG_set h1 rfl
    generalize hC : cutsO h.frame gs m = C at *
    generalize hP : posG h.frame C = P at *
    generalize hO : C.getD P default = old at *
    obtain ⟨y, hy⟩ : ∃ y : GD, { old with hs := insH h.index l old.hs, V := V' } = y := ⟨_, rfl⟩
    rw [hy] at hgs
    have hyH : y.H = old.H := by rw [← hy]
    have hyh : y.hs = insH h.index l old.hs := by rw [← hy]
    have hym : y ∈ gs' := by
      rw [hgs]
      exact List.mem_iff_getElem.2 ⟨P, by simpa using h1, by simp⟩
    refine ⟨fun q hq => ?_, fun g' hg' => ?_⟩
    · obtain ⟨q1, q2⟩ := keep_mem.1 hq
      rcases List.mem_append.1 q1 with q3 | q3
      · obtain ⟨g0, g1, g2, g3, g4⟩ := h0.is_ q q3
        by_cases e : q.1.frame = h.frame
        · obtain rfl := nod_eq hn g0 g1 old (hsub.subset hom) (by rw [g2, e, hof])
          refine ⟨y, hym, by rw [hyH, g2], by rw [hyH]; exact g3, ?_⟩
          obtain ⟨z, z1, z2⟩ := List.mem_map.1 g4
          rw [hyh]
          exact List.mem_map.2 ⟨z, insH_mem.2 (.inr z1), z2⟩
        · rw [hgF] at q2
          obtain ⟨g5, g6, g7⟩ := frames_mem q2
          obtain rfl := nod_eq hn g0 g1 g5 (hsub.subset g6) (g2.trans g7.symm)
          refine ⟨g0, ?_, g2, g3, g4⟩
          rcases mem_set_or (p := P) (y := y) (d := default) g6 with e1 | e1
          · rw [hO] at e1
            rw [e1, hof] at g2
            exact absurd g2.symm e
          · rw [hgs]
            exact e1
      · obtain rfl := List.mem_singleton.1 q3
        refine ⟨y, hym, by rw [hyH, hof], by rw [hyH]; exact hlk.1, ?_⟩
        rw [hyh]
        exact List.mem_map.2 ⟨(h.index, l), insH_mem.2 (.inl rfl), rfl⟩
    · rw [keep_count (mem_frames hg'), filter_snoc]
      by_cases e : g'.H.frame = h.frame
      · have hn' : (framesG gs').Nodup := by rw [hgF]; exact hnC
        obtain rfl := nod_eq hn' g' hg' y hym (by rw [e, hyH, hof])
        rw [if_pos e.symm, hyh, insH_len, e]
        have h9 := h0.cnt old (hsub.subset hom)
        rw [hof] at h9
        rw [h9]
      · rw [if_neg (fun e1 => e e1.symm), Nat.add_zero]
        rw [hgs] at hg'
        rcases List.mem_or_eq_of_mem_set hg' with e1 | e1
        · exact h0.cnt g' (hsub.subset e1)
        · rw [e1, hyH, hof] at e
          exact absurd rfl e
  · generalize hC : cutsO h.frame gs m = C at *
    have hgm : g ∈ gs' := by rw [hgs]; simp
    have hin : ∀ z ∈ C, z ∈ gs' := fun z hz => by
      rw [hgs]
      rw [← List.take_append_drop k C] at hz
      rcases List.mem_append.1 hz with z1 | z1
      · exact List.mem_append_left _ z1
      · exact List.mem_append_right _ (List.mem_cons_of_mem _ z1)
    have hne : ∀ q ∈ L, q.1.frame ≠ h.frame := fun q hq e => by
      obtain ⟨g0, g1, g2, -⟩ := h0.is_ q hq
      exact h1 (by rw [← e, ← g2]; exact mem_frames g1)
    refine ⟨fun q hq => ?_, fun g' hg' => ?_⟩
    · obtain ⟨q1, q2⟩ := keep_mem.1 hq
      rcases List.mem_append.1 q1 with q3 | q3
      · obtain ⟨g0, g1, g2, g3, g4⟩ := h0.is_ q q3
        rcases (hfr _).1 q2 with e | q4
        · exact absurd e (hne q q3)
        · obtain ⟨g5, g6, g7⟩ := frames_mem q4
          obtain rfl := nod_eq hn g0 g1 g5 (hsub.subset g6) (g2.trans g7.symm)
          exact ⟨g0, hin _ g6, g2, g3, g4⟩
      · obtain rfl := List.mem_singleton.1 q3
        exact ⟨g, hgm, by rw [hgH], by rw [hgH]; exact ⟨rfl, rfl, rfl, rfl, rfl⟩, by rw [hghs]; simp⟩
    · rw [keep_count (mem_frames hg'), filter_snoc]
      have hcase : g' = g ∨ g' ∈ C := by
        rw [hgs] at hg'
        rcases List.mem_append.1 hg' with z1 | z1
        · exact .inr (List.mem_of_mem_take z1)
        · rcases List.mem_cons.1 z1 with z2 | z2
          · exact .inl z2
          · exact .inr (List.mem_of_mem_drop z2)
      rcases hcase with rfl | hgC
      · rw [hgH, if_pos rfl, hghs, List.filter_eq_nil_iff.2 (fun q hq => by simpa using hne q hq)]
        rfl
      · have hne2 : h.frame ≠ g'.H.frame := fun e => h1 (by rw [e]; exact mem_frames (hsub.subset hgC))
        show _ + (if h.frame = g'.H.frame then 1 else 0) = _
        rw [if_neg hne2, Nat.add_zero]
        exact h0.cnt g' (hsub.subset hgC)

theorem filter_split {α : Type} (q : α → Bool) : ∀ (L : List α), L.length = (L.filter q).length + (L.filter fun p => !q p).length
  | [] => rfl
  | x :: r => by
    have := filter_split q r
    cases h : q x <;> simp [h] <;> omega
/-- How many indexes came, in all. -/
def manyG (gs : List GD) : Nat := (gs.map fun g => g.hs.length).sum
theorem HoldP.total : ∀ {gs : List GD} {L : List (HeadV × Value)}, HoldP gs L → (framesG gs).Nodup → L.length = manyG gs
  | [], L, h, _ => by
    cases L with
    | nil => rfl
    | cons p r =>
      obtain ⟨g, h1, _⟩ := h.is_ p (by simp)
      cases h1
  | x :: r, L, h, hn => by
    have hn' : (x.H.frame :: framesG r).Nodup := hn
    rw [List.nodup_cons] at hn'
    have h1 := h.sub hn (List.sublist_cons_self x r)
    have h2 := h1.total hn'.2
    have h3 := h.cnt x (by simp)
    have h4 : L.length = (L.filter fun p => decide (p.1.frame = x.H.frame)).length + (keepH r L).length := by
      have h5 : keepH r L = L.filter fun p => !decide (p.1.frame = x.H.frame) := by
        unfold keepH
        refine List.filter_congr fun p hp => ?_
        obtain ⟨g, g1, g2, -⟩ := h.is_ p hp
        by_cases e : p.1.frame = x.H.frame
        · have : p.1.frame ∉ framesG r := by rw [e]; exact hn'.1
          simp [e, hn'.1]
        · have : p.1.frame ∈ framesG r := by
            rcases List.mem_cons.1 g1 with rfl | g3
            · exact absurd g2.symm e
            · rw [← g2]
              exact mem_frames g3
          simp [e, this]
      rw [h5]
      exact filter_split (fun p => decide (p.1.frame = x.H.frame)) L
    rw [h4, h3, h2]
    show _ = ((x :: r).map fun g => g.hs.length).sum
    rw [List.map_cons, List.sum_cons]
    rfl
end -- TcK

section -- TcL
open Go.RowKit Go.Maps
set_option linter.unusedVariables false
set_option linter.unusedSimpArgs false
set_option maxRecDepth 100000
set_option maxHeartbeats 1000000
section
variable {w w' : World} {base tb : Nat} {gn cn : Int} {v : Value} {gs : List GD}
/-- A row of headers is no part of a table. -/
theorem TabS.notRow (h : TabS w base tb gn cn v gs) {k : Nat} (hk : ∃ C, w.heap[k]? = some (.cells C 31 (0, 0))) : ¬ RowS tb v k := by
  obtain ⟨C, hk⟩ := hk
  intro hr
  rcases hr with rfl | hr
  · have := h.row.blk
    rw [hk] at this
    cases this
  · obtain ⟨_, C2, h2⟩ := own_cells h.row.ents k hr
    rw [hk] at h2
    cases h2
theorem TabS.notPut (h : TabS w base tb gn cn v gs) {k : Nat} (hk : ∃ C, w.heap[k]? = some (.cells C 31 (0, 0))) : ¬ PutS tb v gs k := by
  intro hp
  rcases hp with hr | ⟨g, hg, rfl⟩
  · exact h.notRow hk hr
  · obtain ⟨C, hk⟩ := hk
    obtain ⟨m, c, h2⟩ := (h.grp g hg).map.heap
    rw [hk] at h2
    cases h2
/-- A table stays, where a row of headers turns. -/
theorem TabS.keptH {vh : Value} (h : TabS w base tb gn cn v gs) (hk : Kept (fun k => vh.ownBlock = some k) w w') (hty : ∀ k, vh.ownBlock = some k → ∃ C, w.heap[k]? = some (.cells C 31 (0, 0))) (hfar : ∀ g ∈ gs, ∀ k, vh.ownBlock = some k → g.vr.ownBlock ≠ some k) : TabS w' base tb gn cn v gs := by
  refine ⟨h.row.keptS hk (fun e => h.notRow (hty _ e) (.inl rfl)) (fun k e e2 => h.notRow (hty _ e2) (.inr e)), fun g hg => GrpAt.keptT (h.grp g hg) hk (fun k _ e => .inl ?_) (fun k e e2 => hfar g hg k e2 e), h.far, h.maps⟩
  obtain ⟨C, h1⟩ := hty k e
  exact ⟨C, _, h1, by decide, by decide⟩
theorem many_le (hg : ∀ g ∈ gs, GDAt w base g) : manyG gs ≤ gs.length * 255 := by
  induction gs with
  | nil => simp [manyG]
  | cons x r ih =>
    have h1 := GrpAt.few (hg x (by simp))
    have h2 := ih (fun g h => hg g (by simp [h]))
    show ((x :: r).map fun g => g.hs.length).sum ≤ _
    rw [List.map_cons, List.sum_cons, List.length_cons, Nat.add_mul, Nat.one_mul]
    have h3 : manyG r = (r.map fun g => g.hs.length).sum := rfl
    omega
end

/-- All that holds between two deeds. -/
structure HoldT (w2 w : World) (gn cn : Int) (v vh : Value) (gs : List GD) (L : List (HeadV × Value)) : Prop where
  tab : TabS w w2.heap.size w2.heap.size gn cn v gs
  tp : TabP gn cn gs
  low : Below w2.heap.size w2 w
  row : HeadsO w w2.heap.size vh L
  hold : HoldP gs L
  src : ∀ p ∈ L, TableAt w2 p.2 p.1.rows ∧ 0 < p.1.rows.length ∧ p.1.rows.length ≤ 1500
  far : ∀ g ∈ gs, ∀ k, vh.ownBlock = some k → g.vr.ownBlock ≠ some k
theorem HoldT.few {w2 w : World} {gn cn : Int} {v vh : Value} {gs : List GD} {L : List (HeadV × Value)} (h : HoldT w2 w gn cn v vh gs L) : L.length ≤ 20000 ∧ gs.length ≤ 64 := by
  have h1 := h.hold.total h.tp.nod
  have h2 := many_le h.tab.grp
  have h3 := h.tp.cnt
  have h4 := h.tp.few
  have h5 : gs.length ≤ 64 := by omega
  have h6 := Nat.mul_le_mul_right 255 h5
  omega
/-- Behind within: the row is a new one. -/
theorem HoldT.next {w2 wx w : World} {gn cn : Int} {v vo : Value} {gs : List GD} {L : List (HeadV × Value)} (ht : TabS wx w2.heap.size w2.heap.size gn cn v gs) (hp : TabP gn cn gs) (hl : Below w2.heap.size w2 wx) (ho : HeadsO w wx.heap.size vo (keepH gs L)) (hB : Below wx.heap.size wx w) (hh : HoldP gs (keepH gs L)) (hs : ∀ p ∈ L, TableAt w2 p.2 p.1.rows ∧ 0 < p.1.rows.length ∧ p.1.rows.length ≤ 1500) : HoldT w2 w gn cn v vo gs (keepH gs L) :=
  ⟨ht.below hB, hp, below_more hl hB hl.size, ownsRow_weaken ho hl.size, hh, fun p h => hs p (keep_mem.1 h).1, fun g hg k e e2 => by
    obtain ⟨u, o, h1⟩ := GrpAt.vlt (ht.grp g hg) k e2
    have h2 := blt h1
    have h3 := (ho.lt k e).1
    omega⟩
theorem src_shape {w2 : World} {L : List (HeadV × Value)} (hs : ∀ p ∈ L, TableAt w2 p.2 p.1.rows ∧ 0 < p.1.rows.length ∧ p.1.rows.length ≤ 1500) : ∀ p ∈ L, ∃ pv n cv, p.2 = .slice pv n cv := fun p h => by
  obtain ⟨q, c, e⟩ := (hs p h).1.shape
  exact ⟨q, _, c, e⟩
/-- Found: the group of a frame. -/
theorem find_at {gs : List GD} {f : Int} (hf : f ∈ framesG gs) : ∃ g ∈ gs, g.H.frame = f ∧ findV f gs = .tuple #[.pointer (some ⟨g.blk, 0, none⟩), .bool true] := by
  have h := posG_mem.2 hf
  exact ⟨_, getD_mem h, posG_hit h, if_pos h⟩
theorem find_not {gs : List GD} {f : Int} (hf : f ∉ framesG gs) : findV f gs = .tuple #[.pointer none, .bool false] := if_neg (fun h => hf (posG_mem.1 h))
end -- TcL

section -- CodeUa
open Go.RowKit Go.Maps
set_option linter.unusedVariables false
set_option maxRecDepth 100000
set_option maxHeartbeats 2000000

def SizeOf (ls : List (List B)) (w : World) (e : Ending) (w' : World) : Prop := ∃ z : Nat, e = .returned (.int .i64 (z : Int)) ∧ (z ≤ 2500 → ls.length ≤ 2500 ∧ ∀ i, i < ls.length → (ls.getD i []).length ≤ 2500) ∧ z < 1000000000000000 ∧ w = w'
end -- CodeUa

end Go.Proofs.Ytibelpamolcmcaa
