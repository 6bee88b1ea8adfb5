/-
  TbO: Layer 18: groups that are taken away, one by one.
  TbP: Layer 18: the iterator of those that are taken away, for every loop body.
  TbQ: Layer 18: Expire, Close.
-/
import Derived.Test.YtibelpamolcmcaaMxbd
namespace Go.Proofs.Ytibelpamolcmcaa

section -- TbO
open Go.RowKit Go.Maps Go.Shelf Go.Sort

attribute [local go_sem] Oper.semAt_some
set_option linter.unusedVariables false
set_option linter.unusedSimpArgs false
set_option maxRecDepth 100000
set_option maxHeartbeats 4000000

def firstP (p : GD → Bool) (gs : List GD) : Nat := gs.findIdx p
def cutP (p : GD → Bool) (gs : List GD) : List GD := gs.take (firstP p gs) ++ gs.drop (firstP p gs + 1)
def cutsP (p : GD → Bool) (gs : List GD) : Nat → List GD
  | 0 => gs
  | m + 1 => cutP p (cutsP p gs m)
theorem firstP_split {p : GD → Bool} : ∀ {gs : List GD}, firstP p gs < gs.length → ∃ A x B, gs = A ++ x :: B ∧ (∀ g ∈ A, p g = false) ∧ p x = true ∧ firstP p gs = A.length
  | [], h => by simp at h
  | g :: r, h => by
    cases e : p g with
    | false =>
      have h6 : firstP p (g :: r) = firstP p r + 1 := by unfold firstP; rw [List.findIdx_cons]; simp [e]
      rw [h6] at h
      obtain ⟨A, x, B, h1, h2, h3, h4⟩ := firstP_split (gs := r) (by simpa using h)
      refine ⟨g :: A, x, B, by rw [h1]; rfl, fun y hy => ?_, h3, by rw [h6, h4]; rfl⟩
      rcases List.mem_cons.1 hy with rfl | hy
      · exact e
      · exact h2 y hy
    | true => exact ⟨[], g, r, rfl, fun y hy => by simp at hy, e, by unfold firstP; rw [List.findIdx_cons]; simp [e]⟩
theorem cutP_split {p : GD → Bool} {gs : List GD} (h : firstP p gs < gs.length) : ∃ A x B, gs = A ++ x :: B ∧ cutP p gs = A ++ B ∧ (∀ g ∈ A, p g = false) ∧ p x = true ∧ gs.getD (firstP p gs) default = x ∧ gs.filter p = x :: (cutP p gs).filter p := by
  obtain ⟨A, x, B, h1, h2, h3, h4⟩ := firstP_split h
  have hA : A.filter p = [] := List.filter_eq_nil_iff.2 fun g hg => by simp [h2 g hg]
  have hc : cutP p gs = A ++ B := by
    unfold cutP
    rw [h4, h1, List.take_left, show A ++ x :: B = (A ++ [x]) ++ B by simp, show A.length + 1 = (A ++ [x]).length by simp, List.drop_left]
  refine ⟨A, x, B, h1, hc, h2, h3, ?_, ?_⟩
  · rw [h4, h1]
    simp [List.getD_eq_getElem?_getD]
  · rw [hc, h1, List.filter_append, List.filter_append, hA, List.filter_cons_of_pos h3]
    rfl
theorem cutP_sub (p : GD → Bool) (gs : List GD) : (cutP p gs).Sublist gs := by
  by_cases h : firstP p gs < gs.length
  · obtain ⟨A, x, B, h1, h2, _⟩ := cutP_split h
    rw [h2, h1]
    exact List.Sublist.append (List.Sublist.refl A) (List.sublist_cons_self x B)
  · unfold cutP
    rw [List.take_of_length_le (by omega), List.drop_eq_nil_of_le (by omega), List.append_nil]
    exact List.Sublist.refl _
theorem cutsP_sub (p : GD → Bool) (gs : List GD) : ∀ m, (cutsP p gs m).Sublist gs
  | 0 => List.Sublist.refl _
  | m + 1 => (cutP_sub p _).trans (cutsP_sub p gs m)
theorem firstP_none {p : GD → Bool} {gs : List GD} (h : ¬ firstP p gs < gs.length) : gs.filter p = [] := List.filter_eq_nil_iff.2 fun g hg e => h (List.findIdx_lt_length.2 ⟨g, hg, e⟩)
/-- m taken: the first ones of those. -/
theorem cutsP_filter {p : GD → Bool} {gs : List GD} : ∀ {m : Nat}, m ≤ (gs.filter p).length → (cutsP p gs m).filter p = (gs.filter p).drop m
  | 0, _ => rfl
  | m + 1, h => by
    have ih := cutsP_filter (p := p) (gs := gs) (m := m) (by omega)
    have h0 : firstP p (cutsP p gs m) < (cutsP p gs m).length := by
      refine Classical.byContradiction fun hn => ?_
      have h2 := firstP_none hn
      rw [ih] at h2
      have := congrArg List.length h2
      simp at this
      omega
    obtain ⟨A, x, B, _, _, _, _, _, h6⟩ := cutP_split h0
    show (cutP p (cutsP p gs m)).filter p = _
    have e : ((cutsP p gs m).filter p).drop 1 = (cutP p (cutsP p gs m)).filter p := by rw [h6]; rfl
    rw [← e, ih, List.drop_drop]
theorem cutsP_next {p : GD → Bool} {gs : List GD} {m : Nat} (hm : m ≤ (gs.filter p).length) (h : firstP p (cutsP p gs m) < (cutsP p gs m).length) : m < (gs.filter p).length ∧ (gs.filter p).take (m + 1) = (gs.filter p).take m ++ [(cutsP p gs m).getD (firstP p (cutsP p gs m)) default] := by
  have e := cutsP_filter (p := p) (gs := gs) hm
  obtain ⟨A, x, B, _, _, _, _, h5, h6⟩ := cutP_split h
  rw [e] at h6
  have hlt : m < (gs.filter p).length := by
    have := congrArg List.length h6
    simp at this
    omega
  refine ⟨hlt, ?_⟩
  rw [h5, List.take_succ_eq_append_getElem hlt]
  congr 2
  rw [List.drop_eq_getElem_cons hlt] at h6
  exact (List.cons.inj h6).1
/-- In the end: those that are not such. -/
theorem cutsP_end {p : GD → Bool} {gs : List GD} : ∀ {m : Nat}, m ≤ (gs.filter p).length → (cutsP p gs m).filter (fun g => !p g) = gs.filter (fun g => !p g)
  | 0, _ => rfl
  | m + 1, h => by
    have ih := cutsP_end (p := p) (gs := gs) (m := m) (by omega)
    show (cutP p (cutsP p gs m)).filter _ = _
    rw [← ih]
    by_cases h0 : firstP p (cutsP p gs m) < (cutsP p gs m).length
    · obtain ⟨A, x, B, h1, h2, _, h4, _⟩ := cutP_split h0
      rw [h2, h1, List.filter_append, List.filter_append, List.filter_cons_of_neg (by simp [h4])]
    · unfold cutP
      rw [List.take_of_length_le (by omega), List.drop_eq_nil_of_le (by omega), List.append_nil]
theorem cutsP_done {p : GD → Bool} {gs : List GD} {m : Nat} (hm : m ≤ (gs.filter p).length) (h : ¬ firstP p (cutsP p gs m) < (cutsP p gs m).length) : m = (gs.filter p).length ∧ cutsP p gs m = gs.filter (fun g => !p g) := by
  have e := cutsP_filter (p := p) (gs := gs) hm
  have h2 := firstP_none h
  rw [h2] at e
  have e2 := cutsP_end (p := p) (gs := gs) hm
  refine ⟨?_, ?_⟩
  · have := congrArg List.length e
    simp at this
    omega
  · rw [← e2]
    refine (List.filter_eq_self.2 fun g hg => ?_).symm
    have := List.filter_eq_nil_iff.1 h2 g hg
    simpa using this

section
variable {w w' : World} {base tb : Nat} {gn cn : Int} {v : Value} {gs : List GD}
/-- Objects that are no cells, from B on, turn: a loop's own. -/
def NonC (B : Nat) (W : World) (k : Nat) : Prop := B ≤ k ∧ ∃ o : Obj, W.heap[k]? = some o ∧ o.isCells = false
theorem kept_grown {B : Nat} {row : Option Nat} (hg : w.grownBy w' row) (hr : ∀ r, row = some r → B ≤ r ∧ ∃ o : Obj, w.heap[r]? = some o ∧ o.isCells = false) : Kept (NonC B w) w w' := ⟨hg.os, hg.tape, hg.output, hg.size, fun k hk hn => hg.block k hk (fun e => hn (hr k e.symm))⟩
theorem nonC_cells {B k : Nat} {C : Array Value} {t : TypeId} {fr : Nat × Nat} (h : w.heap[k]? = some (.cells C t fr)) : ¬ NonC B w k := fun ⟨_, o, h1, h2⟩ => by
  rw [h] at h1
  cases h1
  cases h2
theorem nonC_cell {B k o : Nat} {u : Value} (h : w.cell? ⟨k, o, none⟩ = some u) : ¬ NonC B w k := fun ⟨_, ob, h1, h2⟩ => by
  unfold World.cell? at h
  rw [h1] at h
  cases ob <;> simp_all [Obj.isCells]
theorem RowAt.nonC {B : Nat} {L : List Ent} (h : RowAt w base tb gn cn v L) (hk : Kept (NonC B w) w w') : RowAt w' base tb gn cn v L :=
  h.keptS hk (nonC_cells h.blk) (fun k e => by
    rcases h.ents.2 with ⟨e2, _⟩ | ⟨g, cap, cur, e2, _, hg, _⟩
    · rw [e2] at e
      cases e
    · rw [e2] at e
      obtain rfl : g = k := by simpa [Value.ownBlock] using e
      exact nonC_cells hg)
theorem GDAt.nonC {B : Nat} {g : GD} (h : GDAt w base g) (hb : g.bm < B) (hk : Kept (NonC B w) w w') : GDAt w' base g :=
  GrpAt.keptZ h hk (nonC_cells h.blk) (fun hs => by have := hs.1; omega) (fun k e => by obtain ⟨u, o, h1⟩ := GrpAt.vlt h k e; exact nonC_cell h1) (fun p hp k e => by
    rcases (h.vals p hp).2 with ⟨e2, _⟩ | ⟨g2, cap, cur, e2, _, hg, _⟩
    · rw [e2] at e
      cases e
    · rw [e2] at e
      obtain rfl : g2 = k := by simpa [Value.ownBlock] using e
      exact nonC_cells hg)
theorem TabS.nonC {B : Nat} (h : TabS w base tb gn cn v gs) (hb : ∀ g ∈ gs, g.bm < B) (hk : Kept (NonC B w) w w') : TabS w' base tb gn cn v gs :=
  ⟨h.row.nonC hk, fun g hg => (h.grp g hg).nonC (hb g hg) hk, h.far, h.maps⟩
theorem cell_nonC {B : Nat} {q : Addr} {u : Value} (h : w.cell? q = some u) (hq : q.spot = none) (hk : Kept (NonC B w) w w') : w'.cell? q = some u := by
  obtain ⟨k, o, sp⟩ := q
  cases hq
  exact (hk.cell (p := ⟨k, o, none⟩) (blt h) (nonC_cell h)).trans h
end
end -- TbO

section -- TbP
open Go.RowKit Go.Maps Go.Shelf Go.Sort

attribute [local go_sem] Oper.semAt_some
set_option linter.unusedVariables false
set_option linter.unusedSimpArgs false
set_option maxRecDepth 100000
set_option maxHeartbeats 4000000

/-- Where the loop stands: those that are taken, the table behind that; the iterator's boxes. -/
structure TkC (base tb : Nat) (gn cn : Int) (v : Value) (gs : List GD) (p : GD → Bool) (Br Bi bq pf : Nat) (q : Int) (pre : List GD) (W : World) : Prop where
  tab : ∃ vt, TabS W base tb gn cn vt (cutsP p gs pre.length) ∧ vt.ownBlock = v.ownBlock
  le : pre.length ≤ (gs.filter p).length
  pre_is : pre = (gs.filter p).take pre.length
  all : ∀ g ∈ gs, GDAt W base g
  far : ∀ g ∈ gs, ∀ k, g.vr.ownBlock = some k → ¬ RowS tb v k
  br : W.cell? ⟨Br, 0, none⟩ = some (.pointer (some ⟨tb, 0, none⟩))
  bi : W.cell? ⟨Bi, 0, none⟩ = some (.func (.func pf) #[] #[.pointer (some ⟨bq, 0, none⟩)])
  qc : W.cell? ⟨bq, 0, none⟩ = some (.int .i64 q)
  nr : ¬ RowS tb v Br ∧ ¬ RowS tb v Bi ∧ ¬ RowS tb v bq
section
variable {w w' : World} {base tb : Nat} {gn cn : Int} {v : Value} {gs : List GD} {p : GD → Bool} {Br Bi bq pf : Nat} {q : Int} {pre : List GD}
theorem TkC.below (h : TkC base tb gn cn v gs p Br Bi bq pf q pre w) (hB : Below w.heap.size w w') : TkC base tb gn cn v gs p Br Bi bq pf q pre w' := by
  obtain ⟨vt, h1, h2⟩ := h.tab
  exact ⟨⟨vt, h1.below hB, h2⟩, h.le, h.pre_is, fun g hg => GrpAt.below (h.all g hg) hB, h.far, (hB.cell (p := ⟨Br, 0, none⟩) (blt h.br)).trans h.br, (hB.cell (p := ⟨Bi, 0, none⟩) (blt h.bi)).trans h.bi, (hB.cell (p := ⟨bq, 0, none⟩) (blt h.qc)).trans h.qc, h.nr⟩
theorem TkC.nonC {B : Nat} (h : TkC base tb gn cn v gs p Br Bi bq pf q pre w) (hb : ∀ g ∈ gs, g.bm < B) (hk : Kept (NonC B w) w w') : TkC base tb gn cn v gs p Br Bi bq pf q pre w' := by
  obtain ⟨vt, h1, h2⟩ := h.tab
  exact ⟨⟨vt, h1.nonC (fun g hg => hb g ((cutsP_sub p gs pre.length).subset hg)) hk, h2⟩, h.le, h.pre_is, fun g hg => (h.all g hg).nonC (hb g hg) hk, h.far, cell_nonC h.br rfl hk, cell_nonC h.bi rfl hk, cell_nonC h.qc rfl hk, h.nr⟩
theorem cutP_ents (p : GD → Bool) (gs : List GD) : (gs.map entG).take (firstP p gs) ++ (gs.map entG).drop (firstP p gs + 1) = (cutP p gs).map entG := by
  unfold cutP
  rw [List.map_append, List.map_take, List.map_drop]
/-- The next one is taken. -/
theorem TkC.next {vt v' : Value} (h : TkC base tb gn cn v gs p Br Bi bq pf q pre w) (ht : TabS w base tb gn cn vt (cutsP p gs pre.length)) (hvt : vt.ownBlock = v.ownBlock) (hm : firstP p (cutsP p gs pre.length) < (cutsP p gs pre.length).length)
    (hr : RowAt w' base tb gn cn v' (((cutsP p gs pre.length).map entG).take (firstP p (cutsP p gs pre.length)) ++ ((cutsP p gs pre.length).map entG).drop (firstP p (cutsP p gs pre.length) + 1))) (hk : Kept (RowS tb vt) w w') (e : v'.ownBlock = vt.ownBlock) :
    TkC base tb gn cn v gs p Br Bi bq pf q (pre ++ [(cutsP p gs pre.length).getD (firstP p (cutsP p gs pre.length)) default]) w' := by
  obtain ⟨h1, h2⟩ := cutsP_next h.le hm
  have hkv : Kept (RowS tb v) w w' := hk.mono (fun k _ hs => (rowS_own hvt k).1 hs)
  have hl : (pre ++ [(cutsP p gs pre.length).getD (firstP p (cutsP p gs pre.length)) default]).length = pre.length + 1 := by simp
  rw [cutP_ents] at hr
  refine ⟨⟨v', ?_, e.trans hvt⟩, by rw [hl]; exact h1, by rw [hl, h2, ← h.pre_is], fun g hg => (h.all g hg).row ht.row hk (fun k e2 hs => h.far g hg k e2 ((rowS_own hvt k).1 hs)), h.far, (hkv.cell (p := ⟨Br, 0, none⟩) (blt h.br) h.nr.1).trans h.br, (hkv.cell (p := ⟨Bi, 0, none⟩) (blt h.bi) h.nr.2.1).trans h.bi, (hkv.cell (p := ⟨bq, 0, none⟩) (blt h.qc) h.nr.2.2).trans h.qc, h.nr⟩
  rw [hl]
  show TabS w' base tb gn cn v' (cutP p (cutsP p gs pre.length))
  exact ⟨hr, fun g hg => (ht.grp g ((cutP_sub p _).subset hg)).row ht.row hk (ht.far g ((cutP_sub p _).subset hg)), fun g hg k hk2 hs => ht.far g ((cutP_sub p _).subset hg) k hk2 ((rowS_own e k).1 hs), List.Pairwise.sublist ((cutP_sub p _).map _) ht.maps⟩
def lenW (tb : Nat) (W : World) : Nat := lenV ((W.cell? ⟨tb, 0, none⟩).getD undef)
theorem lenW_is {vt : Value} {L : List GD} (h : TabS w base tb gn cn vt L) : lenW tb w = L.length := by
  obtain ⟨p, c, e, _⟩ := h.row.ents.shape
  unfold lenW
  rw [h.row.c0, e]
  show (L.map entG).length = _
  rw [List.length_map]
def idxP (p : GD → Bool) (L : List GD) : Int := if firstP p L < L.length then ((firstP p L : Nat) : Int) else -1
theorem idx_firstP (pe : Ent → Bool) (L : List GD) : idxO pe (L.map entG) = idxP (fun g => pe (entG g)) L := by
  unfold idxO idxP firstP
  rw [List.findIdx_map, List.length_map]
  rfl

theorem taken1_in (m l B : Nat) (hm1 : 6 ≤ m) (pe : Ent → Bool) (eg : ∀ args w, (callFunc pf args).run Try.prog w = .ok (.enter pf args) w) (htell : ∀ W : World, W.cell? ⟨bq, 0, none⟩ = some (.int .i64 q) → TellsO pf #[.pointer (some ⟨bq, 0, none⟩)] pe W)
    (I : List GD → World → Prop) (X : Code → List GD → World → Prop) (L : World → Prop) (Lx : Code → World → Prop) (hI : ∀ pre A C, I pre A → Kept (RowS tb v) A C → I pre C) (hL : Apart B L)
    (hY : ∀ pre x W1, (TkC base tb gn cn v gs (fun g => pe (entG g)) Br Bi bq pf q (pre ++ [x]) W1 ∧ I pre W1) → L W1 → YieldAt Fence.wide (m - 1) Try.prog l #[.agg #[.pointer (some ⟨x.blk, 0, none⟩), .int .i64 x.H.frame, .int .i64 x.H.deadline]] W1 fun e W' =>
      (e = .returned (.bool true) ∧ (TkC base tb gn cn v gs (fun g => pe (entG g)) Br Bi bq pf q (pre ++ [x]) W' ∧ I (pre ++ [x]) W') ∧ L W') ∨ (e = .returned (.bool false) ∧ ∃ c, X c (pre ++ [x]) W' ∧ Lx c W'))
    (W : World) (h0 : TkC base tb gn cn v gs (fun g => pe (entG g)) Br Bi bq pf q [] W ∧ I [] W) (hL0 : L W) :
    CallsIn Fence.wide m Try.prog 44 #[.func (.yield l) #[] #[], .pointer (some ⟨Br, 0, none⟩), .pointer (some ⟨Bi, 0, none⟩)] W fun e W' => (∃ u, e = .returned u) ∧
      ((∃ xs, (TkC base tb gn cn v gs (fun g => pe (entG g)) Br Bi bq pf q xs W' ∧ I xs W' ∧ ¬ firstP (fun g => pe (entG g)) (cutsP (fun g => pe (entG g)) gs xs.length) < (cutsP (fun g => pe (entG g)) gs xs.length).length) ∧ L W') ∨ (∃ c pre, X c pre W' ∧ Lx c W')) := by
  have HFD := Lib.hid (fun (W : World) (pre : List GD) (h : TkC base tb gn cn v gs (fun g => pe (entG g)) Br Bi bq pf q pre W) => show Calls Try.prog 31 #[.pointer (some ⟨tb, 0, none⟩), .func (.func pf) #[] #[.pointer (some ⟨bq, 0, none⟩)]] W fun e w' => e = .returned (.int .i64 (idxP (fun g => pe (entG g)) (cutsP (fun g => pe (entG g)) gs pre.length))) ∧ Below W.heap.size W w' from by
    obtain ⟨vt, h1, _⟩ := h.tab
    have := find_any h1.row pe pf #[.pointer (some ⟨bq, 0, none⟩)] eg (htell W h.qc)
    rw [idx_firstP] at this
    exact this)
  have HKL := Lib.hid (fun (A C : World) (h : L A) (hB : Below A.heap.size A C) => hL A C h ⟨hB.size, fun k o _ hk _ => (hB.block k (Array.getElem?_eq_some_iff.1 hk).1).trans hk⟩)
  have HKI := Lib.hid (fun (pre : List GD) (A C : World) (h : I pre A) (hB : Below A.heap.size A C) => hI pre A C h ((Kept.below hB).mono (fun _ _ h => h.elim)))
  have r1 := h0.1.br
  have r2 := h0.1.bi
  have h1 : 1 ≤ m := by omega
  have hf1 : Fence.wide.fn 31 := trivial
  have hf2 : Fence.wide.fn 30 := trivial
  have H0 := Lib.hid h0
  have HY := Lib.hid hY
  have HI := Lib.hid hI
  have HLL := Lib.hid hL
  have HL0 := Lib.hid hL0
  clear hY hI hL h0 hL0
  refine callsIn_of_wp Try.func44 rfl trivial ?_ rfl
  simp only [Try.ntmps44, List.size_toArray, List.length_cons, List.length_nil, Nat.reduceAdd, Nat.reduceSub, Array.replicate_succ, Array.replicate_zero, List.push_toArray, List.append_toArray, List.nil_append, List.cons_append]
  gi_wp2_with (gi_at_call 31; refine (callsIn_wide.2 (HFD.out _ _ H0.out.1)).mono ?_; rintro e w1 ⟨rfl, hB1⟩; have HB1 := Lib.hid hB1; clear hB1)
  have HT1 := Lib.hid (H0.out.1.below HB1.out)
  have HI1 := Lib.hid (HKI.out _ _ _ H0.out.2 HB1.out)
  have HL1 := Lib.hid (HKL.out _ _ HL0.out HB1.out)
  clear r1 r2
  gi_loopw [4] (fun k wr => ∃ pre : List GD, k = .int .i64 (idxP (fun g => pe (entG g)) (cutsP (fun g => pe (entG g)) gs pre.length)) ∧ TkC base tb gn cn v gs (fun g => pe (entG g)) Br Bi bq pf q pre wr ∧ I pre wr ∧ L wr) (fun _ wr => lenW tb wr)
  case atStart => exact ⟨[], rfl, HT1.out, HI1.out, HL1.out⟩
  case round =>
    obtain ⟨wo, rfl⟩ : ∃ wo, wo = wr := ⟨_, rfl⟩
    obtain ⟨pre, rfl, htk, hi, hl⟩ := hrel
    have HTK := Lib.hid htk
    have HII := Lib.hid hi
    have HLo := Lib.hid hl
    have r1 := htk.br
    have r2 := htk.bi
    obtain ⟨vt, htt, hvt⟩ := htk.tab
    have HTT := Lib.hid htt
    have HVT := Lib.hid hvt
    clear htk hi hl htt hvt
    by_cases hlt : firstP (fun g => pe (entG g)) (cutsP (fun g => pe (entG g)) gs pre.length) < (cutsP (fun g => pe (entG g)) gs pre.length).length
    · have hix : idxP (fun g => pe (entG g)) (cutsP (fun g => pe (entG g)) gs pre.length) = ((firstP (fun g => pe (entG g)) (cutsP (fun g => pe (entG g)) gs pre.length) : Nat) : Int) := by unfold idxP; rw [if_pos hlt]
      rw [hix]
      obtain ⟨k1, hk1⟩ : ∃ x, firstP (fun g => pe (entG g)) (cutsP (fun g => pe (entG g)) gs pre.length) = x := ⟨_, rfl⟩
      obtain ⟨xb, hxb⟩ : ∃ x, (cutsP (fun g => pe (entG g)) gs pre.length).getD k1 default = x := ⟨_, rfl⟩
      have hgx : ((cutsP (fun g => pe (entG g)) gs pre.length).map entG).getD k1 (0, 0, 0) = (xb.blk, xb.H.frame, xb.H.deadline) := by rw [getD_ent (by omega), hxb]; rfl
      have hfl : k1 < ((cutsP (fun g => pe (entG g)) gs pre.length).map entG).length := by rw [List.length_map]; omega
      have HRM := Lib.hid (remove_any HTT.out.row k1 hfl)
      rw [hgx] at HRM
      dsimp only at HRM
      have HK1 := Lib.hid hk1
      have HXB := Lib.hid hxb
      have HLT := Lib.hid hlt
      rw [hk1]
      have hk0 : (0 : Int) ≤ (k1 : Int) := by omega
      clear hix hk1 hxb hgx hfl hlt
      gi_wp2_with fail
      refine (callsIn_wide.2 HRM.out).mono ?_
      rintro e w2 ⟨v2, rfl, hr2, hk2, ho2⟩
      have HK2 := Lib.hid (hk2.mono (fun k _ hs => (rowS_own HVT.out k).1 hs))
      have ht2 := HTK.out.next HTT.out HVT.out HLT.out (by rw [HK1.out]; exact hr2) hk2 ho2
      rw [HK1.out, HXB.out] at ht2
      have HT2 := Lib.hid ht2
      have HI2 := Lib.hid (HI.out _ _ _ HII.out HK2.out)
      have HL2 := Lib.hid (HLL.out _ _ HLo.out ⟨hk2.size, fun k o _ hk hc => (hk2.block k (Array.getElem?_eq_some_iff.1 hk).1 (fun hs => by
        obtain ⟨C, t, h1, _⟩ := rowS_cells HTT.out.row k hs
        rw [h1] at hk
        cases hk
        cases hc)).trans hk⟩)
      obtain ⟨fn, tmps, assign, body, hy, hR⟩ := HY.out pre xb w2 ⟨HT2.out, HI2.out⟩ HL2.out
      have HR := Lib.hid hR
      clear hR hr2 hk2 ho2 ht2 r1 r2
      gi_wp2_with fail
      refine HR.out.mono ?_
      rintro e w3 (⟨rfl, ⟨ht3, hi3⟩, hl3⟩ | ⟨rfl, c3, hx3, hl3⟩)
      · have HT3 := Lib.hid ht3
        have HI3 := Lib.hid hi3
        have HL3 := Lib.hid hl3
        have r1 := ht3.br
        have r2 := ht3.bi
        clear ht3 hi3 hl3 hy
        gi_wp2_with fail
        refine (callsIn_wide.2 (HFD.out _ _ HT3.out)).mono ?_
        rintro e w4 ⟨rfl, hB4⟩
        clear r1 r2
        gi_wp2
        go_roundw
        case rel => exact ⟨pre ++ [xb], by simp, HT3.out.below hB4, HKI.out _ _ _ HI3.out hB4, HKL.out _ _ HL3.out hB4⟩
        case measure =>
          obtain ⟨v4, h4, _⟩ := (HT3.out.below hB4).tab
          rw [lenW_is h4, lenW_is HTT.out]
          have h5 := cutP_split HLT.out
          obtain ⟨A, x, C, e1, e2, _⟩ := h5
          have e3 : (pre ++ [xb]).length = pre.length + 1 := by simp
          rw [e3]
          show (cutP _ (cutsP _ gs pre.length)).length < _
          rw [e2, e1]
          simp
      · gi_wp2
        refine bodyPost_ret (results_none rfl _ _ _) rfl ?_
        exact ⟨⟨_, rfl⟩, .inr ⟨c3, _, hx3, hl3⟩⟩
    · have hix : idxP (fun g => pe (entG g)) (cutsP (fun g => pe (entG g)) gs pre.length) = -1 := by unfold idxP; rw [if_neg hlt]
      rw [hix]
      clear hix r1 r2
      gi_wp2
      go_end0
      exact ⟨⟨_, rfl⟩, .inl ⟨pre, ⟨HTK.out, HII.out, hlt⟩, HLo.out⟩⟩
end
end -- TbP

section -- TbQ
open Go.RowKit Go.Maps Go.Shelf Go.Sort

attribute [local go_sem] Oper.semAt_some
set_option linter.unusedVariables false
set_option linter.unusedSimpArgs false
set_option maxRecDepth 100000
set_option maxHeartbeats 4000000

theorem taken_any (w : World) (tb : Nat) (fv : Value) (hf : ∃ pf lb, fv = .func (.func pf) #[] lb) :
    Calls Try.prog 26 #[.pointer (some ⟨tb, 0, none⟩), fv] w fun e w' => e = .returned (.func (.func 44) #[] #[.pointer (some ⟨w.heap.size, 0, none⟩), .pointer (some ⟨w.heap.size + 1, 0, none⟩)]) ∧ w' = (w.alloc (.cells #[.pointer (some ⟨tb, 0, none⟩)] 86)).alloc (.cells #[fv] 66) := by
  obtain ⟨pf, lb, rfl⟩ := hf
  go_enter Try.func26, Try.ntmps26
  go_wp2
  go_ret
  exact ⟨rfl, rfl⟩

theorem new_at (W : World) (C : Array Value) (t : TypeId) (k : Nat) (u : Value) (hk : W.heap.size = k) (hC : C[0]? = some u) : (W.alloc (.cells C t)).cell? ⟨k, 0, none⟩ = some u := by
  subst hk
  exact (World.cell?_alloc_new W _ _ 0).trans hC
/-- What the loop of Expire keeps beside the table: the groups that were told. -/
def OutI (w : World) (wl tb : Nat) (v : Value) (ob : Nat) (pre : List GD) (W : World) : Prop := (∃ vo, Boxed W ob 36 vo ∧ OutsAt W wl vo pre) ∧ Kept (RowS tb v) w W ∧ wl ≤ W.heap.size
theorem OutI.step {w A C : World} {wl tb ob : Nat} {v : Value} {pre : List GD} (h : OutI w wl tb v ob pre A) (hk : Kept (RowS tb v) A C) (hob : ¬ RowS tb v ob) (hnr : ∀ k, wl ≤ k → ¬ RowS tb v k) : OutI w wl tb v ob pre C := by
  obtain ⟨⟨vo, h1, h2⟩, h3, h4⟩ := h
  exact ⟨⟨vo, zk2 h1 hk hob, h2.keptS hk (fun k e => hnr k (h2.lt k e).1)⟩, h3.trans hk (fun _ _ h => h), Nat.le_trans h4 hk.size⟩
theorem OutI.nonC {w A C : World} {wl tb ob B : Nat} {v : Value} {pre : List GD} (h : OutI w wl tb v ob pre A) (hB : w.heap.size ≤ B) (hk : Kept (NonC B A) A C) : OutI w wl tb v ob pre C := by
  obtain ⟨⟨vo, h1, h2⟩, h3, h4⟩ := h
  refine ⟨⟨vo, zk2 h1 hk (nonC_cells h1), h2.keptS hk (fun k e hs => ?_)⟩, h3.trans hk (fun i hi hs => absurd hs.1 (by omega)), Nat.le_trans h4 hk.size⟩
  obtain ⟨_, C, hc⟩ := own_cells h2 k e
  exact nonC_cells hc hs
section
variable {w w' : World} {base tb : Nat} {gn cn : Int} {v : Value} {gs : List GD}
theorem GDAt.hi {S : Nat → Prop} {g : GD} {wl : Nat} (hg : GDAt w base g) (hk : Kept S w w') (hS : ∀ k, k < w.heap.size → S k → wl ≤ k ∧ ∃ C t, w.heap[k]? = some (.cells C t (0, 0)) ∧ t ≠ 77 ∧ t ≠ 5) (hv : ∀ k, g.vr.ownBlock = some k → k < wl) : GDAt w' base g :=
  GrpAt.keptT hg hk (fun k hk2 hs => .inl (hS k hk2 hs).2) (fun k e hs => by
    obtain ⟨u, o, h1⟩ := GrpAt.vlt hg k e
    have h2 := (hS k (blt h1) hs).1
    have h3 := hv k e
    omega)
theorem TabS.hi {S : Nat → Prop} {wl : Nat} (ht : TabS w base tb gn cn v gs) (hk : Kept S w w') (hS : ∀ k, k < w.heap.size → S k → wl ≤ k ∧ ∃ C t, w.heap[k]? = some (.cells C t (0, 0)) ∧ t ≠ 77 ∧ t ≠ 5) (hv : ∀ g ∈ gs, ∀ k, g.vr.ownBlock = some k → k < wl) (h1 : tb < wl) (h2 : ∀ k, v.ownBlock = some k → k < wl) : TabS w' base tb gn cn v gs :=
  ⟨ht.row.keptS hk (fun hs => by have := (hS tb ht.row.lt hs).1; omega) (fun k e hs => by have := (hS k (ht.row.ents.lt k e).2 hs).1; have := h2 k e; omega), fun g hg => (ht.grp g hg).hi hk hS (hv g hg), ht.far, ht.maps⟩
theorem TkC.hi {p : GD → Bool} {Br Bi bq pf : Nat} {q : Int} {pre : List GD} {S : Nat → Prop} {wl : Nat} (h : TkC base tb gn cn v gs p Br Bi bq pf q pre w) (hk : Kept S w w') (hS : ∀ k, k < w.heap.size → S k → wl ≤ k ∧ ∃ C t, w.heap[k]? = some (.cells C t (0, 0)) ∧ t ≠ 77 ∧ t ≠ 5) (hv : ∀ g ∈ gs, ∀ k, g.vr.ownBlock = some k → k < wl) (h1 : tb < wl) (h2 : ∀ k, v.ownBlock = some k → k < wl) (h3 : ¬ S Br ∧ ¬ S Bi ∧ ¬ S bq) : TkC base tb gn cn v gs p Br Bi bq pf q pre w' := by
  obtain ⟨vt, ht, hvt⟩ := h.tab
  exact ⟨⟨vt, ht.hi hk hS (fun g hg => hv g ((cutsP_sub p gs pre.length).subset hg)) h1 (fun k e => h2 k (by rw [← hvt]; exact e)), hvt⟩, h.le, h.pre_is, fun g hg => (h.all g hg).hi hk hS (hv g hg), h.far, (hk.cell (p := ⟨Br, 0, none⟩) (blt h.br) h3.1).trans h.br, (hk.cell (p := ⟨Bi, 0, none⟩) (blt h.bi) h3.2.1).trans h.bi, (hk.cell (p := ⟨bq, 0, none⟩) (blt h.qc) h3.2.2).trans h.qc, h.nr⟩
theorem texpire_any (ht : TabS w base tb gn cn v gs) (hb : base ≤ w.heap.size) (now : Int) :
    Calls Try.prog 9 #[.pointer (some ⟨tb, 0, none⟩), .int .i64 now] w fun e w' => ∃ vo v', e = .returned vo ∧ TabS w' base tb gn cn v' (gs.filter fun g => !decide (g.H.deadline ≤ now)) ∧ v'.ownBlock = v.ownBlock ∧ OutsAt w' w.heap.size vo (gs.filter fun g => decide (g.H.deadline ≤ now)) ∧ (∀ g ∈ gs, GDAt w' base g) ∧ Kept (RowS tb v) w w' := by
  have HT := Lib.hid ht
  have HB2 := Lib.hid (show Below w.heap.size w ((w.alloc (.cells #[.int .i64 now] 3)).alloc (.cells #[.slice none 0 0] 36)) from below_more (balT w _) (balT _ _) (balT w _).size)
  have HMD := Lib.hid (made_any (ht.below HB2.out).row)
  clear ht
  refine (callsIn_wide (n := 9)).1 ?_
  have h1 : 1 ≤ 9 := by omega
  have hf1 : Fence.wide.fn 25 := trivial
  have hf2 : Fence.wide.fn 26 := trivial
  refine callsIn_of_wp_marks Try.func9 rfl trivial ?_ rfl
  simp only [Try.ntmps9, List.size_toArray, List.length_cons, List.length_nil, Nat.reduceAdd, Nat.reduceSub, Array.replicate_succ, Array.replicate_zero, List.push_toArray, List.append_toArray, List.nil_append, List.cons_append]
  gi_wp2_with (first
    | (gi_at_call 25; refine (callsIn_wide.2 HMD.out).mono ?_; rintro e w' ⟨rfl, rfl⟩)
    | (gi_at_call 26; refine (callsIn_wide.2 (taken_any _ tb _ ⟨_, _, rfl⟩)).mono ?_; rintro e w' ⟨rfl, rfl⟩))
  have HBW := Lib.hid (show Below w.heap.size w ((((w.alloc (.cells #[.int .i64 now] 3)).alloc (.cells #[.slice none 0 0] 36)).alloc (.cells #[.pointer (some ⟨tb, 0, none⟩)] 86)).alloc (.cells #[.func (.func 27) #[] #[.pointer (some ⟨w.heap.size, 0, none⟩)]] 66)) from below_more (below_more HB2.out (balT _ _) HB2.out.size) (balT _ _) (below_more HB2.out (balT _ _) HB2.out.size).size)
  have q0 := Lib.cell?_alloc_some (.cells #[.func (.func 27) #[] #[.pointer (some ⟨w.heap.size, 0, none⟩)]] 66) (Lib.cell?_alloc_some (.cells #[.pointer (some ⟨tb, 0, none⟩)] 86) (Lib.cell?_alloc_some (.cells #[.slice none 0 0] 36) (new_at w #[.int .i64 now] 3 w.heap.size _ rfl rfl)))
  have q2 := Lib.cell?_alloc_some (.cells #[.func (.func 27) #[] #[.pointer (some ⟨w.heap.size, 0, none⟩)]] 66) (new_at ((w.alloc (.cells #[.int .i64 now] 3)).alloc (.cells #[.slice none 0 0] 36)) #[.pointer (some ⟨tb, 0, none⟩)] 86 (w.heap.size + 1 + 1) _ (by simp) rfl)
  have q3 := new_at (((w.alloc (.cells #[.int .i64 now] 3)).alloc (.cells #[.slice none 0 0] 36)).alloc (.cells #[.pointer (some ⟨tb, 0, none⟩)] 86)) #[.func (.func 27) #[] #[.pointer (some ⟨w.heap.size, 0, none⟩)]] 66 (w.heap.size + 1 + 1 + 1) _ (by simp) rfl
  have q1 : Boxed ((((w.alloc (.cells #[.int .i64 now] 3)).alloc (.cells #[.slice none 0 0] 36)).alloc (.cells #[.pointer (some ⟨tb, 0, none⟩)] 86)).alloc (.cells #[.func (.func 27) #[] #[.pointer (some ⟨w.heap.size, 0, none⟩)]] 66)) (w.heap.size + 1) 36 (.slice none 0 0) := by
    have h := Boxed.new (w.alloc (.cells #[.int .i64 now] 3)) 36 (.slice none 0 0)
    rw [World.size_alloc] at h
    exact (h.alloc _).alloc _
  generalize ((((w.alloc (.cells #[.int .i64 now] 3)).alloc (.cells #[.slice none 0 0] 36)).alloc (.cells #[.pointer (some ⟨tb, 0, none⟩)] 86)).alloc (.cells #[.func (.func 27) #[] #[.pointer (some ⟨w.heap.size, 0, none⟩)]] 66)) = w4 at *
  have HNR := Lib.hid (show ∀ k, w.heap.size ≤ k → ¬ RowS tb v k from fun k hk hs => by
    rcases hs with e | e
    · have := HT.out.row.lt
      omega
    · have := (HT.out.row.ents.lt k e).2
      omega)
  have HBM := Lib.hid (show ∀ g ∈ gs, g.bm < w4.heap.size from fun g hg => by have h1 := (HT.out.grp g hg).map.lt; have h2 := HBW.out.size; omega)
  have H0 := Lib.hid (show TkC base tb gn cn v gs (fun g => (fun x : Ent => decide (x.2.2 ≤ now)) (entG g)) (w.heap.size + 1 + 1) (w.heap.size + 1 + 1 + 1) w.heap.size 27 now [] w4 ∧ OutI w w4.heap.size tb v (w.heap.size + 1) [] w4 from
    ⟨⟨⟨v, HT.out.below HBW.out, rfl⟩, Nat.zero_le _, rfl, fun g hg => GrpAt.below (HT.out.grp g hg) HBW.out, HT.out.far, q2, q3, q0, HNR.out _ (by omega), HNR.out _ (by omega), HNR.out _ (Nat.le_refl _)⟩, ⟨⟨_, q1, World.ownsRow_nil _ _ _ _⟩, (Kept.below HBW.out).mono (fun _ _ h => h.elim), Nat.le_refl _⟩⟩)
  have hww : w.heap.size ≤ w4.heap.size := HBW.out.size
  have hw4 : w.heap.size + 1 + 1 + 1 < w4.heap.size := blt q3
  clear q0 q1 q2 q3
  refine wpIn_rangeFunc_w rfl h1 (gf := 44) (lb := #[.pointer (some ⟨w.heap.size + 1 + 1, 0, none⟩), .pointer (some ⟨w.heap.size + 1 + 1 + 1, 0, none⟩)]) rfl trivial (enters_of Try.func44 (by kernel_rfl) rfl)
    (encs := fun x : GD => #[.agg #[.pointer (some ⟨x.blk, 0, none⟩), .int .i64 x.H.frame, .int .i64 x.H.deadline]])
    (fun pre W => TkC base tb gn cn v gs (fun g => (fun x : Ent => decide (x.2.2 ≤ now)) (entG g)) (w.heap.size + 1 + 1) (w.heap.size + 1 + 1 + 1) w.heap.size 27 now pre W ∧ OutI w w4.heap.size tb v (w.heap.size + 1) pre W)
    (fun pre x W => TkC base tb gn cn v gs (fun g => (fun x : Ent => decide (x.2.2 ≤ now)) (entG g)) (w.heap.size + 1 + 1) (w.heap.size + 1 + 1 + 1) w.heap.size 27 now (pre ++ [x]) W ∧ OutI w w4.heap.size tb v (w.heap.size + 1) pre W)
    (fun pre x a' W => (TkC base tb gn cn v gs (fun g => (fun x : Ent => decide (x.2.2 ≤ now)) (entG g)) (w.heap.size + 1 + 1) (w.heap.size + 1 + 1 + 1) w.heap.size 27 now (pre ++ [x]) W ∧ OutI w w4.heap.size tb v (w.heap.size + 1) pre W) ∧ ∃ bx, W.cell? ⟨bx, 0, none⟩ = some (ptrG x) ∧
      a' = { tmps := #[.pointer (some ⟨tb, 0, none⟩), .int .i64 now, undef, .pointer (some ⟨w.heap.size, 0, none⟩), .pointer (some ⟨w.heap.size + 1, 0, none⟩), .pointer (some ⟨bx, 0, none⟩), .pointer (some ⟨tb, 0, none⟩), .bool true, .bool false, .pointer (some ⟨tb, 0, none⟩), .pointer (some ⟨tb, 0, none⟩), .pointer (some ⟨tb, 0, none⟩), .func (.func 27) #[] #[.pointer (some ⟨w.heap.size, 0, none⟩)], .func (.func 44) #[] #[.pointer (some ⟨w.heap.size + 1 + 1, 0, none⟩), .pointer (some ⟨w.heap.size + 1 + 1 + 1, 0, none⟩)], .agg #[.pointer (some ⟨x.blk, 0, none⟩), .int .i64 x.H.frame, .int .i64 x.H.deadline], undef, undef, undef, undef, undef, undef], defers := [] })
    (fun xs W => TkC base tb gn cn v gs (fun g => (fun x : Ent => decide (x.2.2 ≤ now)) (entG g)) (w.heap.size + 1 + 1) (w.heap.size + 1 + 1 + 1) w.heap.size 27 now xs W ∧ OutI w w4.heap.size tb v (w.heap.size + 1) xs W ∧ ¬ firstP (fun g => (fun x : Ent => decide (x.2.2 ≤ now)) (entG g)) (cutsP (fun g => (fun x : Ent => decide (x.2.2 ≤ now)) (entG g)) gs xs.length) < (cutsP (fun g => (fun x : Ent => decide (x.2.2 ≤ now)) (entG g)) gs xs.length).length)
    (fun _ _ _ => False) ?hZ ?hY1 ?hDn (fun _ _ _ _ _ h _ _ => h) (fun _ => rfl) H0.out ?hiter ?hassign ?hbody ?hdone (fun _ _ _ _ _ h _ => h.elim)
  case hZ =>
    intro pre A C row h hg hr
    have hk := kept_grown hg hr
    exact ⟨h.1.nonC HBM.out hk, h.2.nonC hww hk⟩
  case hY1 =>
    intro x a' pre A C row h hg hr
    have hk := kept_grown hg hr
    obtain ⟨⟨h1, h2⟩, bx, h3, h4⟩ := h
    exact ⟨⟨h1.nonC HBM.out hk, h2.nonC hww hk⟩, bx, cell_nonC h3 rfl hk, h4⟩
  case hDn =>
    intro pre A C row h hg hr
    have hk := kept_grown hg hr
    exact ⟨h.1.nonC HBM.out hk, h.2.1.nonC hww hk, h.2.2⟩
  case hiter =>
    intro l L Lx W _ hL hLx hZ hL0 hY
    exact taken1_in (9 - 1) l w4.heap.size (by omega) (fun x : Ent => decide (x.2.2 ≤ now)) eg_exp (fun W h => exp1_tells W _ now h) (OutI w w4.heap.size tb v (w.heap.size + 1)) (fun _ _ _ => False) L Lx (fun pre A C h hk => h.step hk (HNR.out _ (by omega)) (fun k hk => HNR.out k (by omega))) hL hY W hZ hL0
  case hassign =>
    intro l pre x W K hyx hK
    have HYX := Lib.hid hyx
    have HK := Lib.hid hK
    clear hyx hK
    gi_wp2
    refine HK.out _ _ ⟨by simp, fun k o _ hk _ => (Below.heap_alloc W _ k (Array.getElem?_eq_some_iff.1 hk).1).trans hk⟩ ⟨⟨HYX.out.1.below (balT W _), HYX.out.2.step ((Kept.below (balT W _)).mono (fun _ _ h => h.elim)) (HNR.out _ (by omega)) (fun k hk => HNR.out k (by omega))⟩, W.heap.size, new_at W _ _ _ _ rfl rfl, rfl⟩
  case hbody =>
    rintro l pre x a' W ⟨⟨htk, ⟨⟨vo, hv, hrow⟩, hkp, hsz⟩⟩, bx, hbx, rfl⟩
    have hc := hv.cell
    have hrow2 : W.ownsRow w4.heap.size 46 1 vo pre.length (pre.map ptrG) := hrow
    have HTK := Lib.hid htk
    have HKP := Lib.hid hkp
    have HBXC := Lib.hid hbx
    obtain ⟨i0, hi, hz0, hz1, hz2⟩ := info_parts infoPG
    have hl1 : pre.length ≤ 1000 := by
      have h1 := htk.le
      have h2 : (gs.filter fun g => (fun x : Ent => decide (x.2.2 ≤ now)) (entG g)).length ≤ gs.length := List.length_filter_le _ _
      have h3 := HT.out.row.len
      rw [List.length_map] at h3
      rw [List.length_append] at h1
      omega
    obtain ⟨xk, hxk⟩ : ∃ k, x.blk = k := ⟨_, rfl⟩
    have hp0 : W.cell? ⟨bx, 0, none⟩ = some (.pointer (some ⟨xk, 0, none⟩)) := by rw [hbx, ← hxk]; rfl
    have HXK := Lib.hid hxk
    obtain ⟨xf, hxf⟩ : ∃ k, x.H.frame = k := ⟨_, rfl⟩
    obtain ⟨xd, hxd⟩ : ∃ k, x.H.deadline = k := ⟨_, rfl⟩
    rw [hxk, hxf, hxd]
    clear htk hkp hbx hxk hxf hxd
    gi_wp2_with (gi_at_builtin; refine wpListIn_append_own_at _ rfl _ _ 36 rfl w4.heap.size 46 i0 (.pointer none) 1 8 Try.underlying36 hi hz0 hz1 hz2 rfl (by decide) _ _ _ rfl (hrow2.alloc _) ⟨W.heap.size, 0, none⟩ 1 1 [.pointer (some ⟨xk, 0, none⟩)] rfl rfl (by intro j u hj; match j, hj with | 0, hj => simp at hj; subst hj; exact (World.cell?_alloc_new W _ _ 0).trans rfl) (by simp [Value.oneCell']) (by unfold maxLen; omega) (by omega) (by simp; omega) ?_; intro v' w1 hown' hgrow _ hplace; obtain ⟨g', cap', rfl⟩ := ownsRow_succ hown'; have hv1 := (hv.alloc (.cells #[.pointer (some ⟨xk, 0, none⟩)] 46)).kept hgrow (fun e => by have h5 := (hrow2.lt _ e.symm).1; omega); have hc1 := hv1.cell; have hf1 := hv1.frozen)
    have hKA : Kept (fun k => vo.ownBlock = some k) W w1 := ((Kept.below (balT W _)).mono (fun _ _ h => h.elim)).trans (Kept.grown hgrow) (fun _ _ e => e.symm)
    have hKB : Kept (fun k => k = w.heap.size + 1 ∨ vo.ownBlock = some k) W (w1.setCell ⟨w.heap.size + 1, 0, none⟩ (.slice (some ⟨g', 0, none⟩) (pre.length + 1) cap')) := (hKA.mono (fun _ _ h => .inr h)).trans (Kept.set1 w1 (w.heap.size + 1) 0 _) (fun _ _ h => .inl h)
    have hS : ∀ k, k < W.heap.size → (k = w.heap.size + 1 ∨ vo.ownBlock = some k) → w.heap.size ≤ k ∧ ∃ C t, W.heap[k]? = some (.cells C t (0, 0)) ∧ t ≠ 77 ∧ t ≠ 5 := fun k _ hk => by
      rcases hk with rfl | hk
      · exact ⟨by omega, _, _, hv, by decide, by decide⟩
      · obtain ⟨h5, C, h6⟩ := own_cells hrow2 k hk
        exact ⟨by omega, C, _, h6, by decide, by decide⟩
    have hne : ∀ k, k < w4.heap.size → k ≠ w.heap.size + 1 → ¬ (k = w.heap.size + 1 ∨ vo.ownBlock = some k) := fun k h5 h6 h7 => by
      rcases h7 with h7 | h7
      · exact h6 h7
      · have := (hrow2.lt k h7).1
        omega
    have hg1 : g' ≠ w.heap.size + 1 := fun e => by
      have := (hown'.lt g' rfl).1
      omega
    refine ⟨⟨hKB.size, fun k o hB2 hk hc2 => (hKB.block k (Array.getElem?_eq_some_iff.1 hk).1 (fun h7 => ?_)).trans hk⟩, HTK.out.hi hKB hS (fun g hg k e => ?_) HT.out.row.lt (fun k e => (HT.out.row.ents.lt k e).2) ⟨hne _ (by omega) (by omega), hne _ (by omega) (by omega), hne _ (by omega) (by omega)⟩, ⟨_, hv1.set _, ?_⟩, HKP.out.trans hKB (fun i hi h7 => ?_), Nat.le_trans hsz hKB.size⟩
    · obtain ⟨_, C, t, h8, _⟩ := hS k (Array.getElem?_eq_some_iff.1 hk).1 h7
      rw [h8] at hk
      cases hk
      cases hc2
    · obtain ⟨u, o, h5⟩ := GrpAt.vlt (HT.out.grp g hg) k e
      exact blt h5
    · have h9 : (pre ++ [x]).map ptrG = pre.map ptrG ++ [.pointer (some ⟨xk, 0, none⟩)] := by
        rw [List.map_append, ← HXK.out]
        rfl
      unfold OutsAt
      rw [h9, List.length_append]
      exact ownsRow_keptS hown' (Kept.set1 w1 (w.heap.size + 1) 0 _) (fun k e e2 => by
        have h10 : g' = k := by simpa [Value.ownBlock] using e
        exact hg1 (h10.trans e2))
    · have := (hS i (by have := HKP.out.size; omega) h7).1
      omega
  case hdone =>
    rintro D xs W hD ⟨htk, ⟨⟨vo, hv, hov⟩, hkp, hsz⟩, hend⟩ hK
    have hc := hv.cell
    have hf := hv.frozen
    have hov2 : W.ownsRow w4.heap.size 46 1 vo xs.length (xs.map ptrG) := hov
    obtain ⟨pq, cq, rfl⟩ := own_shapeO hov2
    have HTK := Lib.hid htk
    have HKP := Lib.hid hkp
    have HEND := Lib.hid hend
    have hbx := hv
    have HDL := Lib.hid (Array.getElem?_eq_some_iff.1 hK).1
    clear htk hkp hov hend
    gi_wp2
    have hset := hbx.set (.slice pq xs.length cq)
    have hne : D ≠ w.heap.size + 1 := fun e => by rw [e] at hK; rw [show W.heap[w.heap.size + 1]? = _ from hbx] at hK; cases hK
    have hk1 := Kept.set1 W (w.heap.size + 1) 0 (.slice pq xs.length cq)
    have hK9 : (W.setCell ⟨w.heap.size + 1, 0, none⟩ (.slice pq xs.length cq)).heap[D]? = some (.deferred (some [])) := (hk1.block D HDL.out hne).trans hK
    have hgb := grownBy_putObj' (W.setCell ⟨w.heap.size + 1, 0, none⟩ (.slice pq xs.length cq)) D (.deferred none)
    have hk2 : Kept (fun k => k = D) (W.setCell ⟨w.heap.size + 1, 0, none⟩ (.slice pq xs.length cq)) ((W.setCell ⟨w.heap.size + 1, 0, none⟩ (.slice pq xs.length cq)).putObj D (.deferred none)) := ⟨hgb.os, hgb.tape, hgb.output, hgb.size, fun k hk hn => hgb.block k hk (fun e => hn (by cases e; rfl))⟩
    have hk3 : Kept (fun k => k = w.heap.size + 1 ∨ k = D) W ((W.setCell ⟨w.heap.size + 1, 0, none⟩ (.slice pq xs.length cq)).putObj D (.deferred none)) := (hk1.mono (fun _ _ h => .inl h)).trans hk2 (fun _ _ h => .inr h)
    have hc9 : ((W.setCell ⟨w.heap.size + 1, 0, none⟩ (.slice pq xs.length cq)).putObj D (.deferred none)).cell? ⟨w.heap.size + 1, 0, none⟩ = some (.slice pq xs.length cq) := by
      have h5 := (hk2.block (w.heap.size + 1) (Nat.lt_of_lt_of_le hbx.lt hk1.size) (fun e => hne e.symm)).trans hset
      exact Boxed.cell (t := 36) h5
    refine ⟨by simp, .inl ⟨_, _, rfl, run_takeDeferred hK9, ?_⟩⟩
    have hd := cutsP_done HTK.out.le HEND.out
    obtain ⟨vt, htt, hvt⟩ := HTK.out.tab
    have hlo : ∀ k, (k = w.heap.size + 1 ∨ k = D) → w.heap.size < k := fun k h => by
      rcases h with h | h
      · omega
      · omega
    have hall : ∀ g, GDAt W base g → g ∈ gs → GDAt ((W.setCell ⟨w.heap.size + 1, 0, none⟩ (.slice pq xs.length cq)).putObj D (.deferred none)) base g := fun g hg hgm =>
      GrpAt.keptZ hg hk3 (fun h => by have h1 := hlo _ h; have h2 := GrpAt.lt (HT.out.grp g hgm); omega) (fun h => by have h1 := hlo _ h; have h2 := (HT.out.grp g hgm).map.lt; omega) (fun k e h => by
        obtain ⟨u, o, h5⟩ := GrpAt.vlt (HT.out.grp g hgm) k e
        have h1 := hlo _ h
        have h2 := blt h5
        omega) (fun p hp k e h => by
        rcases (hg.vals p hp).2 with ⟨e2, _⟩ | ⟨g2, cap, cur, e2, _, hg5, _⟩
        · rw [e2] at e
          cases e
        · rw [e2] at e
          obtain rfl : g2 = k := by simpa [Value.ownBlock] using e
          rcases h with h | h
          · rw [h, show W.heap[w.heap.size + 1]? = _ from hbx] at hg5
            simp only [Option.some.injEq, Obj.cells.injEq] at hg5
            exact absurd hg5.2.1 (by decide)
          · rw [h, hK] at hg5
            cases hg5)
    have hxs : xs = gs.filter fun g => decide (g.H.deadline ≤ now) := by
      have h1 := HTK.out.pre_is
      rw [hd.1, List.take_of_length_le (Nat.le_refl _)] at h1
      exact h1
    rw [hd.2] at htt
    refine ⟨_, results_cell_slice rfl _ _ (w.heap.size + 1) _ rfl hc9 Try.underlying36, _, rfl, vt, ⟨htt.row.keptS hk3 (fun h => by have h1 := hlo _ h; have h2 := HT.out.row.lt; omega) (fun k e h => by have h1 := hlo _ h; have h2 := (HT.out.row.ents.lt k (by rw [← hvt]; exact e)).2; omega), fun g hg => hall g (htt.grp g hg) (List.mem_filter.1 hg).1, htt.far, htt.maps⟩, hvt, ?_, fun g hg => hall g (HTK.out.all g hg) hg, HKP.out.trans hk3 (fun i hi h => by have h1 := hlo _ h; omega)⟩
    rw [← hxs]
    refine ownsRow_weaken (base := w4.heap.size) (ownsRow_keptS hov2 hk3 (fun k e h => ?_)) (by omega)
    rcases h with h | h
    · have := (hov2.lt k e).1
      omega
    · obtain ⟨_, C, h6⟩ := own_cells hov2 k e
      rw [h, hK] at h6
      cases h6
end
end -- TbQ

end Go.Proofs.Ytibelpamolcmcaa
