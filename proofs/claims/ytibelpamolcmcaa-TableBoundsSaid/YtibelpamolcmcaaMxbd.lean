/-
  TbN: A loop over a function that writes as it goes: what holds between rounds, what holds where an element is handed on, what holds in the end.
  TbO: Layer 18: groups that are taken away, one by one.
  TbP: Layer 18: the iterator of those that are taken away, for every loop body.
-/
import Derived.Test.YtibelpamolcmcaaMxbc
import Derived.RangeFuncWrites
namespace Go.Proofs.Ytibelpamolcmcaa

section -- TbN
open Go.RowKit Go.Maps
set_option linter.unusedVariables false

section
variable {F : Fence} {n : Nat} {P : Program}
/-- How a round may be left. -/
def postW {α : Type} (B : Nat) (Z : List α → World → Prop) (Xs : Code → List α → World → Prop) (xs : List α) (W : World) : Exit → Act → World → Prop
  | .normal, _, W' => KeepsFrom B W W' ∧ Z xs W'
  | .ret, _, W' => KeepsFrom B W W' ∧ Xs .ret xs W'
  | .exit id, _, W' => KeepsFrom B W W' ∧ Xs (.exit id) xs W'
  | .goto t, _, W' => KeepsFrom B W W' ∧ Xs (.goto t) xs W'
  | .panic _, _, _ => False
  | .outgrown, _, _ => False
/-- What speaks of no cells from B on stays where they stay. -/
def Apart (B : Nat) (L : World → Prop) : Prop := ∀ A C, L A → KeepsFrom B A C → L C
theorem keepsFrom_put {B k : Nat} {W : World} {o o' : Obj} (hk : W.heap[k]? = some o) : ∀ j (q : Obj), B ≤ j → W.heap[j]? = some q → j ≠ k → (W.putObj k o').heap[j]? = some q := fun j q _ hj hne => (World.putObj_heap_other hne).trans hj

theorem wpIn_rangeFunc_w {α : Type} {g : Operand} {ps : Array Tmp} {assign body : Code} {Q : Exit → Act → World → Prop} {a : Act} {w : World}
    (hro : F.round = none) (h1 : 1 ≤ n) {gf : Nat} {lb : Array Value} (hg : a.eval g = .func (.func gf) #[] lb) (hFg : F.fn gf) (eg : ∀ args w, (callFunc gf args).run P w = .ok (.enter gf args) w)
    {encs : α → Array Value} (Z : List α → World → Prop) (Y : List α → α → World → Prop) (Y1 : List α → α → Act → World → Prop) (Dn : List α → World → Prop) (Xs : Code → List α → World → Prop)
    (hZ : OwnFrom w.heap.size Z) (hY1 : ∀ x a', OwnFrom w.heap.size (fun pre => Y1 pre x a')) (hDn : OwnFrom w.heap.size Dn) (hXs : ∀ c, OwnFrom w.heap.size (Xs c))
    (hps : ∀ x, (encs x).size = ps.size) (h0 : Z [] w)
    (hiter : ∀ (l : Nat) (L : World → Prop) (Lx : Code → World → Prop) (W : World), Below w.heap.size w W → Apart w.heap.size L → (∀ c, Apart w.heap.size (Lx c)) → Z [] W → L W →
      (∀ pre x W1, Y pre x W1 → L W1 → YieldAt F (n - 1 - 1) P l (encs x) W1 fun e W' =>
        (e = .returned (.bool true) ∧ Z (pre ++ [x]) W' ∧ L W') ∨ (e = .returned (.bool false) ∧ ∃ c, Xs c (pre ++ [x]) W' ∧ Lx c W')) →
      CallsIn F (n - 1) P gf (#[.func (.yield l) #[] #[]] ++ lb) W fun e W' => (∃ v, e = .returned v) ∧ ((∃ xs, Dn xs W' ∧ L W') ∨ (∃ c pre, Xs c pre W' ∧ Lx c W')))
    (hassign : ∀ (l : Nat) (pre : List α) (x : α) (W : World) (K : Act → World → Prop), Y pre x W → (∀ a' W', KeepsFrom w.heap.size W W' → Y1 pre x a' W' → K a' W') →
      assign.wpIn (F.inRound l) (n - 1 - 1) P (Exit.then K (fun _ _ _ => False)) { tmps := (ps.zip (encs x)).foldl (fun t (p, v) => t.setIfInBounds p v) a.tmps, defers := [] } W)
    (hbody : ∀ (l : Nat) (pre : List α) (x : α) (a' : Act) (W : World), Y1 pre x a' W → body.wpIn (F.inRound l) (n - 1 - 1) P (postW w.heap.size Z Xs (pre ++ [x]) W) a' W)
    (hdone : ∀ (D : Nat) (xs : List α) (W : World), w.heap.size ≤ D → Dn xs W → W.heap[D]? = some (.deferred (some [])) → Q .normal { a with defers := { target := .collected D, args := #[] } :: a.defers } W)
    (hstop : ∀ (D : Nat) (c : Code) (pre : List α) (W : World), w.heap.size ≤ D → Xs c pre W → W.heap[D]? = some (.deferred (some [])) → c.wpIn F n P Q { a with defers := { target := .collected D, args := #[] } :: a.defers } W) :
    (Code.rangeFunc g ps assign body).wpIn F n P Q a w := by
  refine wpIn_rangeFunc fun fn hfn => ?_
  rw [hro]
  -- the loop's record, its two blocks
  let rd (st : LoopState) (pe : Option Code) : Obj := .loop { state := st, pending := pe, fn, tmps := a.tmps, params := ps, assign, body, defers := w.heap.size }
  let fin (o : Obj) (W : World) : Prop := W.heap[w.heap.size + 1]? = some o ∧ W.heap[w.heap.size]? = some (.deferred (some []))
  have keep : ∀ o, o.isCells = false → Apart w.heap.size (fin o) := fun o ho A C hA hk => ⟨hk.same _ _ (by omega) hA.1 ho, hk.same _ _ (Nat.le_refl _) hA.2 rfl⟩
  obtain ⟨V, hV⟩ : ∃ V, (w.alloc (.deferred (some []))).alloc (rd .ready none) = V := ⟨_, rfl⟩
  have hV1 : fin (rd .ready none) V := by
    rw [← hV]
    refine ⟨?_, (Below.heap_alloc _ _ _ (by simp)).trans (World.alloc_heap_new w _)⟩
    have := World.alloc_heap_new (w.alloc (.deferred (some []))) (rd .ready none)
    rwa [World.size_alloc] at this
  have hVB : Below w.heap.size w V := by
    rw [← hV]
    exact ((Below.refl _ w).alloc (Nat.le_refl _) _).alloc (by simp) _
  have hVZ : Z [] V := by
    rw [← hV]
    exact hZ.alloc _ (hZ.alloc _ h0)
  have other : ∀ {o o' : Obj} {W : World}, fin o W → fin o' (W.putObj (w.heap.size + 1) o') := fun {o o' W} h => ⟨World.putObj_heap_same (Array.getElem?_eq_some_iff.1 h.1).1, (World.putObj_heap_other (by omega)).trans h.2⟩
  refine ⟨w.heap.size + 1, [{ target := .collected w.heap.size, args := #[] }], V, { target := .fn (.func gf) lb, args := #[.func (.yield (w.heap.size + 1)) #[] #[]] }, V, gf, #[.func (.yield (w.heap.size + 1)) #[] #[]] ++ lb, V, ?_, ?_, ?_, ?_, fun _ => h1, ?_⟩
  · rw [← hV]
    exact run_enterLoop_outer _ _ _ _ _
  · simp only [resolve, hg]
    simp [go_sem]
  · intro f' hf'
    simp [Target.leads] at hf'
    subst hf'
    exact hFg
  · simp [invoke, go_sem, eg]
  refine (hiter (w.heap.size + 1) (fin (rd .ready none)) (fun c => fin (rd .done (some c))) V hVB (keep _ rfl) (fun c => keep _ rfl) hVZ hV1 ?_).mono ?_
  · intro pre x W hYx hL
    refine ⟨fn, _, assign, body, run_yield hL.1 (hps x), roundIn_of_wpIn hfn (hassign _ pre x W _ hYx fun a' W' hk hY1x => ?_)⟩
    have hL' := keep _ rfl _ _ hL hk
    refine ⟨_, run_beginRound hL'.1 rfl, ?_⟩
    have hb : fin (rd .busy none) (W'.putObj (w.heap.size + 1) (rd .busy none)) := other hL'
    refine wpIn_mono (hbody _ pre x a' _ (OwnFrom.putObj (I := fun p => Y1 p x a') (hY1 x a') _ hY1x (by omega) hL'.1 rfl)) ?_
    rintro e a3 W3 hp
    cases e with
    | normal =>
      have h3 := keep _ rfl _ _ hb hp.1
      exact ⟨_, _, run_endRound none h3.1, .inl ⟨rfl, hZ.putObj _ hp.2 (by omega) h3.1 rfl, other h3⟩⟩
    | ret =>
      have h3 := keep _ rfl _ _ hb hp.1
      exact ⟨_, _, run_endRound (some .ret) h3.1, .inr ⟨rfl, .ret, (hXs _).putObj _ hp.2 (by omega) h3.1 rfl, other h3⟩⟩
    | exit id =>
      have h3 := keep _ rfl _ _ hb hp.1
      exact ⟨_, _, run_endRound (some (.exit id)) h3.1, .inr ⟨rfl, .exit id, (hXs _).putObj _ hp.2 (by omega) h3.1 rfl, other h3⟩⟩
    | goto t =>
      have h3 := keep _ rfl _ _ hb hp.1
      exact ⟨_, _, run_endRound (some (.goto t)) h3.1, .inr ⟨rfl, .goto t, (hXs _).putObj _ hp.2 (by omega) h3.1 rfl, other h3⟩⟩
    | panic ch => exact hp.elim
    | outgrown => exact hp.elim
  · rintro e W2 ⟨⟨v, rfl⟩, ⟨xs, hD, hL⟩ | ⟨c, pre, hX, hL⟩⟩
    · exact ⟨none, _, run_endLoop hL.1 (by simp), hdone _ xs _ (Nat.le_refl _) (hDn.putObj _ hD (by omega) hL.1 rfl) ((World.putObj_heap_other (by omega)).trans hL.2)⟩
    · exact ⟨some c, _, run_endLoop hL.1 (by simp), hstop _ c pre _ (Nat.le_refl _) ((hXs c).putObj _ hX (by omega) hL.1 rfl) ((World.putObj_heap_other (by omega)).trans hL.2)⟩
end
end -- TbN

section -- TbO
open Go.RowKit Go.Maps Go.Shelf Go.Sort

attribute [local go_sem] Oper.semAt_some
set_option linter.unusedVariables false
set_option linter.unusedSimpArgs false
set_option maxRecDepth 100000
set_option maxHeartbeats 4000000

def firstP (p : GD → Bool) (gs : List GD) : Nat := gs.findIdx p
def cutP (p : GD → Bool) (gs : List GD) : List GD := gs.take (firstP p gs) ++ gs.drop (firstP p gs + 1)
def cutsP (p : GD → Bool) (gs : List GD) : Nat → List GD
  | 0 => gs
  | m + 1 => cutP p (cutsP p gs m)
theorem firstP_split {p : GD → Bool} : ∀ {gs : List GD}, firstP p gs < gs.length → ∃ A x B, gs = A ++ x :: B ∧ (∀ g ∈ A, p g = false) ∧ p x = true ∧ firstP p gs = A.length
  | [], h => by simp at h
  | g :: r, h => by
    cases e : p g with
    | false =>
      have h6 : firstP p (g :: r) = firstP p r + 1 := by unfold firstP; rw [List.findIdx_cons]; simp [e]
      rw [h6] at h
      obtain ⟨A, x, B, h1, h2, h3, h4⟩ := firstP_split (gs := r) (by simpa using h)
      refine ⟨g :: A, x, B, by rw [h1]; rfl, fun y hy => ?_, h3, by rw [h6, h4]; rfl⟩
      rcases List.mem_cons.1 hy with rfl | hy
      · exact e
      · exact h2 y hy
    | true => exact ⟨[], g, r, rfl, fun y hy => by simp at hy, e, by unfold firstP; rw [List.findIdx_cons]; simp [e]⟩
theorem cutP_split {p : GD → Bool} {gs : List GD} (h : firstP p gs < gs.length) : ∃ A x B, gs = A ++ x :: B ∧ cutP p gs = A ++ B ∧ (∀ g ∈ A, p g = false) ∧ p x = true ∧ gs.getD (firstP p gs) default = x ∧ gs.filter p = x :: (cutP p gs).filter p := by
  obtain ⟨A, x, B, h1, h2, h3, h4⟩ := firstP_split h
  have hA : A.filter p = [] := List.filter_eq_nil_iff.2 fun g hg => by simp [h2 g hg]
  have hc : cutP p gs = A ++ B := by
    unfold cutP
    rw [h4, h1, List.take_left, show A ++ x :: B = (A ++ [x]) ++ B by simp, show A.length + 1 = (A ++ [x]).length by simp, List.drop_left]
  refine ⟨A, x, B, h1, hc, h2, h3, ?_, ?_⟩
  · rw [h4, h1]
    simp [List.getD_eq_getElem?_getD]
  · rw [hc, h1, List.filter_append, List.filter_append, hA, List.filter_cons_of_pos h3]
    rfl
theorem cutP_sub (p : GD → Bool) (gs : List GD) : (cutP p gs).Sublist gs := by
  by_cases h : firstP p gs < gs.length
  · obtain ⟨A, x, B, h1, h2, _⟩ := cutP_split h
    rw [h2, h1]
    exact List.Sublist.append (List.Sublist.refl A) (List.sublist_cons_self x B)
  · unfold cutP
    rw [List.take_of_length_le (by omega), List.drop_eq_nil_of_le (by omega), List.append_nil]
    exact List.Sublist.refl _
theorem cutsP_sub (p : GD → Bool) (gs : List GD) : ∀ m, (cutsP p gs m).Sublist gs
  | 0 => List.Sublist.refl _
  | m + 1 => (cutP_sub p _).trans (cutsP_sub p gs m)
theorem firstP_none {p : GD → Bool} {gs : List GD} (h : ¬ firstP p gs < gs.length) : gs.filter p = [] := List.filter_eq_nil_iff.2 fun g hg e => h (List.findIdx_lt_length.2 ⟨g, hg, e⟩)
/-- m taken: the first ones of those. -/
theorem cutsP_filter {p : GD → Bool} {gs : List GD} : ∀ {m : Nat}, m ≤ (gs.filter p).length → (cutsP p gs m).filter p = (gs.filter p).drop m
  | 0, _ => rfl
  | m + 1, h => by
    have ih := cutsP_filter (p := p) (gs := gs) (m := m) (by omega)
    have h0 : firstP p (cutsP p gs m) < (cutsP p gs m).length := by
      refine Classical.byContradiction fun hn => ?_
      have h2 := firstP_none hn
      rw [ih] at h2
      have := congrArg List.length h2
      simp at this
      omega
    obtain ⟨A, x, B, _, _, _, _, _, h6⟩ := cutP_split h0
    show (cutP p (cutsP p gs m)).filter p = _
    have e : ((cutsP p gs m).filter p).drop 1 = (cutP p (cutsP p gs m)).filter p := by rw [h6]; rfl
    rw [← e, ih, List.drop_drop]
theorem cutsP_next {p : GD → Bool} {gs : List GD} {m : Nat} (hm : m ≤ (gs.filter p).length) (h : firstP p (cutsP p gs m) < (cutsP p gs m).length) : m < (gs.filter p).length ∧ (gs.filter p).take (m + 1) = (gs.filter p).take m ++ [(cutsP p gs m).getD (firstP p (cutsP p gs m)) default] := by
  have e := cutsP_filter (p := p) (gs := gs) hm
  obtain ⟨A, x, B, _, _, _, _, h5, h6⟩ := cutP_split h
  rw [e] at h6
  have hlt : m < (gs.filter p).length := by
    have := congrArg List.length h6
    simp at this
    omega
  refine ⟨hlt, ?_⟩
  rw [h5, List.take_succ_eq_append_getElem hlt]
  congr 2
  rw [List.drop_eq_getElem_cons hlt] at h6
  exact (List.cons.inj h6).1
/-- In the end: those that are not such. -/
theorem cutsP_end {p : GD → Bool} {gs : List GD} : ∀ {m : Nat}, m ≤ (gs.filter p).length → (cutsP p gs m).filter (fun g => !p g) = gs.filter (fun g => !p g)
  | 0, _ => rfl
  | m + 1, h => by
    have ih := cutsP_end (p := p) (gs := gs) (m := m) (by omega)
    show (cutP p (cutsP p gs m)).filter _ = _
    rw [← ih]
    by_cases h0 : firstP p (cutsP p gs m) < (cutsP p gs m).length
    · obtain ⟨A, x, B, h1, h2, _, h4, _⟩ := cutP_split h0
      rw [h2, h1, List.filter_append, List.filter_append, List.filter_cons_of_neg (by simp [h4])]
    · unfold cutP
      rw [List.take_of_length_le (by omega), List.drop_eq_nil_of_le (by omega), List.append_nil]
theorem cutsP_done {p : GD → Bool} {gs : List GD} {m : Nat} (hm : m ≤ (gs.filter p).length) (h : ¬ firstP p (cutsP p gs m) < (cutsP p gs m).length) : m = (gs.filter p).length ∧ cutsP p gs m = gs.filter (fun g => !p g) := by
  have e := cutsP_filter (p := p) (gs := gs) hm
  have h2 := firstP_none h
  rw [h2] at e
  have e2 := cutsP_end (p := p) (gs := gs) hm
  refine ⟨?_, ?_⟩
  · have := congrArg List.length e
    simp at this
    omega
  · rw [← e2]
    refine (List.filter_eq_self.2 fun g hg => ?_).symm
    have := List.filter_eq_nil_iff.1 h2 g hg
    simpa using this

section
variable {w w' : World} {base tb : Nat} {gn cn : Int} {v : Value} {gs : List GD}
/-- Objects that are no cells, from B on, turn: a loop's own. -/
def NonC (B : Nat) (W : World) (k : Nat) : Prop := B ≤ k ∧ ∃ o : Obj, W.heap[k]? = some o ∧ o.isCells = false
theorem kept_grown {B : Nat} {row : Option Nat} (hg : w.grownBy w' row) (hr : ∀ r, row = some r → B ≤ r ∧ ∃ o : Obj, w.heap[r]? = some o ∧ o.isCells = false) : Kept (NonC B w) w w' := ⟨hg.os, hg.tape, hg.output, hg.size, fun k hk hn => hg.block k hk (fun e => hn (hr k e.symm))⟩
theorem nonC_cells {B k : Nat} {C : Array Value} {t : TypeId} {fr : Nat × Nat} (h : w.heap[k]? = some (.cells C t fr)) : ¬ NonC B w k := fun ⟨_, o, h1, h2⟩ => by
  rw [h] at h1
  cases h1
  cases h2
theorem nonC_cell {B k o : Nat} {u : Value} (h : w.cell? ⟨k, o, none⟩ = some u) : ¬ NonC B w k := fun ⟨_, ob, h1, h2⟩ => by
  unfold World.cell? at h
  rw [h1] at h
  cases ob <;> simp_all [Obj.isCells]
theorem RowAt.nonC {B : Nat} {L : List Ent} (h : RowAt w base tb gn cn v L) (hk : Kept (NonC B w) w w') : RowAt w' base tb gn cn v L :=
  h.keptS hk (nonC_cells h.blk) (fun k e => by
    rcases h.ents.2 with ⟨e2, _⟩ | ⟨g, cap, cur, e2, _, hg, _⟩
    · rw [e2] at e
      cases e
    · rw [e2] at e
      obtain rfl : g = k := by simpa [Value.ownBlock] using e
      exact nonC_cells hg)
theorem GDAt.nonC {B : Nat} {g : GD} (h : GDAt w base g) (hb : g.bm < B) (hk : Kept (NonC B w) w w') : GDAt w' base g :=
  GrpAt.keptZ h hk (nonC_cells h.blk) (fun hs => by have := hs.1; omega) (fun k e => by obtain ⟨u, o, h1⟩ := GrpAt.vlt h k e; exact nonC_cell h1) (fun p hp k e => by
    rcases (h.vals p hp).2 with ⟨e2, _⟩ | ⟨g2, cap, cur, e2, _, hg, _⟩
    · rw [e2] at e
      cases e
    · rw [e2] at e
      obtain rfl : g2 = k := by simpa [Value.ownBlock] using e
      exact nonC_cells hg)
theorem TabS.nonC {B : Nat} (h : TabS w base tb gn cn v gs) (hb : ∀ g ∈ gs, g.bm < B) (hk : Kept (NonC B w) w w') : TabS w' base tb gn cn v gs :=
  ⟨h.row.nonC hk, fun g hg => (h.grp g hg).nonC (hb g hg) hk, h.far, h.maps⟩
theorem cell_nonC {B : Nat} {q : Addr} {u : Value} (h : w.cell? q = some u) (hq : q.spot = none) (hk : Kept (NonC B w) w w') : w'.cell? q = some u := by
  obtain ⟨k, o, sp⟩ := q
  cases hq
  exact (hk.cell (p := ⟨k, o, none⟩) (blt h) (nonC_cell h)).trans h
end
end -- TbO

section -- TbP
open Go.RowKit Go.Maps Go.Shelf Go.Sort

attribute [local go_sem] Oper.semAt_some
set_option linter.unusedVariables false
set_option linter.unusedSimpArgs false
set_option maxRecDepth 100000
set_option maxHeartbeats 4000000

/-- Where the loop stands: those that are taken, the table behind that; the iterator's boxes. -/
structure TkC (base tb : Nat) (gn cn : Int) (v : Value) (gs : List GD) (p : GD → Bool) (Br Bi bq pf : Nat) (q : Int) (pre : List GD) (W : World) : Prop where
  tab : ∃ vt, TabS W base tb gn cn vt (cutsP p gs pre.length) ∧ vt.ownBlock = v.ownBlock
  le : pre.length ≤ (gs.filter p).length
  pre_is : pre = (gs.filter p).take pre.length
  all : ∀ g ∈ gs, GDAt W base g
  far : ∀ g ∈ gs, ∀ k, g.vr.ownBlock = some k → ¬ RowS tb v k
  br : W.cell? ⟨Br, 0, none⟩ = some (.pointer (some ⟨tb, 0, none⟩))
  bi : W.cell? ⟨Bi, 0, none⟩ = some (.func (.func pf) #[] #[.pointer (some ⟨bq, 0, none⟩)])
  qc : W.cell? ⟨bq, 0, none⟩ = some (.int .i64 q)
  nr : ¬ RowS tb v Br ∧ ¬ RowS tb v Bi ∧ ¬ RowS tb v bq
section
variable {w w' : World} {base tb : Nat} {gn cn : Int} {v : Value} {gs : List GD} {p : GD → Bool} {Br Bi bq pf : Nat} {q : Int} {pre : List GD}
theorem TkC.below (h : TkC base tb gn cn v gs p Br Bi bq pf q pre w) (hB : Below w.heap.size w w') : TkC base tb gn cn v gs p Br Bi bq pf q pre w' := by
  obtain ⟨vt, h1, h2⟩ := h.tab
  exact ⟨⟨vt, h1.below hB, h2⟩, h.le, h.pre_is, fun g hg => GrpAt.below (h.all g hg) hB, h.far, (hB.cell (p := ⟨Br, 0, none⟩) (blt h.br)).trans h.br, (hB.cell (p := ⟨Bi, 0, none⟩) (blt h.bi)).trans h.bi, (hB.cell (p := ⟨bq, 0, none⟩) (blt h.qc)).trans h.qc, h.nr⟩
theorem TkC.nonC {B : Nat} (h : TkC base tb gn cn v gs p Br Bi bq pf q pre w) (hb : ∀ g ∈ gs, g.bm < B) (hk : Kept (NonC B w) w w') : TkC base tb gn cn v gs p Br Bi bq pf q pre w' := by
  obtain ⟨vt, h1, h2⟩ := h.tab
  exact ⟨⟨vt, h1.nonC (fun g hg => hb g ((cutsP_sub p gs pre.length).subset hg)) hk, h2⟩, h.le, h.pre_is, fun g hg => (h.all g hg).nonC (hb g hg) hk, h.far, cell_nonC h.br rfl hk, cell_nonC h.bi rfl hk, cell_nonC h.qc rfl hk, h.nr⟩
theorem cutP_ents (p : GD → Bool) (gs : List GD) : (gs.map entG).take (firstP p gs) ++ (gs.map entG).drop (firstP p gs + 1) = (cutP p gs).map entG := by
  unfold cutP
  rw [List.map_append, List.map_take, List.map_drop]
/-- The next one is taken. -/
theorem TkC.next {vt v' : Value} (h : TkC base tb gn cn v gs p Br Bi bq pf q pre w) (ht : TabS w base tb gn cn vt (cutsP p gs pre.length)) (hvt : vt.ownBlock = v.ownBlock) (hm : firstP p (cutsP p gs pre.length) < (cutsP p gs pre.length).length)
    (hr : RowAt w' base tb gn cn v' (((cutsP p gs pre.length).map entG).take (firstP p (cutsP p gs pre.length)) ++ ((cutsP p gs pre.length).map entG).drop (firstP p (cutsP p gs pre.length) + 1))) (hk : Kept (RowS tb vt) w w') (e : v'.ownBlock = vt.ownBlock) :
    TkC base tb gn cn v gs p Br Bi bq pf q (pre ++ [(cutsP p gs pre.length).getD (firstP p (cutsP p gs pre.length)) default]) w' := by
  obtain ⟨h1, h2⟩ := cutsP_next h.le hm
  have hkv : Kept (RowS tb v) w w' := hk.mono (fun k _ hs => (rowS_own hvt k).1 hs)
  have hl : (pre ++ [(cutsP p gs pre.length).getD (firstP p (cutsP p gs pre.length)) default]).length = pre.length + 1 := by simp
  rw [cutP_ents] at hr
  refine ⟨⟨v', ?_, e.trans hvt⟩, by rw [hl]; exact h1, by rw [hl, h2, ← h.pre_is], fun g hg => (h.all g hg).row ht.row hk (fun k e2 hs => h.far g hg k e2 ((rowS_own hvt k).1 hs)), h.far, (hkv.cell (p := ⟨Br, 0, none⟩) (blt h.br) h.nr.1).trans h.br, (hkv.cell (p := ⟨Bi, 0, none⟩) (blt h.bi) h.nr.2.1).trans h.bi, (hkv.cell (p := ⟨bq, 0, none⟩) (blt h.qc) h.nr.2.2).trans h.qc, h.nr⟩
  rw [hl]
  show TabS w' base tb gn cn v' (cutP p (cutsP p gs pre.length))
  exact ⟨hr, fun g hg => (ht.grp g ((cutP_sub p _).subset hg)).row ht.row hk (ht.far g ((cutP_sub p _).subset hg)), fun g hg k hk2 hs => ht.far g ((cutP_sub p _).subset hg) k hk2 ((rowS_own e k).1 hs), List.Pairwise.sublist ((cutP_sub p _).map _) ht.maps⟩
def lenW (tb : Nat) (W : World) : Nat := lenV ((W.cell? ⟨tb, 0, none⟩).getD undef)
theorem lenW_is {vt : Value} {L : List GD} (h : TabS w base tb gn cn vt L) : lenW tb w = L.length := by
  obtain ⟨p, c, e, _⟩ := h.row.ents.shape
  unfold lenW
  rw [h.row.c0, e]
  show (L.map entG).length = _
  rw [List.length_map]
def idxP (p : GD → Bool) (L : List GD) : Int := if firstP p L < L.length then ((firstP p L : Nat) : Int) else -1
theorem idx_firstP (pe : Ent → Bool) (L : List GD) : idxO pe (L.map entG) = idxP (fun g => pe (entG g)) L := by
  unfold idxO idxP firstP
  rw [List.findIdx_map, List.length_map]
  rfl

theorem taken1_in (m l B : Nat) (hm1 : 6 ≤ m) (pe : Ent → Bool) (eg : ∀ args w, (callFunc pf args).run Try.prog w = .ok (.enter pf args) w) (htell : ∀ W : World, W.cell? ⟨bq, 0, none⟩ = some (.int .i64 q) → TellsO pf #[.pointer (some ⟨bq, 0, none⟩)] pe W)
    (I : List GD → World → Prop) (X : Code → List GD → World → Prop) (L : World → Prop) (Lx : Code → World → Prop) (hI : ∀ pre A C, I pre A → Kept (RowS tb v) A C → I pre C) (hL : Apart B L)
    (hY : ∀ pre x W1, (TkC base tb gn cn v gs (fun g => pe (entG g)) Br Bi bq pf q (pre ++ [x]) W1 ∧ I pre W1) → L W1 → YieldAt Fence.wide (m - 1) Try.prog l #[.agg #[.pointer (some ⟨x.blk, 0, none⟩), .int .i64 x.H.frame, .int .i64 x.H.deadline]] W1 fun e W' =>
      (e = .returned (.bool true) ∧ (TkC base tb gn cn v gs (fun g => pe (entG g)) Br Bi bq pf q (pre ++ [x]) W' ∧ I (pre ++ [x]) W') ∧ L W') ∨ (e = .returned (.bool false) ∧ ∃ c, X c (pre ++ [x]) W' ∧ Lx c W'))
    (W : World) (h0 : TkC base tb gn cn v gs (fun g => pe (entG g)) Br Bi bq pf q [] W ∧ I [] W) (hL0 : L W) :
    CallsIn Fence.wide m Try.prog 44 #[.func (.yield l) #[] #[], .pointer (some ⟨Br, 0, none⟩), .pointer (some ⟨Bi, 0, none⟩)] W fun e W' => (∃ u, e = .returned u) ∧
      ((∃ xs, (TkC base tb gn cn v gs (fun g => pe (entG g)) Br Bi bq pf q xs W' ∧ I xs W' ∧ ¬ firstP (fun g => pe (entG g)) (cutsP (fun g => pe (entG g)) gs xs.length) < (cutsP (fun g => pe (entG g)) gs xs.length).length) ∧ L W') ∨ (∃ c pre, X c pre W' ∧ Lx c W')) := by
  have HFD := Lib.hid (fun (W : World) (pre : List GD) (h : TkC base tb gn cn v gs (fun g => pe (entG g)) Br Bi bq pf q pre W) => show Calls Try.prog 31 #[.pointer (some ⟨tb, 0, none⟩), .func (.func pf) #[] #[.pointer (some ⟨bq, 0, none⟩)]] W fun e w' => e = .returned (.int .i64 (idxP (fun g => pe (entG g)) (cutsP (fun g => pe (entG g)) gs pre.length))) ∧ Below W.heap.size W w' from by
    obtain ⟨vt, h1, _⟩ := h.tab
    have := find_any h1.row pe pf #[.pointer (some ⟨bq, 0, none⟩)] eg (htell W h.qc)
    rw [idx_firstP] at this
    exact this)
  have HKL := Lib.hid (fun (A C : World) (h : L A) (hB : Below A.heap.size A C) => hL A C h ⟨hB.size, fun k o _ hk _ => (hB.block k (Array.getElem?_eq_some_iff.1 hk).1).trans hk⟩)
  have HKI := Lib.hid (fun (pre : List GD) (A C : World) (h : I pre A) (hB : Below A.heap.size A C) => hI pre A C h ((Kept.below hB).mono (fun _ _ h => h.elim)))
  have r1 := h0.1.br
  have r2 := h0.1.bi
  have h1 : 1 ≤ m := by omega
  have hf1 : Fence.wide.fn 31 := trivial
  have hf2 : Fence.wide.fn 30 := trivial
  have H0 := Lib.hid h0
  have HY := Lib.hid hY
  have HI := Lib.hid hI
  have HLL := Lib.hid hL
  have HL0 := Lib.hid hL0
  clear hY hI hL h0 hL0
  refine callsIn_of_wp Try.func44 rfl trivial ?_ rfl
  simp only [Try.ntmps44, List.size_toArray, List.length_cons, List.length_nil, Nat.reduceAdd, Nat.reduceSub, Array.replicate_succ, Array.replicate_zero, List.push_toArray, List.append_toArray, List.nil_append, List.cons_append]
  gi_wp2_with (gi_at_call 31; refine (callsIn_wide.2 (HFD.out _ _ H0.out.1)).mono ?_; rintro e w1 ⟨rfl, hB1⟩; have HB1 := Lib.hid hB1; clear hB1)
  have HT1 := Lib.hid (H0.out.1.below HB1.out)
  have HI1 := Lib.hid (HKI.out _ _ _ H0.out.2 HB1.out)
  have HL1 := Lib.hid (HKL.out _ _ HL0.out HB1.out)
  clear r1 r2
  gi_loopw [4] (fun k wr => ∃ pre : List GD, k = .int .i64 (idxP (fun g => pe (entG g)) (cutsP (fun g => pe (entG g)) gs pre.length)) ∧ TkC base tb gn cn v gs (fun g => pe (entG g)) Br Bi bq pf q pre wr ∧ I pre wr ∧ L wr) (fun _ wr => lenW tb wr)
  case atStart => exact ⟨[], rfl, HT1.out, HI1.out, HL1.out⟩
  case round =>
    obtain ⟨wo, rfl⟩ : ∃ wo, wo = wr := ⟨_, rfl⟩
    obtain ⟨pre, rfl, htk, hi, hl⟩ := hrel
    have HTK := Lib.hid htk
    have HII := Lib.hid hi
    have HLo := Lib.hid hl
    have r1 := htk.br
    have r2 := htk.bi
    obtain ⟨vt, htt, hvt⟩ := htk.tab
    have HTT := Lib.hid htt
    have HVT := Lib.hid hvt
    clear htk hi hl htt hvt
    by_cases hlt : firstP (fun g => pe (entG g)) (cutsP (fun g => pe (entG g)) gs pre.length) < (cutsP (fun g => pe (entG g)) gs pre.length).length
    · have hix : idxP (fun g => pe (entG g)) (cutsP (fun g => pe (entG g)) gs pre.length) = ((firstP (fun g => pe (entG g)) (cutsP (fun g => pe (entG g)) gs pre.length) : Nat) : Int) := by unfold idxP; rw [if_pos hlt]
      rw [hix]
      obtain ⟨k1, hk1⟩ : ∃ x, firstP (fun g => pe (entG g)) (cutsP (fun g => pe (entG g)) gs pre.length) = x := ⟨_, rfl⟩
      obtain ⟨xb, hxb⟩ : ∃ x, (cutsP (fun g => pe (entG g)) gs pre.length).getD k1 default = x := ⟨_, rfl⟩
      have hgx : ((cutsP (fun g => pe (entG g)) gs pre.length).map entG).getD k1 (0, 0, 0) = (xb.blk, xb.H.frame, xb.H.deadline) := by rw [getD_ent (by omega), hxb]; rfl
      have hfl : k1 < ((cutsP (fun g => pe (entG g)) gs pre.length).map entG).length := by rw [List.length_map]; omega
      have HRM := Lib.hid (remove_any HTT.out.row k1 hfl)
      rw [hgx] at HRM
      dsimp only at HRM
      have HK1 := Lib.hid hk1
      have HXB := Lib.hid hxb
      have HLT := Lib.hid hlt
      rw [hk1]
      have hk0 : (0 : Int) ≤ (k1 : Int) := by omega
      clear hix hk1 hxb hgx hfl hlt
      gi_wp2_with fail
      refine (callsIn_wide.2 HRM.out).mono ?_
      rintro e w2 ⟨v2, rfl, hr2, hk2, ho2⟩
      have HK2 := Lib.hid (hk2.mono (fun k _ hs => (rowS_own HVT.out k).1 hs))
      have ht2 := HTK.out.next HTT.out HVT.out HLT.out (by rw [HK1.out]; exact hr2) hk2 ho2
      rw [HK1.out, HXB.out] at ht2
      have HT2 := Lib.hid ht2
      have HI2 := Lib.hid (HI.out _ _ _ HII.out HK2.out)
      have HL2 := Lib.hid (HLL.out _ _ HLo.out ⟨hk2.size, fun k o _ hk hc => (hk2.block k (Array.getElem?_eq_some_iff.1 hk).1 (fun hs => by
        obtain ⟨C, t, h1, _⟩ := rowS_cells HTT.out.row k hs
        rw [h1] at hk
        cases hk
        cases hc)).trans hk⟩)
      obtain ⟨fn, tmps, assign, body, hy, hR⟩ := HY.out pre xb w2 ⟨HT2.out, HI2.out⟩ HL2.out
      have HR := Lib.hid hR
      clear hR hr2 hk2 ho2 ht2 r1 r2
      gi_wp2_with fail
      refine HR.out.mono ?_
      rintro e w3 (⟨rfl, ⟨ht3, hi3⟩, hl3⟩ | ⟨rfl, c3, hx3, hl3⟩)
      · have HT3 := Lib.hid ht3
        have HI3 := Lib.hid hi3
        have HL3 := Lib.hid hl3
        have r1 := ht3.br
        have r2 := ht3.bi
        clear ht3 hi3 hl3 hy
        gi_wp2_with fail
        refine (callsIn_wide.2 (HFD.out _ _ HT3.out)).mono ?_
        rintro e w4 ⟨rfl, hB4⟩
        clear r1 r2
        gi_wp2
        go_roundw
        case rel => exact ⟨pre ++ [xb], by simp, HT3.out.below hB4, HKI.out _ _ _ HI3.out hB4, HKL.out _ _ HL3.out hB4⟩
        case measure =>
          obtain ⟨v4, h4, _⟩ := (HT3.out.below hB4).tab
          rw [lenW_is h4, lenW_is HTT.out]
          have h5 := cutP_split HLT.out
          obtain ⟨A, x, C, e1, e2, _⟩ := h5
          have e3 : (pre ++ [xb]).length = pre.length + 1 := by simp
          rw [e3]
          show (cutP _ (cutsP _ gs pre.length)).length < _
          rw [e2, e1]
          simp
      · gi_wp2
        refine bodyPost_ret (results_none rfl _ _ _) rfl ?_
        exact ⟨⟨_, rfl⟩, .inr ⟨c3, _, hx3, hl3⟩⟩
    · have hix : idxP (fun g => pe (entG g)) (cutsP (fun g => pe (entG g)) gs pre.length) = -1 := by unfold idxP; rw [if_neg hlt]
      rw [hix]
      clear hix r1 r2
      gi_wp2
      go_end0
      exact ⟨⟨_, rfl⟩, .inl ⟨pre, ⟨HTK.out, HII.out, hlt⟩, HLo.out⟩⟩
end
end -- TbP

end Go.Proofs.Ytibelpamolcmcaa
