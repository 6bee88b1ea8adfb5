/-
  StepQ: A region that draws its order, step by step: an operation is taken first; or those that may come up are gone through.
  CaE: get: a value that is kept.
-/
import Derived.Test.YtlmpagicjgldkaaGreatKept
import Derived.Deep.RegionHeld3
import Derived.Test.YtlmpagicjgldkaaGreatCaB
namespace Go.Proofs.YtlmpagicjgldkaaGreat

section -- StepQ
open Go.RowKit Go.Maps
set_option linter.unusedVariables false
set_option maxRecDepth 100000
set_option maxHeartbeats 4000000

def Tru (_ : World) : Prop := True
section
variable {P : Program} {ops : Array Oper} {Q : Exit → Act → World → Prop} {fuel : Nat} {listed : Array Bool} {a : Act} {w : World}
/-- Begin. -/
theorem q_start {id : Nat} (n : Nat) (hn : ops.size = n) (hm : P.follows .mixedOrders = true) (h : wpAnyH P .any ops (NoPanic Q) Tru n (Array.replicate n false) a w.drew) : (Code.region id ops true).wp P Q a w :=
  wp_region_noPanic (wp_region_held_drew (S := Tru) hm trivial (fun _ => by rw [hn]; exact h))
/-- Take number i first. -/
theorem q_take (i : Nat) (hs : Region.noSelect ops = true) (hf : Region.free .any ops listed i = true) (hr : (Region.ready .any ops listed).contains i = true) (hi : (ops[i]?).isSome = true)
    (H : ∀ oi, ops[i]? = some oi → ∃ v, YieldsIf P ops Tru oi v a ∧ wpAnyH P .any ops (NoPanic Q) Tru fuel (listed.setIfInBounds i true) (a.put oi.dst v) w) : wpAnyH P .any ops (NoPanic Q) Tru (fuel + 1) listed a w := by
  obtain ⟨oi, ho⟩ := Option.isSome_iff_exists.1 hi
  obtain ⟨v, hy, h⟩ := H oi ho
  exact wpAnyH_take ho hs hf hr (fun _ _ _ h => h) hy trivial h
/-- Go through those that may come up. -/
theorem q_all {rs : List Nat} (hr : Region.ready .any ops listed = rs) (hne : rs ≠ []) (h : AllReadyH P .any ops (NoPanic Q) Tru fuel listed a w rs) : wpAnyH P .any ops (NoPanic Q) Tru (fuel + 1) listed a w := wpAnyH_ready hr hne h
theorem q_step (i : Nat) {rs : List Nat} (hi : (ops[i]?).isSome = true)
    (H : ∀ o, ops[i]? = some o → ∀ K : Act → World → Prop, Shut (∀ a w, wpAnyH P .any ops (NoPanic Q) Tru fuel (listed.setIfInBounds i true) a w → K a w) → if Region.wanted o (yielded ops a.tmps) = true then Oper.wp P o a w K (NoPanic Q) else K (a.put o.dst undef) w)
    (hs : AllReadyH P .any ops (NoPanic Q) Tru fuel listed a w rs) : AllReadyH P .any ops (NoPanic Q) Tru fuel listed a w (i :: rs) := by
  obtain ⟨o, ho⟩ := Option.isSome_iff_exists.1 hi
  exact AllReadyH.cons ho (fun K hK => H o ho K (fun a w h => hK a w trivial (fun _ => h))) hs
theorem q_done (hr : Region.ready .any ops listed = []) (h : Q .normal a w) : wpAnyH P .any ops (NoPanic Q) Tru fuel listed a w := wpAnyH_done hr (NoPanic.normal h) fuel

variable {S : World → Prop}
/-- With something that holds of each world on the way. -/
theorem s_start {id : Nat} (n : Nat) (S : World → Prop) (hn : ops.size = n) (hm : P.follows .mixedOrders = true) (hS : S w.drew) (h : wpAnyH P .any ops (NoPanic Q) S n (Array.replicate n false) a w.drew) : (Code.region id ops true).wp P Q a w :=
  wp_region_noPanic (wp_region_held_drew (S := S) hm hS (fun _ => by rw [hn]; exact h))
theorem s_take (i : Nat) (hs : Region.noSelect ops = true) (hf : Region.free .any ops listed i = true) (hr : (Region.ready .any ops listed).contains i = true) (hi : (ops[i]?).isSome = true) (hS : S w)
    (H : ∀ oi, ops[i]? = some oi → ∃ v, YieldsIf P ops S oi v a ∧ wpAnyH P .any ops (NoPanic Q) S fuel (listed.setIfInBounds i true) (a.put oi.dst v) w) : wpAnyH P .any ops (NoPanic Q) S (fuel + 1) listed a w := by
  obtain ⟨oi, ho⟩ := Option.isSome_iff_exists.1 hi
  obtain ⟨v, hy, h⟩ := H oi ho
  exact wpAnyH_take ho hs hf hr (fun _ _ _ h => h) hy hS h
theorem s_all {rs : List Nat} (hr : Region.ready .any ops listed = rs) (hne : rs ≠ []) (h : AllReadyH P .any ops (NoPanic Q) S fuel listed a w rs) : wpAnyH P .any ops (NoPanic Q) S (fuel + 1) listed a w := wpAnyH_ready hr hne h
theorem s_step (i : Nat) {rs : List Nat} (hi : (ops[i]?).isSome = true)
    (H : ∀ o, ops[i]? = some o → ∀ K : Act → World → Prop, Shut (∀ a w, S w → wpAnyH P .any ops (NoPanic Q) S fuel (listed.setIfInBounds i true) a w → K a w) → if Region.wanted o (yielded ops a.tmps) = true then Oper.wp P o a w K (NoPanic Q) else K (a.put o.dst undef) w)
    (hs : AllReadyH P .any ops (NoPanic Q) S fuel listed a w rs) : AllReadyH P .any ops (NoPanic Q) S fuel listed a w (i :: rs) := by
  obtain ⟨o, ho⟩ := Option.isSome_iff_exists.1 hi
  exact AllReadyH.cons ho (fun K hK => H o ho K (fun a w hS h => hK a w hS (fun _ => h))) hs
theorem s_done (hr : Region.ready .any ops listed = []) (h : Q .normal a w) : wpAnyH P .any ops (NoPanic Q) S fuel listed a w := wpAnyH_done hr (NoPanic.normal h) fuel
end
end -- StepQ

section -- CaE
open Go.RowKit Go.Maps
set_option linter.unusedVariables false
set_option linter.unusedSimpArgs false
set_option maxRecDepth 100000
set_option maxHeartbeats 2000000

theorem yields_row {P : Program} {ops : Array Oper} {S : World → Prop} {op : Oper} {a : Act} (hw : Region.wanted op (yielded ops a.tmps) = true) (ty : TypeId) (x : Operand) (ho : op.op = .load ty x)
    (g : Nat) (hx : a.eval x = .pointer (some ⟨g, 0, none⟩)) (cs : Array Value) (t : TypeId) (fr : Nat × Nat) (d : TypeDesc) (hS : ∀ w, S w → w.heap[g]? = some (.cells cs t fr))
    (hu : P.underlying ty = some d) (hd : (match d with | .struct _ | .array _ _ => true | _ => false) = true) (hi : (P.info? ty).map (·.size) = some cs.size) : YieldsIf P ops S op (.agg cs) a :=
  .inl ⟨hw, fun w hw' => by
    unfold execOp
    simp only [ho, hx, Instr.loadAt, Instr.sureAddr, Sem.run_bind, Sem.run_pure, Result.andThen_ok, run_loadVar_row w g t ty cs fr d (hS w hw') hu hd hi]⟩
theorem frozen_kept {S : Nat → Prop} {w w' : World} (hk : Kept S w w') {b : Nat} (hb : b < w.heap.size) (hS : ¬ S b) (o : Nat) : w'.frozen? ⟨b, o, none⟩ = w.frozen? ⟨b, o, none⟩ := by
  unfold World.frozen?
  rw [hk.block b hb hS]
theorem zero_entry (w : World) : (zeroValue 90).run Tryz.prog w = .ok (.agg #[.slice none 0 0, .int .i64 0]) w := by kernel_rfl
/-- 'm[k] = v' at a step of a drawn region. -/
theorem step_put {ops : Array Oper} {o : Oper} {a : Act} {W : World} {K : Act → World → Prop} {Q : Exit → Act → World → Prop} {E : Prop} (hw : Region.wanted o (yielded ops a.tmps) = true) (m x v : Operand) (hop : o.op = .mapUpdate 60 m x v)
    (bm : Nat) (es : List (Lit × Value)) (h : MapIs W bm es) (k : Int) (xs : List Int) (hk : Idx k xs) (val : Value) (C : Array Value) (hC : keyV k xs = .agg C) (hm : a.eval m = .map (some bm)) (hx : a.eval x = .agg C) (hv : a.eval v = val) (hl : es.length < 1000000)
    (H : ∀ w', MapIs w' bm (es.filter (neK (kl k xs)) ++ [(kl k xs, val)]) → Kept (fun i => i = bm) W w' → K (a.put o.dst undef) w') : if Region.wanted o (yielded ops a.tmps) = true then Oper.wp Tryz.prog o a W K Q else E := by
  rw [if_pos hw]
  obtain ⟨w', hrun, h1, h2⟩ := h.put hk val hl
  rw [hC] at hrun
  have h3 := H w' h1 (kept_turned h2)
  unfold Oper.wp execOp
  simp only [hop, hm, hx, hv, Sem.run_bind, Sem.run_pure, hrun, Result.andThen_ok]
  exact h3

/-- An entry that is used now. -/
def CE.now (e : CE) (u : Nat) : CE := { e with u := u }
/-- It stands last. -/
noncomputable def addE (es : List CE) (e : CE) (u : Nat) : List CE := es.filter (fun x => neK e.L x.p) ++ [e.now u]
theorem addE_map (es : List CE) (e : CE) (u : Nat) : (addE es e u).map CE.p = (es.map CE.p).filter (neK e.L) ++ [(e.L, .agg #[e.v, .int .i64 (u : Int)])] := by
  unfold addE
  rw [List.map_append, List.filter_map]
  rfl
theorem CacheAt.add {w w' : World} {F : Nat → Prop} {b bm : Nat} {s : CS} (h : CacheAt w F b bm s) (hk : Kept (CK b bm) w w') (e : CE) (h2 : w'.cell? ⟨b, 2, none⟩ = some (.int .i64 ((s.now + 1 : Nat) : Int))) (hc : ∀ o, o ≠ 2 → w'.cell? ⟨b, o, none⟩ = w.cell? ⟨b, o, none⟩)
    (hf : ∀ o, w'.frozen? ⟨b, o, none⟩ = false) (hm : MapIs w' bm ((s.es.map CE.p).filter (neK e.L) ++ [(e.L, .agg #[e.v, .int .i64 ((s.now + 1 : Nat) : Int)])])) (hg : (e.now (s.now + 1)).Good s.n (s.now + 1)) (hM : Mat w F e) (hfull : (addE s.es e (s.now + 1)).length ≤ s.room) :
    CacheAt w' F b bm { s with now := s.now + 1, es := addE s.es e (s.now + 1) } := by
  have hmat : ∀ x, Mat w F x → Mat w' F x := fun x hx => by
    obtain ⟨U, hM, hU⟩ := hx
    exact ⟨U, hM.kept hk (fun i hi hs => hU i hi (by rcases hs with rfl | rfl; exact h.fb; exact h.fm)), hU⟩
  refine ⟨(hc 0 (by omega)).trans h.c0, (hc 1 (by omega)).trans h.c1, h2, (hc 3 (by omega)).trans h.c3, (hc 4 (by omega)).trans h.c4, (hc 5 (by omega)).trans h.c5, (hc 6 (by omega)).trans h.c6, (hc 7 (by omega)).trans h.c7, hf, by rw [addE_map]; exact hm, fun x hx => ?_, fun x hx => ?_, h.fb, h.fm, ?_, h.n1, h.n255, h.r1, h.r64, hfull⟩
  · rcases List.mem_append.1 hx with hx | hx
    · have g := h.good x (List.mem_filter.1 hx).1
      exact ⟨g.k1, g.kn, g.len, g.rng, g.nd, g.u1, Nat.le_succ_of_le g.un⟩
    · obtain rfl : x = e.now (s.now + 1) := by simpa using hx
      exact hg
  · rcases List.mem_append.1 hx with hx | hx
    · exact hmat x (h.mat x (List.mem_filter.1 hx).1)
    · obtain rfl : x = e.now (s.now + 1) := by simpa using hx
      exact hmat e hM
  · show (addE s.es e (s.now + 1)).Pairwise _
    unfold addE
    rw [List.pairwise_append]
    refine ⟨h.rise.filter _, by simp, fun x hx y hy => ?_⟩
    obtain rfl : y = e.now (s.now + 1) := by simpa using hy
    have := (h.good x (List.mem_filter.1 hx).1).un
    show x.u < s.now + 1
    omega

theorem get_no (w : World) {F : Nat → Prop} {b bm : Nat} {s : CS} (hc : CacheAt w F b bm s) (k : Int) (xs : List Int) (hk : Idx k xs) (hno : ∀ e ∈ s.es, e.L ≠ kl k xs) :
    Calls Tryz.prog 41 #[.pointer (some ⟨b, 0, none⟩), keyV k xs] w fun e w' => e = .returned (.tuple #[.slice none 0 0, .bool false]) ∧ Below w.heap.size w w' := by
  have HLK := Lib.hid (show ∀ W, Kept (fun _ => False) w W → (Instr.lookup 60 (.map (some bm)) (.agg (kcells k xs).toArray) true).run Tryz.prog W = .ok (.tuple #[.agg #[.slice none 0 0, .int .i64 0], .bool false]) W from fun W hW => by
    rcases (hc.map.kept hW (fun h => h)).look hk _ (zero_entry W) with ⟨p, hp, e, _⟩ | ⟨_, h⟩
    · obtain ⟨x, hx, rfl⟩ := List.mem_map.1 hp
      exact absurd e (hno x hx)
    · exact h)
  have c0 := hc.c0
  have hl := hc.lt
  have HKN := Lib.hid (kcells_len k xs)
  obtain ⟨C, hC⟩ : ∃ C, (kcells k xs).toArray = C := ⟨_, rfl⟩
  have HKV := Lib.hid (show keyV k xs = .agg C by unfold keyV; rw [hC])
  unfold keyV
  rw [hC] at HLK ⊢
  have hCs : (Tryz.prog.info? 86).map (·.size) = some C.size := by rw [← hC]; exact kc_hi k xs
  have HCS := Lib.hid hCs
  have HL := Lib.hid (show b < (w.alloc (.cells C 86)).heap.size by simp; omega)
  have HGL := Lib.hid (show w.heap.size < (w.alloc (.cells C 86)).heap.size by simp)
  have C0 := Lib.hid (alloc_cell c0 (.cells C 86))
  have HGN := Lib.hid (heap_alloc_new w (.cells C 86))
  have HK0 := Lib.hid (show Kept (fun _ => False) (w.alloc (.cells C 86)) (w.alloc (.cells C 86)).drew from ⟨rfl, rfl, rfl, Nat.le_refl _, fun _ _ _ => rfl⟩)
  have HKA := Lib.hid (Kept.alloc (fun _ => False) w (.cells C 86))
  have HBW := Lib.hid (show ∀ W, Kept (fun _ => False) (w.alloc (.cells C 86)) W → Below w.heap.size w W from fun W h => ((Kept.alloc (fun _ => False) w (.cells C 86)).trans h (fun _ _ h => h)).toBelow (Nat.le_refl _) (fun _ h => h.elim))
  clear hc hC hno hCs c0
  go_enter Tryz.func41, Tryz.ntmps41
  go_wp2_with fail
  refine s_start 12 (fun w' => Kept (fun _ => False) (w.alloc (.cells C 86)) w') (by as_aux_lemma => kernel_rfl) (by as_aux_lemma => kernel_rfl) HK0.out ?_
  refine s_take 0 (by as_aux_lemma => kernel_rfl) (by as_aux_lemma => kernel_rfl) (by as_aux_lemma => kernel_rfl) (by as_aux_lemma => kernel_rfl) HK0.out (fun oi ho => ?_)
  simp only [List.getElem?_toArray, List.getElem?_cons_succ, List.getElem?_cons_zero, Option.some.injEq] at ho
  subst ho
  refine ⟨?_, Or.inl ⟨by rfl, fun w _ => ?_⟩, ?_⟩
  rotate_left
  · (go_simp <;> with_reducible rfl)
  try simp only [Act.put, List.setIfInBounds_toArray, List.set_cons_zero, List.set_cons_succ]
  refine s_take 1 (by as_aux_lemma => kernel_rfl) (by as_aux_lemma => kernel_rfl) (by as_aux_lemma => kernel_rfl) (by as_aux_lemma => kernel_rfl) HK0.out (fun oi ho => ?_)
  simp only [List.getElem?_toArray, List.getElem?_cons_succ, List.getElem?_cons_zero, Option.some.injEq] at ho
  subst ho
  refine ⟨?_, Or.inl ⟨by rfl, fun w _ => ?_⟩, ?_⟩
  rotate_left
  · (go_simp <;> with_reducible rfl)
  try simp only [Act.put, List.setIfInBounds_toArray, List.set_cons_zero, List.set_cons_succ]
  refine s_take 2 (by as_aux_lemma => kernel_rfl) (by as_aux_lemma => kernel_rfl) (by as_aux_lemma => kernel_rfl) (by as_aux_lemma => kernel_rfl) HK0.out (fun oi ho => ?_)
  simp only [List.getElem?_toArray, List.getElem?_cons_succ, List.getElem?_cons_zero, Option.some.injEq] at ho
  subst ho
  refine ⟨?_, Or.inl ⟨by rfl, fun w _ => ?_⟩, ?_⟩
  rotate_left
  · (go_simp <;> with_reducible rfl)
  try simp only [Act.put, List.setIfInBounds_toArray, List.set_cons_zero, List.set_cons_succ]
  refine s_take 3 (by as_aux_lemma => kernel_rfl) (by as_aux_lemma => kernel_rfl) (by as_aux_lemma => kernel_rfl) (by as_aux_lemma => kernel_rfl) HK0.out (fun oi ho => ?_)
  simp only [List.getElem?_toArray, List.getElem?_cons_succ, List.getElem?_cons_zero, Option.some.injEq] at ho
  subst ho
  refine ⟨.map (some bm), Or.inl ⟨by rfl, fun w' hS' => ?_⟩, ?_⟩
  · have q := (hS'.cell (p := ⟨b, 0, none⟩) (HL.out) (fun h => h)).trans C0.out
    (go_simp <;> with_reducible rfl)
  try simp only [Act.put, List.setIfInBounds_toArray, List.set_cons_zero, List.set_cons_succ]
  refine s_take 4 (by as_aux_lemma => kernel_rfl) (by as_aux_lemma => kernel_rfl) (by as_aux_lemma => kernel_rfl) (by as_aux_lemma => kernel_rfl) HK0.out (fun oi ho => ?_)
  simp only [List.getElem?_toArray, List.getElem?_cons_succ, List.getElem?_cons_zero, Option.some.injEq] at ho
  subst ho
  refine ⟨_, yields_row (by rfl) 86 _ rfl w.heap.size rfl C 86 (0, 0) _ (fun w' hS' => (hS'.block w.heap.size HGL.out (fun h => h)).trans HGN.out) Tryz.underlying86 rfl HCS.out, ?_⟩
  try simp only [Act.put, List.setIfInBounds_toArray, List.set_cons_zero, List.set_cons_succ]
  refine s_take 5 (by as_aux_lemma => kernel_rfl) (by as_aux_lemma => kernel_rfl) (by as_aux_lemma => kernel_rfl) (by as_aux_lemma => kernel_rfl) HK0.out (fun oi ho => ?_)
  simp only [List.getElem?_toArray, List.getElem?_cons_succ, List.getElem?_cons_zero, Option.some.injEq] at ho
  subst ho
  refine ⟨.tuple #[.agg #[.slice none 0 0, .int .i64 0], .bool false], Or.inl ⟨by rfl, fun w' hS' => ?_⟩, ?_⟩
  · have q := HLK.out w' (HKA.out.trans hS' (fun _ _ h => h))
    (go_simp <;> with_reducible rfl)
  try simp only [Act.put, List.setIfInBounds_toArray, List.set_cons_zero, List.set_cons_succ]
  refine s_take 6 (by as_aux_lemma => kernel_rfl) (by as_aux_lemma => kernel_rfl) (by as_aux_lemma => kernel_rfl) (by as_aux_lemma => kernel_rfl) HK0.out (fun oi ho => ?_)
  simp only [List.getElem?_toArray, List.getElem?_cons_succ, List.getElem?_cons_zero, Option.some.injEq] at ho
  subst ho
  refine ⟨?_, Or.inl ⟨by rfl, fun w _ => ?_⟩, ?_⟩
  rotate_left
  · (go_simp <;> with_reducible rfl)
  try simp only [Act.put, List.setIfInBounds_toArray, List.set_cons_zero, List.set_cons_succ]
  refine s_take 7 (by as_aux_lemma => kernel_rfl) (by as_aux_lemma => kernel_rfl) (by as_aux_lemma => kernel_rfl) (by as_aux_lemma => kernel_rfl) HK0.out (fun oi ho => ?_)
  simp only [List.getElem?_toArray, List.getElem?_cons_succ, List.getElem?_cons_zero, Option.some.injEq] at ho
  subst ho
  refine ⟨?_, Or.inl ⟨by rfl, fun w _ => ?_⟩, ?_⟩
  rotate_left
  · (go_simp <;> with_reducible rfl)
  try simp only [Act.put, List.setIfInBounds_toArray, List.set_cons_zero, List.set_cons_succ]
  refine s_take 8 (by as_aux_lemma => kernel_rfl) (by as_aux_lemma => kernel_rfl) (by as_aux_lemma => kernel_rfl) (by as_aux_lemma => kernel_rfl) HK0.out (fun oi ho => ?_)
  simp only [List.getElem?_toArray, List.getElem?_cons_succ, List.getElem?_cons_zero, Option.some.injEq] at ho
  subst ho
  refine ⟨?_, Or.inl ⟨by rfl, fun w _ => ?_⟩, ?_⟩
  rotate_left
  · (go_simp <;> with_reducible rfl)
  try simp only [Act.put, List.setIfInBounds_toArray, List.set_cons_zero, List.set_cons_succ]
  refine s_all (rs := [9]) (by as_aux_lemma => kernel_rfl) (by simp) ?_
  refine s_step 9 (by as_aux_lemma => kernel_rfl) (fun o ho K hK => ?_) AllReadyH.nil
  simp only [List.getElem?_toArray, List.getElem?_cons_succ, List.getElem?_cons_zero, Option.some.injEq] at ho
  subst ho
  go_simp
  refine hK.out _ _ (HK0.out.trans (Kept.alloc _ _ _) (fun _ _ h => h)) ?_
  clear hK K
  try simp only [Act.put, List.setIfInBounds_toArray, List.set_cons_zero, List.set_cons_succ]
  refine s_all (rs := [10]) (by as_aux_lemma => kernel_rfl) (by simp) ?_
  refine s_step 10 (by as_aux_lemma => kernel_rfl) (fun o ho K hK => ?_) AllReadyH.nil
  simp only [List.getElem?_toArray, List.getElem?_cons_succ, List.getElem?_cons_zero, Option.some.injEq] at ho
  subst ho
  go_simp
  refine hK.out _ _ (HK0.out.trans (Kept.alloc _ _ _) (fun _ _ h => h)) ?_
  clear hK K
  try simp only [Act.put, List.setIfInBounds_toArray, List.set_cons_zero, List.set_cons_succ]
  refine s_take 11 (by as_aux_lemma => kernel_rfl) (by as_aux_lemma => kernel_rfl) (by as_aux_lemma => kernel_rfl) (by as_aux_lemma => kernel_rfl) (HK0.out.trans (Kept.alloc _ _ _) (fun _ _ h => h)) (fun oi ho => ?_)
  simp only [List.getElem?_toArray, List.getElem?_cons_succ, List.getElem?_cons_zero, Option.some.injEq] at ho
  subst ho
  refine ⟨?_, Or.inl ⟨by rfl, fun w _ => ?_⟩, ?_⟩
  rotate_left
  · (go_simp <;> with_reducible rfl)
  try simp only [Act.put, List.setIfInBounds_toArray, List.set_cons_zero, List.set_cons_succ]
  refine s_done (by as_aux_lemma => kernel_rfl) ?_
  go_wp2
  go_ret2
  exact ⟨rfl, HBW.out _ (HK0.out.trans (Kept.alloc _ _ _) (fun _ _ h => h))⟩

/-- Behind the count's turning, the key's and the entry's new blocks. -/
structure GetMid (w W : World) (b : Nat) (C : Array Value) (v : Value) (now : Nat) : Prop where
  d2 : W.cell? ⟨b, 2, none⟩ = some (.int .i64 ((now : Int) + 1))
  dc : ∀ o, o ≠ 2 → W.cell? ⟨b, o, none⟩ = w.cell? ⟨b, o, none⟩
  df : ∀ o, W.frozen? ⟨b, o, none⟩ = w.frozen? ⟨b, o, none⟩
  dg : W.heap[w.heap.size]? = some (.cells C 86 (0, 0))
  dv : W.cell? ⟨w.heap.size + 1, 0, none⟩ = some v
  kb : Kept (fun i => i = b) w W
  hs : w.heap.size + 2 = W.heap.size
theorem get_mid (w : World) (b : Nat) (C : Array Value) (v x y : Value) (now : Nat) (h2 : w.cell? ⟨b, 2, none⟩ = some y) : GetMid w (((w.setCell ⟨b, 2, none⟩ (.int .i64 ((now : Int) + 1))).alloc (.cells C 86)).alloc (.cells #[v, x] 90)) b C v now := by
  have hl : b < w.heap.size := blt h2
  have k1 : Kept (fun i => i = b) w (w.setCell ⟨b, 2, none⟩ (.int .i64 ((now : Int) + 1))) := Kept.set1 w b 2 _
  have e1 : (w.setCell ⟨b, 2, none⟩ (.int .i64 ((now : Int) + 1))).heap.size = w.heap.size := by simp
  generalize hW1 : w.setCell ⟨b, 2, none⟩ (.int .i64 ((now : Int) + 1)) = W1 at *
  have k2 : Kept (fun _ => False) W1 (W1.alloc (.cells C 86)) := Kept.alloc _ _ _
  have g2 : (W1.alloc (.cells C 86)).heap[w.heap.size]? = some (.cells C 86 (0, 0)) := by rw [← e1]; exact Go.heap_alloc_new _ _
  have e2 : (W1.alloc (.cells C 86)).heap.size = w.heap.size + 1 := by simp [e1]
  generalize W1.alloc (.cells C 86) = W2 at *
  have k3 : Kept (fun _ => False) W2 (W2.alloc (.cells #[v, x] 90)) := Kept.alloc _ _ _
  have g3 : (W2.alloc (.cells #[v, x] 90)).cell? ⟨w.heap.size + 1, 0, none⟩ = some v := by rw [← e2]; exact (World.cell?_alloc_new _ _ _ 0)
  have e3 : (W2.alloc (.cells #[v, x] 90)).heap.size = w.heap.size + 2 := by simp [e2]
  generalize W2.alloc (.cells #[v, x] 90) = W3 at *
  have k13 : Kept (fun _ => False) W1 W3 := k2.trans k3 (fun _ _ h => h)
  have hl1 : b < W1.heap.size := by omega
  have hb : W3.heap[b]? = W1.heap[b]? := k13.block b hl1 (fun h => h)
  refine ⟨?_, fun o ho => ?_, fun o => ?_, ?_, g3, k1.trans k13 (fun _ _ h => h.elim), e3.symm⟩
  · refine (k13.cell (p := ⟨b, 2, none⟩) hl1 (fun h => h)).trans ?_
    rw [← hW1]
    exact World.cell?_setCell_same _ _ _ h2
  · refine (k13.cell (p := ⟨b, o, none⟩) hl1 (fun h => h)).trans ?_
    rw [← hW1]
    exact World.cell?_setCell_other _ _ _ _ (fun e => ho (by have := congrArg Addr.off e; exact this.symm))
  · rw [show W3.frozen? ⟨b, o, none⟩ = W1.frozen? ⟨b, o, none⟩ by unfold World.frozen?; rw [hb], ← hW1]
    exact World.frozen?_setCell _ _ _ _
  · rw [k3.block w.heap.size (by omega) (fun h => h)]
    exact g2

theorem nodup_fst : ∀ {es : List (Lit × Value)} (hn : (es.map (·.1)).Nodup) {p q : Lit × Value}, p ∈ es → q ∈ es → ¬ p = q → ¬ p.1 = q.1
  | [], _, _, _, h, _, _ => by simp at h
  | x :: r, hn, p, q, hp, hq, hne => by
    obtain ⟨h1, h2⟩ := List.nodup_cons.1 hn
    rcases List.mem_cons.1 hp with ep | hp
    · rcases List.mem_cons.1 hq with eq | hq
      · exact absurd (ep.trans eq.symm) hne
      · intro e
        exact h1 (List.mem_map.2 ⟨q, hq, by rw [← e, ep]⟩)
    · rcases List.mem_cons.1 hq with eq | hq
      · intro e
        exact h1 (List.mem_map.2 ⟨p, hp, by rw [e, eq]⟩)
      · exact nodup_fst h2 hp hq hne

theorem get_yes (w : World) {F : Nat → Prop} {b bm : Nat} {s : CS} (hc : CacheAt w F b bm s) (k : Int) (xs : List Int) (hk : Idx k xs) (e : CE) (he : e ∈ s.es) (hek : e.k = k) (hex : e.xs = xs) (hnow : s.now < 1000000000) :
    Calls Tryz.prog 41 #[.pointer (some ⟨b, 0, none⟩), keyV k xs] w fun e' w' => e' = .returned (.tuple #[e.v, .bool true]) ∧ CacheAt w' F b bm { s with now := s.now + 1, es := addE s.es e (s.now + 1) } ∧ Kept (CK b bm) w w' := by
  have HEL := Lib.hid (show e.L = kl k xs by unfold CE.L; rw [hek, hex])
  have HLK := Lib.hid (show ∀ W, Kept (fun _ => False) w W → (Instr.lookup 60 (.map (some bm)) (.agg (kcells k xs).toArray) true).run Tryz.prog W = .ok (.tuple #[.agg #[.slice (some ⟨e.gm, 0, none⟩) e.k e.k, .int .i64 (e.u : Int)], .bool true]) W from fun W hW => by
    rcases (hc.map.kept hW (fun h => h)).look hk _ (zero_entry W) with ⟨p, hp, e2, h⟩ | ⟨h, _⟩
    · obtain ⟨x, hx, rfl⟩ := List.mem_map.1 hp
      have : x.p = e.p := by
        have hn := hc.map.nodup
        have e3 : x.p.1 = e.p.1 := e2.trans HEL.out.symm
        by_cases q : x.p = e.p
        · exact q
        · have h1 : x.p ∈ s.es.map CE.p := List.mem_map.2 ⟨x, hx, rfl⟩
          have h2 : e.p ∈ s.es.map CE.p := List.mem_map.2 ⟨e, he, rfl⟩
          exact absurd e3 (nodup_fst hn h1 h2 q)
      rw [this] at h
      exact h
    · exact absurd HEL.out (h e.p (List.mem_map.2 ⟨e, he, rfl⟩)))
  have HAD := Lib.hid (show ∀ w', Kept (CK b bm) w w' → w'.cell? ⟨b, 2, none⟩ = some (.int .i64 ((s.now + 1 : Nat) : Int)) → (∀ o, o ≠ 2 → w'.cell? ⟨b, o, none⟩ = w.cell? ⟨b, o, none⟩) → (∀ o, w'.frozen? ⟨b, o, none⟩ = false) → MapIs w' bm ((s.es.map CE.p).filter (neK e.L) ++ [(e.L, .agg #[e.v, .int .i64 ((s.now + 1 : Nat) : Int)])]) → CacheAt w' F b bm { s with now := s.now + 1, es := addE s.es e (s.now + 1) } from fun w' h1 h2 h3 h4 h5 => by
    have g := hc.good e he
    refine hc.add h1 e h2 h3 h4 h5 ⟨g.k1, g.kn, g.len, g.rng, g.nd, by show 1 ≤ s.now + 1; omega, Nat.le_refl _⟩ (hc.mat e he) ?_
    unfold addE
    have h6 := neK_len (l := e.L) (by rw [HEL.out]; exact kl_is hk) hc.map.nodup (p := e.p) (List.mem_map.2 ⟨e, he, rfl⟩) rfl
    rw [List.length_append, List.length_cons, List.length_nil]
    rw [List.filter_map, List.length_map, List.length_map] at h6
    have h7 := hc.full
    show (s.es.filter (neK e.L ∘ CE.p)).length + 1 ≤ s.room
    omega)
  have HID := Lib.hid hk
  have HMP := Lib.hid hc.map
  have HLN := Lib.hid (show (s.es.map CE.p).length < 1000000 by have := hc.full; have := hc.r64; rw [List.length_map]; omega)
  have c2 := hc.c2
  have hfz := hc.fz 2
  have HFZ := Lib.hid hc.fz
  have HNE := Lib.hid hc.ne
  have hbm := hc.map.lt
  have HEV := Lib.hid (show e.v = .slice (some ⟨e.gm, 0, none⟩) e.k e.k from rfl)
  rw [HEL.out] at HAD
  obtain ⟨now, hnw⟩ : ∃ n, s.now = n := ⟨_, rfl⟩
  obtain ⟨gm, hgm⟩ : ∃ g, e.gm = g := ⟨_, rfl⟩
  obtain ⟨kk, hkk⟩ : ∃ g, e.k = g := ⟨_, rfl⟩
  obtain ⟨u, hu⟩ : ∃ g, e.u = g := ⟨_, rfl⟩
  rw [hgm, hkk] at HEV
  rw [HEV.out, hnw] at HAD
  rw [hgm, hkk, hu] at HLK
  rw [hnw] at c2 hnow ⊢
  have c0 := hc.c0
  have hl := hc.lt
  have HKN := Lib.hid (kcells_len k xs)
  obtain ⟨C, hC⟩ : ∃ C, (kcells k xs).toArray = C := ⟨_, rfl⟩
  have HKV := Lib.hid (show keyV k xs = .agg C by unfold keyV; rw [hC])
  unfold keyV
  rw [hC] at HLK ⊢
  have hCs : (Tryz.prog.info? 86).map (·.size) = some C.size := by rw [← hC]; exact kc_hi k xs
  have HCS := Lib.hid hCs
  have HL := Lib.hid (show b < (w.alloc (.cells C 86)).heap.size by simp; omega)
  have HGL := Lib.hid (show w.heap.size < (w.alloc (.cells C 86)).heap.size by simp)
  have C0 := Lib.hid (alloc_cell c0 (.cells C 86))
  have HGN := Lib.hid (heap_alloc_new w (.cells C 86))
  have HK0 := Lib.hid (show Kept (fun _ => False) (w.alloc (.cells C 86)) (w.alloc (.cells C 86)).drew from ⟨rfl, rfl, rfl, Nat.le_refl _, fun _ _ _ => rfl⟩)
  have HKA := Lib.hid (Kept.alloc (fun _ => False) w (.cells C 86))
  have HBW := Lib.hid (show ∀ W, Kept (fun _ => False) (w.alloc (.cells C 86)) W → Below w.heap.size w W from fun W h => ((Kept.alloc (fun _ => False) w (.cells C 86)).trans h (fun _ _ h => h)).toBelow (Nat.le_refl _) (fun _ h => h.elim))
  have C2 := Lib.hid c2
  rw [HEV.out]
  clear hc hC hCs c2 hek hex he hk hnw hgm hkk hu
  go_enter Tryz.func41, Tryz.ntmps41
  go_wp2_with fail
  refine s_start 12 (fun w' => Kept (fun _ => False) (w.alloc (.cells C 86)) w') (by as_aux_lemma => kernel_rfl) (by as_aux_lemma => kernel_rfl) HK0.out ?_
  refine s_take 0 (by as_aux_lemma => kernel_rfl) (by as_aux_lemma => kernel_rfl) (by as_aux_lemma => kernel_rfl) (by as_aux_lemma => kernel_rfl) HK0.out (fun oi ho => ?_)
  simp only [List.getElem?_toArray, List.getElem?_cons_succ, List.getElem?_cons_zero, Option.some.injEq] at ho
  subst ho
  refine ⟨?_, Or.inl ⟨by rfl, fun w _ => ?_⟩, ?_⟩
  rotate_left
  · (go_simp <;> with_reducible rfl)
  try simp only [Act.put, List.setIfInBounds_toArray, List.set_cons_zero, List.set_cons_succ]
  refine s_take 1 (by as_aux_lemma => kernel_rfl) (by as_aux_lemma => kernel_rfl) (by as_aux_lemma => kernel_rfl) (by as_aux_lemma => kernel_rfl) HK0.out (fun oi ho => ?_)
  simp only [List.getElem?_toArray, List.getElem?_cons_succ, List.getElem?_cons_zero, Option.some.injEq] at ho
  subst ho
  refine ⟨?_, Or.inl ⟨by rfl, fun w _ => ?_⟩, ?_⟩
  rotate_left
  · (go_simp <;> with_reducible rfl)
  try simp only [Act.put, List.setIfInBounds_toArray, List.set_cons_zero, List.set_cons_succ]
  refine s_take 2 (by as_aux_lemma => kernel_rfl) (by as_aux_lemma => kernel_rfl) (by as_aux_lemma => kernel_rfl) (by as_aux_lemma => kernel_rfl) HK0.out (fun oi ho => ?_)
  simp only [List.getElem?_toArray, List.getElem?_cons_succ, List.getElem?_cons_zero, Option.some.injEq] at ho
  subst ho
  refine ⟨?_, Or.inl ⟨by rfl, fun w _ => ?_⟩, ?_⟩
  rotate_left
  · (go_simp <;> with_reducible rfl)
  try simp only [Act.put, List.setIfInBounds_toArray, List.set_cons_zero, List.set_cons_succ]
  refine s_take 3 (by as_aux_lemma => kernel_rfl) (by as_aux_lemma => kernel_rfl) (by as_aux_lemma => kernel_rfl) (by as_aux_lemma => kernel_rfl) HK0.out (fun oi ho => ?_)
  simp only [List.getElem?_toArray, List.getElem?_cons_succ, List.getElem?_cons_zero, Option.some.injEq] at ho
  subst ho
  refine ⟨.map (some bm), Or.inl ⟨by rfl, fun w' hS' => ?_⟩, ?_⟩
  · have q := (hS'.cell (p := ⟨b, 0, none⟩) (HL.out) (fun h => h)).trans C0.out
    (go_simp <;> with_reducible rfl)
  try simp only [Act.put, List.setIfInBounds_toArray, List.set_cons_zero, List.set_cons_succ]
  refine s_take 4 (by as_aux_lemma => kernel_rfl) (by as_aux_lemma => kernel_rfl) (by as_aux_lemma => kernel_rfl) (by as_aux_lemma => kernel_rfl) HK0.out (fun oi ho => ?_)
  simp only [List.getElem?_toArray, List.getElem?_cons_succ, List.getElem?_cons_zero, Option.some.injEq] at ho
  subst ho
  refine ⟨_, yields_row (by rfl) 86 _ rfl w.heap.size rfl C 86 (0, 0) _ (fun w' hS' => (hS'.block w.heap.size HGL.out (fun h => h)).trans HGN.out) Tryz.underlying86 rfl HCS.out, ?_⟩
  try simp only [Act.put, List.setIfInBounds_toArray, List.set_cons_zero, List.set_cons_succ]
  refine s_take 5 (by as_aux_lemma => kernel_rfl) (by as_aux_lemma => kernel_rfl) (by as_aux_lemma => kernel_rfl) (by as_aux_lemma => kernel_rfl) HK0.out (fun oi ho => ?_)
  simp only [List.getElem?_toArray, List.getElem?_cons_succ, List.getElem?_cons_zero, Option.some.injEq] at ho
  subst ho
  refine ⟨.tuple #[.agg #[.slice (some ⟨gm, 0, none⟩) kk kk, .int .i64 (u : Int)], .bool true], Or.inl ⟨by rfl, fun w' hS' => ?_⟩, ?_⟩
  · have q := HLK.out w' (HKA.out.trans hS' (fun _ _ h => h))
    (go_simp <;> with_reducible rfl)
  try simp only [Act.put, List.setIfInBounds_toArray, List.set_cons_zero, List.set_cons_succ]
  refine s_take 6 (by as_aux_lemma => kernel_rfl) (by as_aux_lemma => kernel_rfl) (by as_aux_lemma => kernel_rfl) (by as_aux_lemma => kernel_rfl) HK0.out (fun oi ho => ?_)
  simp only [List.getElem?_toArray, List.getElem?_cons_succ, List.getElem?_cons_zero, Option.some.injEq] at ho
  subst ho
  refine ⟨?_, Or.inl ⟨by rfl, fun w _ => ?_⟩, ?_⟩
  rotate_left
  · (go_simp <;> with_reducible rfl)
  try simp only [Act.put, List.setIfInBounds_toArray, List.set_cons_zero, List.set_cons_succ]
  refine s_take 7 (by as_aux_lemma => kernel_rfl) (by as_aux_lemma => kernel_rfl) (by as_aux_lemma => kernel_rfl) (by as_aux_lemma => kernel_rfl) HK0.out (fun oi ho => ?_)
  simp only [List.getElem?_toArray, List.getElem?_cons_succ, List.getElem?_cons_zero, Option.some.injEq] at ho
  subst ho
  refine ⟨?_, Or.inl ⟨by rfl, fun w _ => ?_⟩, ?_⟩
  rotate_left
  · (go_simp <;> with_reducible rfl)
  try simp only [Act.put, List.setIfInBounds_toArray, List.set_cons_zero, List.set_cons_succ]
  refine s_take 8 (by as_aux_lemma => kernel_rfl) (by as_aux_lemma => kernel_rfl) (by as_aux_lemma => kernel_rfl) (by as_aux_lemma => kernel_rfl) HK0.out (fun oi ho => ?_)
  simp only [List.getElem?_toArray, List.getElem?_cons_succ, List.getElem?_cons_zero, Option.some.injEq] at ho
  subst ho
  refine ⟨?_, Or.inl ⟨by rfl, fun w _ => ?_⟩, ?_⟩
  rotate_left
  · (go_simp <;> with_reducible rfl)
  try simp only [Act.put, List.setIfInBounds_toArray, List.set_cons_zero, List.set_cons_succ]
  refine s_all (rs := [9]) (by as_aux_lemma => kernel_rfl) (by simp) ?_
  refine s_step 9 (by as_aux_lemma => kernel_rfl) (fun o ho K hK => ?_) AllReadyH.nil
  simp only [List.getElem?_toArray, List.getElem?_cons_succ, List.getElem?_cons_zero, Option.some.injEq] at ho
  subst ho
  go_simp
  refine hK.out _ _ (HK0.out.trans (Kept.alloc _ _ _) (fun _ _ h => h)) ?_
  clear hK K
  try simp only [Act.put, List.setIfInBounds_toArray, List.set_cons_zero, List.set_cons_succ]
  refine s_all (rs := [10]) (by as_aux_lemma => kernel_rfl) (by simp) ?_
  refine s_step 10 (by as_aux_lemma => kernel_rfl) (fun o ho K hK => ?_) AllReadyH.nil
  simp only [List.getElem?_toArray, List.getElem?_cons_succ, List.getElem?_cons_zero, Option.some.injEq] at ho
  subst ho
  go_simp
  refine hK.out _ _ (HK0.out.trans (Kept.alloc _ _ _) (fun _ _ h => h)) ?_
  clear hK K
  try simp only [Act.put, List.setIfInBounds_toArray, List.set_cons_zero, List.set_cons_succ]
  refine s_take 11 (by as_aux_lemma => kernel_rfl) (by as_aux_lemma => kernel_rfl) (by as_aux_lemma => kernel_rfl) (by as_aux_lemma => kernel_rfl) (HK0.out.trans (Kept.alloc _ _ _) (fun _ _ h => h)) (fun oi ho => ?_)
  simp only [List.getElem?_toArray, List.getElem?_cons_succ, List.getElem?_cons_zero, Option.some.injEq] at ho
  subst ho
  refine ⟨?_, Or.inl ⟨by rfl, fun w _ => ?_⟩, ?_⟩
  rotate_left
  · (go_simp <;> with_reducible rfl)
  try simp only [Act.put, List.setIfInBounds_toArray, List.set_cons_zero, List.set_cons_succ]
  refine s_done (by as_aux_lemma => kernel_rfl) ?_
  have z2 : ((w.alloc (.cells C 86)).alloc (.cells #[.slice (some ⟨gm, 0, none⟩) kk kk, .int .i64 (u : Int)] 90)).cell? ⟨b, 2, none⟩ = some (.int .i64 (now : Int)) := alloc_cell (alloc_cell C2.out _) _
  have zf : ((w.alloc (.cells C 86)).alloc (.cells #[.slice (some ⟨gm, 0, none⟩) kk kk, .int .i64 (u : Int)] 90)).frozen? ⟨b, 2, none⟩ = false := by
    rw [← hfz]
    unfold World.frozen?
    rw [show ((w.alloc (.cells C 86)).alloc (.cells #[.slice (some ⟨gm, 0, none⟩) kk kk, .int .i64 (u : Int)] 90)).heap[b]? = w.heap[b]? from ((Kept.alloc (fun _ => False) (w.alloc (.cells C 86)) _).block b HL.out (fun h => h)).trans ((Kept.alloc (fun _ => False) w _).block b hl (fun h => h))]
  have HMD := Lib.hid (get_mid w b C (.slice (some ⟨gm, 0, none⟩) kk kk) (.int .i64 (u : Int)) _ now C2.out)
  go_wp2_with fail
  generalize (((w.setCell ⟨b, 2, none⟩ (.int .i64 ((now : Int) + 1))).alloc (.cells C 86)).alloc (.cells #[.slice (some ⟨gm, 0, none⟩) kk kk, .int .i64 (u : Int)] 90)) = WB at *
  clear z2 zf
  have hlb : w.heap.size + 2 = WB.heap.size := HMD.out.hs
  have HLB := Lib.hid (show b < WB.heap.size by omega)
  have HGB := Lib.hid (show w.heap.size < WB.heap.size by omega)
  have HEB := Lib.hid (show w.heap.size + 1 < WB.heap.size by omega)
  have HNG := Lib.hid (show ¬ w.heap.size = bm by omega)
  have HNV := Lib.hid (show ¬ w.heap.size + 1 = bm by omega)
  have D0 := Lib.hid ((HMD.out.dc 0 (by omega)).trans c0)
  have D2 := Lib.hid HMD.out.d2
  have DG := Lib.hid HMD.out.dg
  have DV := Lib.hid HMD.out.dv
  have HKB := Lib.hid (show Kept (fun i => i = b) w WB.drew.drew from HMD.out.kb.drewN 2)
  have HKS := Lib.hid (show Kept (fun i => i = bm) WB WB.drew.drew from ⟨rfl, rfl, rfl, Nat.le_refl _, fun _ _ _ => rfl⟩)
  refine s_start 13 (fun w' => Kept (fun i => i = bm) WB w') (by as_aux_lemma => kernel_rfl) (by as_aux_lemma => kernel_rfl) HKS.out ?_
  refine s_take 0 (by as_aux_lemma => kernel_rfl) (by as_aux_lemma => kernel_rfl) (by as_aux_lemma => kernel_rfl) (by as_aux_lemma => kernel_rfl) HKS.out (fun oi ho => ?_)
  simp only [List.getElem?_toArray, List.getElem?_cons_succ, List.getElem?_cons_zero, Option.some.injEq] at ho
  subst ho
  refine ⟨?_, Or.inl ⟨by rfl, fun w _ => ?_⟩, ?_⟩
  rotate_left
  · (go_simp <;> with_reducible rfl)
  try simp only [Act.put, List.setIfInBounds_toArray, List.set_cons_zero, List.set_cons_succ]
  refine s_take 1 (by as_aux_lemma => kernel_rfl) (by as_aux_lemma => kernel_rfl) (by as_aux_lemma => kernel_rfl) (by as_aux_lemma => kernel_rfl) HKS.out (fun oi ho => ?_)
  simp only [List.getElem?_toArray, List.getElem?_cons_succ, List.getElem?_cons_zero, Option.some.injEq] at ho
  subst ho
  refine ⟨?_, Or.inl ⟨by rfl, fun w _ => ?_⟩, ?_⟩
  rotate_left
  · (go_simp <;> with_reducible rfl)
  try simp only [Act.put, List.setIfInBounds_toArray, List.set_cons_zero, List.set_cons_succ]
  refine s_take 2 (by as_aux_lemma => kernel_rfl) (by as_aux_lemma => kernel_rfl) (by as_aux_lemma => kernel_rfl) (by as_aux_lemma => kernel_rfl) HKS.out (fun oi ho => ?_)
  simp only [List.getElem?_toArray, List.getElem?_cons_succ, List.getElem?_cons_zero, Option.some.injEq] at ho
  subst ho
  refine ⟨?_, Or.inl ⟨by rfl, fun w _ => ?_⟩, ?_⟩
  rotate_left
  · (go_simp <;> with_reducible rfl)
  try simp only [Act.put, List.setIfInBounds_toArray, List.set_cons_zero, List.set_cons_succ]
  refine s_take 3 (by as_aux_lemma => kernel_rfl) (by as_aux_lemma => kernel_rfl) (by as_aux_lemma => kernel_rfl) (by as_aux_lemma => kernel_rfl) HKS.out (fun oi ho => ?_)
  simp only [List.getElem?_toArray, List.getElem?_cons_succ, List.getElem?_cons_zero, Option.some.injEq] at ho
  subst ho
  refine ⟨.map (some bm), Or.inl ⟨by rfl, fun w' hS' => ?_⟩, ?_⟩
  · have q := (hS'.cell (p := ⟨b, 0, none⟩) HLB.out HNE.out).trans D0.out
    (go_simp <;> with_reducible rfl)
  try simp only [Act.put, List.setIfInBounds_toArray, List.set_cons_zero, List.set_cons_succ]
  refine s_take 4 (by as_aux_lemma => kernel_rfl) (by as_aux_lemma => kernel_rfl) (by as_aux_lemma => kernel_rfl) (by as_aux_lemma => kernel_rfl) HKS.out (fun oi ho => ?_)
  simp only [List.getElem?_toArray, List.getElem?_cons_succ, List.getElem?_cons_zero, Option.some.injEq] at ho
  subst ho
  refine ⟨_, yields_row (by rfl) 86 _ rfl w.heap.size rfl C 86 (0, 0) _ (fun w' hS' => (hS'.block w.heap.size HGB.out HNG.out).trans DG.out) Tryz.underlying86 rfl HCS.out, ?_⟩
  try simp only [Act.put, List.setIfInBounds_toArray, List.set_cons_zero, List.set_cons_succ]
  refine s_take 5 (by as_aux_lemma => kernel_rfl) (by as_aux_lemma => kernel_rfl) (by as_aux_lemma => kernel_rfl) (by as_aux_lemma => kernel_rfl) HKS.out (fun oi ho => ?_)
  simp only [List.getElem?_toArray, List.getElem?_cons_succ, List.getElem?_cons_zero, Option.some.injEq] at ho
  subst ho
  refine ⟨?_, Or.inl ⟨by rfl, fun w _ => ?_⟩, ?_⟩
  rotate_left
  · (go_simp <;> with_reducible rfl)
  try simp only [Act.put, List.setIfInBounds_toArray, List.set_cons_zero, List.set_cons_succ]
  refine s_take 6 (by as_aux_lemma => kernel_rfl) (by as_aux_lemma => kernel_rfl) (by as_aux_lemma => kernel_rfl) (by as_aux_lemma => kernel_rfl) HKS.out (fun oi ho => ?_)
  simp only [List.getElem?_toArray, List.getElem?_cons_succ, List.getElem?_cons_zero, Option.some.injEq] at ho
  subst ho
  refine ⟨.slice (some ⟨gm, 0, none⟩) kk kk, Or.inl ⟨by rfl, fun w' hS' => ?_⟩, ?_⟩
  · have q := (hS'.cell (p := ⟨w.heap.size + 1, 0, none⟩) HEB.out HNV.out).trans DV.out
    (go_simp <;> with_reducible rfl)
  try simp only [Act.put, List.setIfInBounds_toArray, List.set_cons_zero, List.set_cons_succ]
  refine s_take 7 (by as_aux_lemma => kernel_rfl) (by as_aux_lemma => kernel_rfl) (by as_aux_lemma => kernel_rfl) (by as_aux_lemma => kernel_rfl) HKS.out (fun oi ho => ?_)
  simp only [List.getElem?_toArray, List.getElem?_cons_succ, List.getElem?_cons_zero, Option.some.injEq] at ho
  subst ho
  refine ⟨?_, Or.inl ⟨by rfl, fun w _ => ?_⟩, ?_⟩
  rotate_left
  · (go_simp <;> with_reducible rfl)
  try simp only [Act.put, List.setIfInBounds_toArray, List.set_cons_zero, List.set_cons_succ]
  refine s_take 8 (by as_aux_lemma => kernel_rfl) (by as_aux_lemma => kernel_rfl) (by as_aux_lemma => kernel_rfl) (by as_aux_lemma => kernel_rfl) HKS.out (fun oi ho => ?_)
  simp only [List.getElem?_toArray, List.getElem?_cons_succ, List.getElem?_cons_zero, Option.some.injEq] at ho
  subst ho
  refine ⟨?_, Or.inl ⟨by rfl, fun w _ => ?_⟩, ?_⟩
  rotate_left
  · (go_simp <;> with_reducible rfl)
  try simp only [Act.put, List.setIfInBounds_toArray, List.set_cons_zero, List.set_cons_succ]
  refine s_take 9 (by as_aux_lemma => kernel_rfl) (by as_aux_lemma => kernel_rfl) (by as_aux_lemma => kernel_rfl) (by as_aux_lemma => kernel_rfl) HKS.out (fun oi ho => ?_)
  simp only [List.getElem?_toArray, List.getElem?_cons_succ, List.getElem?_cons_zero, Option.some.injEq] at ho
  subst ho
  refine ⟨?_, Or.inl ⟨by rfl, fun w _ => ?_⟩, ?_⟩
  rotate_left
  · (go_simp <;> with_reducible rfl)
  try simp only [Act.put, List.setIfInBounds_toArray, List.set_cons_zero, List.set_cons_succ]
  refine s_take 10 (by as_aux_lemma => kernel_rfl) (by as_aux_lemma => kernel_rfl) (by as_aux_lemma => kernel_rfl) (by as_aux_lemma => kernel_rfl) HKS.out (fun oi ho => ?_)
  simp only [List.getElem?_toArray, List.getElem?_cons_succ, List.getElem?_cons_zero, Option.some.injEq] at ho
  subst ho
  refine ⟨.int .i64 ((now : Int) + 1), Or.inl ⟨by rfl, fun w' hS' => ?_⟩, ?_⟩
  · have q := (hS'.cell (p := ⟨b, 2, none⟩) HLB.out HNE.out).trans D2.out
    (go_simp <;> with_reducible rfl)
  try simp only [Act.put, List.setIfInBounds_toArray, List.set_cons_zero, List.set_cons_succ]
  refine s_take 11 (by as_aux_lemma => kernel_rfl) (by as_aux_lemma => kernel_rfl) (by as_aux_lemma => kernel_rfl) (by as_aux_lemma => kernel_rfl) HKS.out (fun oi ho => ?_)
  simp only [List.getElem?_toArray, List.getElem?_cons_succ, List.getElem?_cons_zero, Option.some.injEq] at ho
  subst ho
  refine ⟨?_, Or.inl ⟨by rfl, fun w _ => ?_⟩, ?_⟩
  rotate_left
  · (go_simp <;> with_reducible rfl)
  try simp only [Act.put, List.setIfInBounds_toArray, List.set_cons_zero, List.set_cons_succ]
  refine s_all (rs := [12]) (by as_aux_lemma => kernel_rfl) (by simp) ?_
  refine s_step 12 (by as_aux_lemma => kernel_rfl) (fun o ho K hK => ?_) AllReadyH.nil
  simp only [List.getElem?_toArray, List.getElem?_cons_succ, List.getElem?_cons_zero, Option.some.injEq] at ho
  subst ho
  refine step_put (by rfl) _ _ _ rfl bm _ (HMP.out.kept HKB.out (fun h => HNE.out h.symm)) k xs HID.out (.agg #[.slice (some ⟨gm, 0, none⟩) kk kk, .int .i64 ((now + 1 : Nat) : Int)]) C HKV.out rfl rfl rfl HLN.out ?_
  intro w5 hm5 hk5
  have HM5 := Lib.hid hm5
  have HK5 := Lib.hid (HKS.out.trans hk5 (fun _ _ h => h))
  clear hm5 hk5
  refine hK.out _ _ HK5.out ?_
  clear hK K
  try simp only [Act.put, List.setIfInBounds_toArray, List.set_cons_zero, List.set_cons_succ]
  refine s_done (by as_aux_lemma => kernel_rfl) ?_
  have y6 := (HK5.out.cell (p := ⟨w.heap.size + 1, 0, none⟩) HEB.out HNV.out).trans DV.out
  go_wp2
  go_ret2
  have hkk5 : Kept (CK b bm) w w5 := (HMD.out.kb.mono (S' := CK b bm) (fun i _ h => .inl h)).trans HK5.out (fun i _ h => .inr h)
  exact ⟨rfl, HAD.out w5 hkk5 ((HK5.out.cell (p := ⟨b, 2, none⟩) HLB.out HNE.out).trans D2.out) (fun o ho => (HK5.out.cell (p := ⟨b, o, none⟩) HLB.out HNE.out).trans (HMD.out.dc o ho)) (fun o => (frozen_kept HK5.out HLB.out HNE.out o).trans ((HMD.out.df o).trans (HFZ.out o))) HM5.out, hkk5⟩
end -- CaE

end Go.Proofs.YtlmpagicjgldkaaGreat
