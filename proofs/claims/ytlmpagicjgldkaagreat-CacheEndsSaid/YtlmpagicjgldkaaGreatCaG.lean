/-
  put: a value is kept; the one that was used longest ago goes.
-/
import Derived.Test.YtlmpagicjgldkaaGreatCaF
import Derived.Test.YtlmpagicjgldkaaGreatCaD
namespace Go.Proofs.YtlmpagicjgldkaaGreat
open Go.RowKit Go.Maps
set_option linter.unusedVariables false
set_option linter.unusedSimpArgs false
set_option maxRecDepth 100000
set_option maxHeartbeats 2000000

/-- 'delete(m, k)' at a step of a drawn region. -/
theorem step_del {ops : Array Oper} {o : Oper} {a : Act} {W : World} {K : Act → World → Prop} {Q : Exit → Act → World → Prop} {E : Prop} (hw : Region.wanted o (yielded ops a.tmps) = true) (m x : Operand) (hop : o.op = .call { callee := .builtin .delete, args := #[m, x], argTypes := #[60, 86] })
    (bm : Nat) (es : List (Lit × Value)) (h : MapIs W bm es) (k : Int) (xs : List Int) (hk : Idx k xs) (p : Lit × Value) (hp : p ∈ es) (hpk : p.1 = kl k xs) (hm : a.eval m = .map (some bm)) (hx : a.eval x = keyV k xs)
    (H : ∀ w', MapIs w' bm (es.filter (neK (kl k xs))) → Kept (fun i => i = bm) W w' → K (a.put o.dst (.tuple #[])) w') : if Region.wanted o (yielded ops a.tmps) = true then Oper.wp Tryz.prog o a W K Q else E := by
  rw [if_pos hw]
  obtain ⟨w', hrun, h1, h2⟩ := h.del hk o.type p hp hpk
  have h3 := H w' h1 (kept_turned h2)
  unfold Oper.wp execOp
  simp only [hop, resolve, invoke, builtin, Sem.run_bind, Sem.run_pure, Result.andThen_ok, List.map_toArray, List.map_cons, List.map_nil, hm, hx, hrun]
  exact h3
theorem CacheAt.tail {w w' : World} {F : Nat → Prop} {b bm : Nat} {s : CS} (h : CacheAt w F b bm s) {e0 : CE} {r0 : List CE} (hes : s.es = e0 :: r0) (hk : Kept (fun i => i = bm) w w') (hm : MapIs w' bm ((s.es.map CE.p).filter (neK e0.L))) : CacheAt w' F b bm { s with es := r0 } := by
  have hl := h.lt
  have hne := h.ne
  have g : ∀ o, w'.cell? ⟨b, o, none⟩ = w.cell? ⟨b, o, none⟩ := fun o => hk.cell (p := ⟨b, o, none⟩) hl hne
  have hin : ∀ x ∈ r0, x ∈ s.es := fun x hx => by rw [hes]; exact List.mem_cons_of_mem _ hx
  have hfil : (s.es.map CE.p).filter (neK e0.L) = r0.map CE.p := by
    have hg := h.good e0 (by rw [hes]; simp)
    have hl0 : WideAt.IsKeyLit e0.L := kl_is (hg.idx h.n255)
    have hn := h.map.nodup
    rw [hes] at hn ⊢
    rw [List.map_cons] at hn ⊢
    obtain ⟨h1, _⟩ := List.nodup_cons.1 hn
    rw [List.filter_cons_of_neg (by
      cases q : neK e0.L e0.p
      · simp
      · exact absurd rfl ((neK_iff hl0 e0.p).1 q))]
    exact neK_off hl0 (fun p hp e => h1 (List.mem_map.2 ⟨p, hp, e⟩))
  refine ⟨(g 0).trans h.c0, (g 1).trans h.c1, (g 2).trans h.c2, (g 3).trans h.c3, (g 4).trans h.c4, (g 5).trans h.c5, (g 6).trans h.c6, (g 7).trans h.c7, fun o => (frozen_kept hk hl hne o).trans (h.fz o), by rw [← hfil]; exact hm, fun x hx => h.good x (hin x hx), fun x hx => ?_, h.fb, h.fm, ?_, h.n1, h.n255, h.r1, h.r64, ?_⟩
  · obtain ⟨U, hM, hU⟩ := h.mat x (hin x hx)
    exact ⟨U, hM.kept hk (fun i hi e => hU i hi (e ▸ h.fm)), hU⟩
  · have := h.rise
    rw [hes] at this
    exact (List.pairwise_cons.1 this).2
  · have := h.full
    rw [hes] at this
    exact Nat.le_of_succ_le this

theorem put_low (w : World) {F : Nat → Prop} {b bm : Nat} {s : CS} (hc : CacheAt w F b bm s) (e : CE) (hg : (e.now (s.now + 1)).Good s.n (s.now + 1)) (hno : ∀ x ∈ s.es, x.L ≠ e.L) (hM : Mat w F e) (hnow : s.now < 1000000000) (hlow : s.es.length < s.room) :
    Calls Tryz.prog 44 #[.pointer (some ⟨b, 0, none⟩), keyV e.k e.xs, e.v] w fun e' w' => e' = .returned (.bool false) ∧ CacheAt w' F b bm { s with now := s.now + 1, es := addE s.es e (s.now + 1) } ∧ Kept (CK b bm) w w' := by
  have HCA := Lib.hid hc
  have HGD := Lib.hid hg
  have HNO := Lib.hid hno
  have HMT := Lib.hid hM
  have HID := Lib.hid (show Idx e.k e.xs from CE.Good.idx (e := e.now (s.now + 1)) hg hc.n255)
  have c0 := hc.c0
  have c1 := hc.c1
  have hl := hc.lt
  have HNE := Lib.hid hc.ne
  have hbm := hc.map.lt
  have hfull := hc.full
  have HR64 := Lib.hid hc.r64
  have HMP := Lib.hid hc.map
  obtain ⟨now, hnw⟩ : ∃ n, s.now = n := ⟨_, rfl⟩
  obtain ⟨room, hrm⟩ : ∃ n, s.room = n := ⟨_, rfl⟩
  obtain ⟨len, hln⟩ : ∃ n, s.es.length = n := ⟨_, rfl⟩
  have HNW := Lib.hid hnw
  have HRM := Lib.hid hrm
  have HLN := Lib.hid hln
  rw [hrm] at c1 hfull
  rw [hln] at hfull
  rw [hnw] at hnow
  have hr64 : room ≤ 64 := by rw [← hrm]; exact hc.r64
  obtain ⟨kk, hkk⟩ : ∃ g, e.k = g := ⟨_, rfl⟩
  obtain ⟨xs, hxs⟩ : ∃ g, e.xs = g := ⟨_, rfl⟩
  obtain ⟨gm, hgm⟩ : ∃ g, e.gm = g := ⟨_, rfl⟩
  have HEV := Lib.hid (show e.v = .slice (some ⟨gm, 0, none⟩) kk kk by unfold CE.v; rw [hgm, hkk])
  have HEL := Lib.hid (show e.L = kl kk xs by unfold CE.L; rw [hkk, hxs])
  rw [hkk, hxs] at HID
  obtain ⟨C, hC⟩ : ∃ C, (kcells kk xs).toArray = C := ⟨_, rfl⟩
  have HKV := Lib.hid (show keyV kk xs = .agg C by unfold keyV; rw [hC])
  have HCS := Lib.hid (show (Tryz.prog.info? 86).map (·.size) = some C.size by rw [← hC]; exact kc_hi kk xs)
  rw [HEV.out, hkk, hxs, HKV.out]
  have HL := Lib.hid (show b < (w.alloc (.cells C 86)).heap.size by simp; omega)
  have C0 := Lib.hid (alloc_cell c0 (.cells C 86))
  have C1 := Lib.hid (alloc_cell c1 (.cells C 86))
  have HGN := Lib.hid (Go.heap_alloc_new w (.cells C 86))
  have HK0 := Lib.hid (show Kept (fun _ => False) (w.alloc (.cells C 86)) (w.alloc (.cells C 86)).drew from ⟨rfl, rfl, rfl, Nat.le_refl _, fun _ _ _ => rfl⟩)
  have HKA := Lib.hid (Kept.alloc (fun _ => False) w (.cells C 86))
  have HSA := Lib.hid (show w.heap.size < (w.alloc (.cells C 86)).heap.size by simp)
  have HLE := Lib.hid (show ∀ W, Kept (fun _ => False) (w.alloc (.cells C 86)) W → (Builtin.len_ #[60] 3 #[.map (some bm)]).run Tryz.prog W = .ok (.int .i64 (len : Int)) W from fun W hW => by
    have := (HMP.out.kept (HKA.out.trans hW (fun _ _ h => h)) (fun h => h)).len 3
    rw [List.length_map, HLN.out] at this
    exact this)
  rw [HRM.out, HLN.out] at hlow
  clear hc hg hno hM c0 c1 hnw hrm hln hkk hxs hgm hC
  go_enter Tryz.func44, Tryz.ntmps44
  go_wp2_with fail
  refine s_start 10 (fun w' => Kept (fun _ => False) (w.alloc (.cells C 86)) w') (by as_aux_lemma => kernel_rfl) (by as_aux_lemma => kernel_rfl) HK0.out ?_
  refine s_take 0 (by as_aux_lemma => kernel_rfl) (by as_aux_lemma => kernel_rfl) (by as_aux_lemma => kernel_rfl) (by as_aux_lemma => kernel_rfl) HK0.out (fun oi ho => ?_)
  simp only [List.getElem?_toArray, List.getElem?_cons_succ, List.getElem?_cons_zero, Option.some.injEq] at ho
  subst ho
  refine ⟨?_, Or.inl ⟨by rfl, fun w _ => ?_⟩, ?_⟩
  rotate_left
  · (go_simp <;> with_reducible rfl)
  try simp only [Act.put, List.setIfInBounds_toArray, List.set_cons_zero, List.set_cons_succ]
  refine s_take 1 (by as_aux_lemma => kernel_rfl) (by as_aux_lemma => kernel_rfl) (by as_aux_lemma => kernel_rfl) (by as_aux_lemma => kernel_rfl) HK0.out (fun oi ho => ?_)
  simp only [List.getElem?_toArray, List.getElem?_cons_succ, List.getElem?_cons_zero, Option.some.injEq] at ho
  subst ho
  refine ⟨?_, Or.inl ⟨by rfl, fun w _ => ?_⟩, ?_⟩
  rotate_left
  · (go_simp <;> with_reducible rfl)
  try simp only [Act.put, List.setIfInBounds_toArray, List.set_cons_zero, List.set_cons_succ]
  refine s_take 2 (by as_aux_lemma => kernel_rfl) (by as_aux_lemma => kernel_rfl) (by as_aux_lemma => kernel_rfl) (by as_aux_lemma => kernel_rfl) HK0.out (fun oi ho => ?_)
  simp only [List.getElem?_toArray, List.getElem?_cons_succ, List.getElem?_cons_zero, Option.some.injEq] at ho
  subst ho
  refine ⟨?_, Or.inl ⟨by rfl, fun w _ => ?_⟩, ?_⟩
  rotate_left
  · (go_simp <;> with_reducible rfl)
  try simp only [Act.put, List.setIfInBounds_toArray, List.set_cons_zero, List.set_cons_succ]
  refine s_take 3 (by as_aux_lemma => kernel_rfl) (by as_aux_lemma => kernel_rfl) (by as_aux_lemma => kernel_rfl) (by as_aux_lemma => kernel_rfl) HK0.out (fun oi ho => ?_)
  simp only [List.getElem?_toArray, List.getElem?_cons_succ, List.getElem?_cons_zero, Option.some.injEq] at ho
  subst ho
  refine ⟨.map (some bm), Or.inl ⟨by rfl, fun w' hS' => ?_⟩, ?_⟩
  · have q := (hS'.cell (p := ⟨b, 0, none⟩) HL.out (fun h => h)).trans C0.out
    (go_simp <;> with_reducible rfl)
  try simp only [Act.put, List.setIfInBounds_toArray, List.set_cons_zero, List.set_cons_succ]
  refine s_take 4 (by as_aux_lemma => kernel_rfl) (by as_aux_lemma => kernel_rfl) (by as_aux_lemma => kernel_rfl) (by as_aux_lemma => kernel_rfl) HK0.out (fun oi ho => ?_)
  simp only [List.getElem?_toArray, List.getElem?_cons_succ, List.getElem?_cons_zero, Option.some.injEq] at ho
  subst ho
  refine ⟨.int .i64 (len : Int), Or.inl ⟨by rfl, fun w' hS' => ?_⟩, ?_⟩
  · have q := HLE.out w' hS'
    (go_simp <;> with_reducible rfl)
  try simp only [Act.put, List.setIfInBounds_toArray, List.set_cons_zero, List.set_cons_succ]
  refine s_take 5 (by as_aux_lemma => kernel_rfl) (by as_aux_lemma => kernel_rfl) (by as_aux_lemma => kernel_rfl) (by as_aux_lemma => kernel_rfl) HK0.out (fun oi ho => ?_)
  simp only [List.getElem?_toArray, List.getElem?_cons_succ, List.getElem?_cons_zero, Option.some.injEq] at ho
  subst ho
  refine ⟨?_, Or.inl ⟨by rfl, fun w _ => ?_⟩, ?_⟩
  rotate_left
  · (go_simp <;> with_reducible rfl)
  try simp only [Act.put, List.setIfInBounds_toArray, List.set_cons_zero, List.set_cons_succ]
  refine s_take 6 (by as_aux_lemma => kernel_rfl) (by as_aux_lemma => kernel_rfl) (by as_aux_lemma => kernel_rfl) (by as_aux_lemma => kernel_rfl) HK0.out (fun oi ho => ?_)
  simp only [List.getElem?_toArray, List.getElem?_cons_succ, List.getElem?_cons_zero, Option.some.injEq] at ho
  subst ho
  refine ⟨?_, Or.inl ⟨by rfl, fun w _ => ?_⟩, ?_⟩
  rotate_left
  · (go_simp <;> with_reducible rfl)
  try simp only [Act.put, List.setIfInBounds_toArray, List.set_cons_zero, List.set_cons_succ]
  refine s_take 7 (by as_aux_lemma => kernel_rfl) (by as_aux_lemma => kernel_rfl) (by as_aux_lemma => kernel_rfl) (by as_aux_lemma => kernel_rfl) HK0.out (fun oi ho => ?_)
  simp only [List.getElem?_toArray, List.getElem?_cons_succ, List.getElem?_cons_zero, Option.some.injEq] at ho
  subst ho
  refine ⟨?_, Or.inl ⟨by rfl, fun w _ => ?_⟩, ?_⟩
  rotate_left
  · (go_simp <;> with_reducible rfl)
  try simp only [Act.put, List.setIfInBounds_toArray, List.set_cons_zero, List.set_cons_succ]
  refine s_take 8 (by as_aux_lemma => kernel_rfl) (by as_aux_lemma => kernel_rfl) (by as_aux_lemma => kernel_rfl) (by as_aux_lemma => kernel_rfl) HK0.out (fun oi ho => ?_)
  simp only [List.getElem?_toArray, List.getElem?_cons_succ, List.getElem?_cons_zero, Option.some.injEq] at ho
  subst ho
  refine ⟨.int .i64 (room : Int), Or.inl ⟨by rfl, fun w' hS' => ?_⟩, ?_⟩
  · have q := (hS'.cell (p := ⟨b, 1, none⟩) HL.out (fun h => h)).trans C1.out
    (go_simp <;> with_reducible rfl)
  try simp only [Act.put, List.setIfInBounds_toArray, List.set_cons_zero, List.set_cons_succ]
  refine s_take 9 (by as_aux_lemma => kernel_rfl) (by as_aux_lemma => kernel_rfl) (by as_aux_lemma => kernel_rfl) (by as_aux_lemma => kernel_rfl) HK0.out (fun oi ho => ?_)
  simp only [List.getElem?_toArray, List.getElem?_cons_succ, List.getElem?_cons_zero, Option.some.injEq] at ho
  subst ho
  refine ⟨?_, Or.inl ⟨by rfl, fun w _ => ?_⟩, ?_⟩
  rotate_left
  · (go_simp <;> with_reducible rfl)
  try simp only [Act.put, List.setIfInBounds_toArray, List.set_cons_zero, List.set_cons_succ]
  refine s_done (by as_aux_lemma => kernel_rfl) ?_
  have hrl : ¬ (room : Int) ≤ (len : Int) := by omega
  have hrl2 : decide (room ≤ len) = false := by simpa using hlow
  have HCW := Lib.hid (show CacheAt (w.alloc (.cells C 86)).drew F b bm s from (HCA.out.kept (HKA.out.trans HK0.out (fun _ _ h => h)) (fun h => h) (fun h => h) (fun _ h => h.elim)))
  have HWG := Lib.hid (show (w.alloc (.cells C 86)).drew.heap[w.heap.size]? = some (.cells C 86 (0, 0)) from HGN.out)
  have HWL := Lib.hid (show w.heap.size < (w.alloc (.cells C 86)).drew.heap.size from HSA.out)
  have HWK := Lib.hid (show Kept (CK b bm) w (w.alloc (.cells C 86)).drew from (HKA.out.trans HK0.out (fun _ _ h => h)).mono (fun _ _ h => h.elim))
  have HLR := Lib.hid (show s.es.length < room by rw [HLN.out]; exact hlow)
  generalize (w.alloc (.cells C 86)).drew = W at *
  have z2 := HCW.out.c2
  rw [show (s : CS).now = now from HNW.out] at z2
  have zf := HCW.out.fz 2
  have HMW := Lib.hid HCW.out.map
  have HLW := Lib.hid (show ((s : CS).es.map CE.p).length < 1000000 by have := HCW.out.full; have := HCW.out.r64; rw [List.length_map]; omega)
  have Z0 := Lib.hid HCW.out.c0
  have hlw := HCW.out.lt
  have hbw := HCW.out.map.lt
  have Z2 := Lib.hid z2
  go_wp2_with fail
  have HKT := Lib.hid (Kept.set1 W b 2 (.int .i64 ((now : Int) + 1)))
  have E0 := Lib.hid (show (W.setCell ⟨b, 2, none⟩ (.int .i64 ((now : Int) + 1))).cell? ⟨b, 0, none⟩ = some (.map (some bm)) by rw [World.cell?_setCell_other _ _ _ _ (fun e => by have := congrArg Addr.off e; simp at this)]; exact Z0.out)
  have E2 := Lib.hid (show (W.setCell ⟨b, 2, none⟩ (.int .i64 ((now : Int) + 1))).cell? ⟨b, 2, none⟩ = some (.int .i64 ((now : Int) + 1)) from World.cell?_setCell_same _ _ _ Z2.out)
  have EO := Lib.hid (show ∀ o, o ≠ 2 → (W.setCell ⟨b, 2, none⟩ (.int .i64 ((now : Int) + 1))).cell? ⟨b, o, none⟩ = W.cell? ⟨b, o, none⟩ from fun o ho => World.cell?_setCell_other _ _ _ _ (fun e => ho (by have := congrArg Addr.off e; exact this.symm)))
  have EF := Lib.hid (show ∀ o, (W.setCell ⟨b, 2, none⟩ (.int .i64 ((now : Int) + 1))).frozen? ⟨b, o, none⟩ = W.frozen? ⟨b, o, none⟩ from fun o => World.frozen?_setCell _ _ _ _)
  have EG := Lib.hid (show (W.setCell ⟨b, 2, none⟩ (.int .i64 ((now : Int) + 1))).heap[w.heap.size]? = some (.cells C 86 (0, 0)) from (HKT.out.block w.heap.size HWL.out (by omega)).trans HWG.out)
  have ES : (W.setCell ⟨b, 2, none⟩ (.int .i64 ((now : Int) + 1))).heap.size = W.heap.size := by simp
  have HKT2 := Lib.hid (HKT.out)
  generalize W.setCell ⟨b, 2, none⟩ (.int .i64 ((now : Int) + 1)) = WB at *
  clear z2 zf
  have hwl := HWL.out
  have HLB := Lib.hid (show b < WB.heap.size by omega)
  have HGB := Lib.hid (show w.heap.size < WB.heap.size by omega)
  have HNG := Lib.hid (show ¬ w.heap.size = bm by omega)
  have HKB := Lib.hid (show Kept (fun i => i = b) W WB.drew from HKT2.out.drewN 1)
  have HKS := Lib.hid (show Kept (fun i => i = bm) WB WB.drew from ⟨rfl, rfl, rfl, Nat.le_refl _, fun _ _ _ => rfl⟩)
  refine s_start 12 (fun w' => Kept (fun i => i = bm) WB w') (by as_aux_lemma => kernel_rfl) (by as_aux_lemma => kernel_rfl) HKS.out ?_
  refine s_take 0 (by as_aux_lemma => kernel_rfl) (by as_aux_lemma => kernel_rfl) (by as_aux_lemma => kernel_rfl) (by as_aux_lemma => kernel_rfl) HKS.out (fun oi ho => ?_)
  simp only [List.getElem?_toArray, List.getElem?_cons_succ, List.getElem?_cons_zero, Option.some.injEq] at ho
  subst ho
  refine ⟨?_, Or.inl ⟨by rfl, fun w _ => ?_⟩, ?_⟩
  rotate_left
  · (go_simp <;> with_reducible rfl)
  try simp only [Act.put, List.setIfInBounds_toArray, List.set_cons_zero, List.set_cons_succ]
  refine s_take 1 (by as_aux_lemma => kernel_rfl) (by as_aux_lemma => kernel_rfl) (by as_aux_lemma => kernel_rfl) (by as_aux_lemma => kernel_rfl) HKS.out (fun oi ho => ?_)
  simp only [List.getElem?_toArray, List.getElem?_cons_succ, List.getElem?_cons_zero, Option.some.injEq] at ho
  subst ho
  refine ⟨?_, Or.inl ⟨by rfl, fun w _ => ?_⟩, ?_⟩
  rotate_left
  · (go_simp <;> with_reducible rfl)
  try simp only [Act.put, List.setIfInBounds_toArray, List.set_cons_zero, List.set_cons_succ]
  refine s_take 2 (by as_aux_lemma => kernel_rfl) (by as_aux_lemma => kernel_rfl) (by as_aux_lemma => kernel_rfl) (by as_aux_lemma => kernel_rfl) HKS.out (fun oi ho => ?_)
  simp only [List.getElem?_toArray, List.getElem?_cons_succ, List.getElem?_cons_zero, Option.some.injEq] at ho
  subst ho
  refine ⟨?_, Or.inl ⟨by rfl, fun w _ => ?_⟩, ?_⟩
  rotate_left
  · (go_simp <;> with_reducible rfl)
  try simp only [Act.put, List.setIfInBounds_toArray, List.set_cons_zero, List.set_cons_succ]
  refine s_take 3 (by as_aux_lemma => kernel_rfl) (by as_aux_lemma => kernel_rfl) (by as_aux_lemma => kernel_rfl) (by as_aux_lemma => kernel_rfl) HKS.out (fun oi ho => ?_)
  simp only [List.getElem?_toArray, List.getElem?_cons_succ, List.getElem?_cons_zero, Option.some.injEq] at ho
  subst ho
  refine ⟨.map (some bm), Or.inl ⟨by rfl, fun w' hS' => ?_⟩, ?_⟩
  · have q := (hS'.cell (p := ⟨b, 0, none⟩) HLB.out HNE.out).trans E0.out
    (go_simp <;> with_reducible rfl)
  try simp only [Act.put, List.setIfInBounds_toArray, List.set_cons_zero, List.set_cons_succ]
  refine s_take 4 (by as_aux_lemma => kernel_rfl) (by as_aux_lemma => kernel_rfl) (by as_aux_lemma => kernel_rfl) (by as_aux_lemma => kernel_rfl) HKS.out (fun oi ho => ?_)
  simp only [List.getElem?_toArray, List.getElem?_cons_succ, List.getElem?_cons_zero, Option.some.injEq] at ho
  subst ho
  refine ⟨_, yields_row (by rfl) 86 _ rfl w.heap.size rfl C 86 (0, 0) _ (fun w' hS' => (hS'.block w.heap.size HGB.out HNG.out).trans EG.out) Tryz.underlying86 rfl HCS.out, ?_⟩
  try simp only [Act.put, List.setIfInBounds_toArray, List.set_cons_zero, List.set_cons_succ]
  refine s_take 5 (by as_aux_lemma => kernel_rfl) (by as_aux_lemma => kernel_rfl) (by as_aux_lemma => kernel_rfl) (by as_aux_lemma => kernel_rfl) HKS.out (fun oi ho => ?_)
  simp only [List.getElem?_toArray, List.getElem?_cons_succ, List.getElem?_cons_zero, Option.some.injEq] at ho
  subst ho
  refine ⟨?_, Or.inl ⟨by rfl, fun w _ => ?_⟩, ?_⟩
  rotate_left
  · (go_simp <;> with_reducible rfl)
  try simp only [Act.put, List.setIfInBounds_toArray, List.set_cons_zero, List.set_cons_succ]
  refine s_take 6 (by as_aux_lemma => kernel_rfl) (by as_aux_lemma => kernel_rfl) (by as_aux_lemma => kernel_rfl) (by as_aux_lemma => kernel_rfl) HKS.out (fun oi ho => ?_)
  simp only [List.getElem?_toArray, List.getElem?_cons_succ, List.getElem?_cons_zero, Option.some.injEq] at ho
  subst ho
  refine ⟨?_, Or.inl ⟨by rfl, fun w _ => ?_⟩, ?_⟩
  rotate_left
  · (go_simp <;> with_reducible rfl)
  try simp only [Act.put, List.setIfInBounds_toArray, List.set_cons_zero, List.set_cons_succ]
  refine s_take 7 (by as_aux_lemma => kernel_rfl) (by as_aux_lemma => kernel_rfl) (by as_aux_lemma => kernel_rfl) (by as_aux_lemma => kernel_rfl) HKS.out (fun oi ho => ?_)
  simp only [List.getElem?_toArray, List.getElem?_cons_succ, List.getElem?_cons_zero, Option.some.injEq] at ho
  subst ho
  refine ⟨?_, Or.inl ⟨by rfl, fun w _ => ?_⟩, ?_⟩
  rotate_left
  · (go_simp <;> with_reducible rfl)
  try simp only [Act.put, List.setIfInBounds_toArray, List.set_cons_zero, List.set_cons_succ]
  refine s_take 8 (by as_aux_lemma => kernel_rfl) (by as_aux_lemma => kernel_rfl) (by as_aux_lemma => kernel_rfl) (by as_aux_lemma => kernel_rfl) HKS.out (fun oi ho => ?_)
  simp only [List.getElem?_toArray, List.getElem?_cons_succ, List.getElem?_cons_zero, Option.some.injEq] at ho
  subst ho
  refine ⟨?_, Or.inl ⟨by rfl, fun w _ => ?_⟩, ?_⟩
  rotate_left
  · (go_simp <;> with_reducible rfl)
  try simp only [Act.put, List.setIfInBounds_toArray, List.set_cons_zero, List.set_cons_succ]
  refine s_take 9 (by as_aux_lemma => kernel_rfl) (by as_aux_lemma => kernel_rfl) (by as_aux_lemma => kernel_rfl) (by as_aux_lemma => kernel_rfl) HKS.out (fun oi ho => ?_)
  simp only [List.getElem?_toArray, List.getElem?_cons_succ, List.getElem?_cons_zero, Option.some.injEq] at ho
  subst ho
  refine ⟨.int .i64 ((now : Int) + 1), Or.inl ⟨by rfl, fun w' hS' => ?_⟩, ?_⟩
  · have q := (hS'.cell (p := ⟨b, 2, none⟩) HLB.out HNE.out).trans E2.out
    (go_simp <;> with_reducible rfl)
  try simp only [Act.put, List.setIfInBounds_toArray, List.set_cons_zero, List.set_cons_succ]
  refine s_take 10 (by as_aux_lemma => kernel_rfl) (by as_aux_lemma => kernel_rfl) (by as_aux_lemma => kernel_rfl) (by as_aux_lemma => kernel_rfl) HKS.out (fun oi ho => ?_)
  simp only [List.getElem?_toArray, List.getElem?_cons_succ, List.getElem?_cons_zero, Option.some.injEq] at ho
  subst ho
  refine ⟨?_, Or.inl ⟨by rfl, fun w _ => ?_⟩, ?_⟩
  rotate_left
  · (go_simp <;> with_reducible rfl)
  try simp only [Act.put, List.setIfInBounds_toArray, List.set_cons_zero, List.set_cons_succ]
  refine s_all (rs := [11]) (by as_aux_lemma => kernel_rfl) (by simp) ?_
  refine s_step 11 (by as_aux_lemma => kernel_rfl) (fun o ho K hK => ?_) AllReadyH.nil
  simp only [List.getElem?_toArray, List.getElem?_cons_succ, List.getElem?_cons_zero, Option.some.injEq] at ho
  subst ho
  refine step_put (by rfl) _ _ _ rfl bm _ (HMW.out.kept HKB.out (fun h => HNE.out h.symm)) kk xs HID.out (.agg #[.slice (some ⟨gm, 0, none⟩) kk kk, .int .i64 ((now : Int) + 1)]) C HKV.out rfl rfl rfl HLW.out ?_
  intro w5 hm5 hk5
  have HM5 := Lib.hid hm5
  have HK5 := Lib.hid (HKS.out.trans hk5 (fun _ _ h => h))
  clear hm5 hk5
  refine hK.out _ _ HK5.out ?_
  clear hK K
  try simp only [Act.put, List.setIfInBounds_toArray, List.set_cons_zero, List.set_cons_succ]
  refine s_done (by as_aux_lemma => kernel_rfl) ?_
  go_wp2
  go_ret
  have hk55 : Kept (CK b bm) W w5 := (HKT2.out.mono (S' := CK b bm) (fun i _ h => .inl h)).trans HK5.out (fun i _ h => .inr h)
  refine ⟨rfl, ?_, HWK.out.trans hk55 (fun i _ h => h)⟩
  have hcn : ((now : Int) + 1) = (((s : CS).now + 1 : Nat) : Int) := by rw [show (s : CS).now = now from HNW.out]; omega
  have hm55 := HM5.out
  rw [← HEL.out, ← HEV.out, hcn] at hm55
  refine HCW.out.add hk55 e ?_ (fun o ho => (HK5.out.cell (p := ⟨b, o, none⟩) HLB.out HNE.out).trans (EO.out o ho)) (fun o => (frozen_kept HK5.out HLB.out HNE.out o).trans ((EF.out o).trans (HCW.out.fz o))) hm55 HGD.out ?_ ?_
  · exact ((HK5.out.cell (p := ⟨b, 2, none⟩) HLB.out HNE.out).trans E2.out).trans (by rw [hcn])
  · obtain ⟨U, m1, m2⟩ := HMT.out
    exact ⟨U, m1.kept HWK.out (fun i hi hs => m2 i hi (by rcases hs with rfl | rfl; exact HCA.out.fb; exact HCA.out.fm)), m2⟩
  · unfold addE
    rw [List.length_append, List.length_cons, List.length_nil]
    have hff := List.length_filter_le (fun x : CE => neK e.L x.p) (s : CS).es
    have hrr : (s : CS).room = room := HRM.out
    rw [hrr]
    have := HLR.out
    try dsimp only at hff ⊢
    omega

theorem put_full (w : World) {F : Nat → Prop} {b bm : Nat} {s : CS} (hc : CacheAt w F b bm s) (e : CE) (hg : (e.now (s.now + 1)).Good s.n (s.now + 1)) (hno : ∀ x ∈ s.es, x.L ≠ e.L) (hM : Mat w F e) (hnow : s.now < 1000000000) (e0 : CE) (r0 : List CE) (hes : s.es = e0 :: r0) (hful : s.es.length = s.room) :
    Calls Tryz.prog 44 #[.pointer (some ⟨b, 0, none⟩), keyV e.k e.xs, e.v] w fun e' w' => e' = .returned (.bool true) ∧ CacheAt w' F b bm { s with now := s.now + 1, es := addE r0 e (s.now + 1) } ∧ Kept (CK b bm) w w' := by
  have HCA := Lib.hid hc
  have HGD := Lib.hid hg
  have HNO := Lib.hid hno
  have HMT := Lib.hid hM
  have HID := Lib.hid (show Idx e.k e.xs from CE.Good.idx (e := e.now (s.now + 1)) hg hc.n255)
  have c0 := hc.c0
  have c1 := hc.c1
  have hl := hc.lt
  have HNE := Lib.hid hc.ne
  have hbm := hc.map.lt
  have hfull := hc.full
  have HR64 := Lib.hid hc.r64
  have HMP := Lib.hid hc.map
  obtain ⟨now, hnw⟩ : ∃ n, s.now = n := ⟨_, rfl⟩
  obtain ⟨room, hrm⟩ : ∃ n, s.room = n := ⟨_, rfl⟩
  obtain ⟨len, hln⟩ : ∃ n, s.es.length = n := ⟨_, rfl⟩
  have HNW := Lib.hid hnw
  have HRM := Lib.hid hrm
  have HLN := Lib.hid hln
  rw [hrm] at c1 hfull
  rw [hln] at hfull
  rw [hnw] at hnow
  have hr64 : room ≤ 64 := by rw [← hrm]; exact hc.r64
  obtain ⟨kk, hkk⟩ : ∃ g, e.k = g := ⟨_, rfl⟩
  obtain ⟨xs, hxs⟩ : ∃ g, e.xs = g := ⟨_, rfl⟩
  obtain ⟨gm, hgm⟩ : ∃ g, e.gm = g := ⟨_, rfl⟩
  have HEV := Lib.hid (show e.v = .slice (some ⟨gm, 0, none⟩) kk kk by unfold CE.v; rw [hgm, hkk])
  have HEL := Lib.hid (show e.L = kl kk xs by unfold CE.L; rw [hkk, hxs])
  rw [hkk, hxs] at HID
  obtain ⟨C, hC⟩ : ∃ C, (kcells kk xs).toArray = C := ⟨_, rfl⟩
  have HKV := Lib.hid (show keyV kk xs = .agg C by unfold keyV; rw [hC])
  have HCS := Lib.hid (show (Tryz.prog.info? 86).map (·.size) = some C.size by rw [← hC]; exact kc_hi kk xs)
  rw [HEV.out, hkk, hxs, HKV.out]
  have HL := Lib.hid (show b < (w.alloc (.cells C 86)).heap.size by simp; omega)
  have C0 := Lib.hid (alloc_cell c0 (.cells C 86))
  have C1 := Lib.hid (alloc_cell c1 (.cells C 86))
  have HGN := Lib.hid (Go.heap_alloc_new w (.cells C 86))
  have HK0 := Lib.hid (show Kept (fun _ => False) (w.alloc (.cells C 86)) (w.alloc (.cells C 86)).drew from ⟨rfl, rfl, rfl, Nat.le_refl _, fun _ _ _ => rfl⟩)
  have HKA := Lib.hid (Kept.alloc (fun _ => False) w (.cells C 86))
  have HSA := Lib.hid (show w.heap.size < (w.alloc (.cells C 86)).heap.size by simp)
  have HLE := Lib.hid (show ∀ W, Kept (fun _ => False) (w.alloc (.cells C 86)) W → (Builtin.len_ #[60] 3 #[.map (some bm)]).run Tryz.prog W = .ok (.int .i64 (len : Int)) W from fun W hW => by
    have := (HMP.out.kept (HKA.out.trans hW (fun _ _ h => h)) (fun h => h)).len 3
    rw [List.length_map, HLN.out] at this
    exact this)
  rw [HRM.out, HLN.out] at hful
  have HES := Lib.hid hes
  clear hes
  clear hc hg hno hM c0 c1 hnw hrm hln hkk hxs hgm hC
  go_enter Tryz.func44, Tryz.ntmps44
  go_wp2_with fail
  refine s_start 10 (fun w' => Kept (fun _ => False) (w.alloc (.cells C 86)) w') (by as_aux_lemma => kernel_rfl) (by as_aux_lemma => kernel_rfl) HK0.out ?_
  refine s_take 0 (by as_aux_lemma => kernel_rfl) (by as_aux_lemma => kernel_rfl) (by as_aux_lemma => kernel_rfl) (by as_aux_lemma => kernel_rfl) HK0.out (fun oi ho => ?_)
  simp only [List.getElem?_toArray, List.getElem?_cons_succ, List.getElem?_cons_zero, Option.some.injEq] at ho
  subst ho
  refine ⟨?_, Or.inl ⟨by rfl, fun w _ => ?_⟩, ?_⟩
  rotate_left
  · (go_simp <;> with_reducible rfl)
  try simp only [Act.put, List.setIfInBounds_toArray, List.set_cons_zero, List.set_cons_succ]
  refine s_take 1 (by as_aux_lemma => kernel_rfl) (by as_aux_lemma => kernel_rfl) (by as_aux_lemma => kernel_rfl) (by as_aux_lemma => kernel_rfl) HK0.out (fun oi ho => ?_)
  simp only [List.getElem?_toArray, List.getElem?_cons_succ, List.getElem?_cons_zero, Option.some.injEq] at ho
  subst ho
  refine ⟨?_, Or.inl ⟨by rfl, fun w _ => ?_⟩, ?_⟩
  rotate_left
  · (go_simp <;> with_reducible rfl)
  try simp only [Act.put, List.setIfInBounds_toArray, List.set_cons_zero, List.set_cons_succ]
  refine s_take 2 (by as_aux_lemma => kernel_rfl) (by as_aux_lemma => kernel_rfl) (by as_aux_lemma => kernel_rfl) (by as_aux_lemma => kernel_rfl) HK0.out (fun oi ho => ?_)
  simp only [List.getElem?_toArray, List.getElem?_cons_succ, List.getElem?_cons_zero, Option.some.injEq] at ho
  subst ho
  refine ⟨?_, Or.inl ⟨by rfl, fun w _ => ?_⟩, ?_⟩
  rotate_left
  · (go_simp <;> with_reducible rfl)
  try simp only [Act.put, List.setIfInBounds_toArray, List.set_cons_zero, List.set_cons_succ]
  refine s_take 3 (by as_aux_lemma => kernel_rfl) (by as_aux_lemma => kernel_rfl) (by as_aux_lemma => kernel_rfl) (by as_aux_lemma => kernel_rfl) HK0.out (fun oi ho => ?_)
  simp only [List.getElem?_toArray, List.getElem?_cons_succ, List.getElem?_cons_zero, Option.some.injEq] at ho
  subst ho
  refine ⟨.map (some bm), Or.inl ⟨by rfl, fun w' hS' => ?_⟩, ?_⟩
  · have q := (hS'.cell (p := ⟨b, 0, none⟩) HL.out (fun h => h)).trans C0.out
    (go_simp <;> with_reducible rfl)
  try simp only [Act.put, List.setIfInBounds_toArray, List.set_cons_zero, List.set_cons_succ]
  refine s_take 4 (by as_aux_lemma => kernel_rfl) (by as_aux_lemma => kernel_rfl) (by as_aux_lemma => kernel_rfl) (by as_aux_lemma => kernel_rfl) HK0.out (fun oi ho => ?_)
  simp only [List.getElem?_toArray, List.getElem?_cons_succ, List.getElem?_cons_zero, Option.some.injEq] at ho
  subst ho
  refine ⟨.int .i64 (len : Int), Or.inl ⟨by rfl, fun w' hS' => ?_⟩, ?_⟩
  · have q := HLE.out w' hS'
    (go_simp <;> with_reducible rfl)
  try simp only [Act.put, List.setIfInBounds_toArray, List.set_cons_zero, List.set_cons_succ]
  refine s_take 5 (by as_aux_lemma => kernel_rfl) (by as_aux_lemma => kernel_rfl) (by as_aux_lemma => kernel_rfl) (by as_aux_lemma => kernel_rfl) HK0.out (fun oi ho => ?_)
  simp only [List.getElem?_toArray, List.getElem?_cons_succ, List.getElem?_cons_zero, Option.some.injEq] at ho
  subst ho
  refine ⟨?_, Or.inl ⟨by rfl, fun w _ => ?_⟩, ?_⟩
  rotate_left
  · (go_simp <;> with_reducible rfl)
  try simp only [Act.put, List.setIfInBounds_toArray, List.set_cons_zero, List.set_cons_succ]
  refine s_take 6 (by as_aux_lemma => kernel_rfl) (by as_aux_lemma => kernel_rfl) (by as_aux_lemma => kernel_rfl) (by as_aux_lemma => kernel_rfl) HK0.out (fun oi ho => ?_)
  simp only [List.getElem?_toArray, List.getElem?_cons_succ, List.getElem?_cons_zero, Option.some.injEq] at ho
  subst ho
  refine ⟨?_, Or.inl ⟨by rfl, fun w _ => ?_⟩, ?_⟩
  rotate_left
  · (go_simp <;> with_reducible rfl)
  try simp only [Act.put, List.setIfInBounds_toArray, List.set_cons_zero, List.set_cons_succ]
  refine s_take 7 (by as_aux_lemma => kernel_rfl) (by as_aux_lemma => kernel_rfl) (by as_aux_lemma => kernel_rfl) (by as_aux_lemma => kernel_rfl) HK0.out (fun oi ho => ?_)
  simp only [List.getElem?_toArray, List.getElem?_cons_succ, List.getElem?_cons_zero, Option.some.injEq] at ho
  subst ho
  refine ⟨?_, Or.inl ⟨by rfl, fun w _ => ?_⟩, ?_⟩
  rotate_left
  · (go_simp <;> with_reducible rfl)
  try simp only [Act.put, List.setIfInBounds_toArray, List.set_cons_zero, List.set_cons_succ]
  refine s_take 8 (by as_aux_lemma => kernel_rfl) (by as_aux_lemma => kernel_rfl) (by as_aux_lemma => kernel_rfl) (by as_aux_lemma => kernel_rfl) HK0.out (fun oi ho => ?_)
  simp only [List.getElem?_toArray, List.getElem?_cons_succ, List.getElem?_cons_zero, Option.some.injEq] at ho
  subst ho
  refine ⟨.int .i64 (room : Int), Or.inl ⟨by rfl, fun w' hS' => ?_⟩, ?_⟩
  · have q := (hS'.cell (p := ⟨b, 1, none⟩) HL.out (fun h => h)).trans C1.out
    (go_simp <;> with_reducible rfl)
  try simp only [Act.put, List.setIfInBounds_toArray, List.set_cons_zero, List.set_cons_succ]
  refine s_take 9 (by as_aux_lemma => kernel_rfl) (by as_aux_lemma => kernel_rfl) (by as_aux_lemma => kernel_rfl) (by as_aux_lemma => kernel_rfl) HK0.out (fun oi ho => ?_)
  simp only [List.getElem?_toArray, List.getElem?_cons_succ, List.getElem?_cons_zero, Option.some.injEq] at ho
  subst ho
  refine ⟨?_, Or.inl ⟨by rfl, fun w _ => ?_⟩, ?_⟩
  rotate_left
  · (go_simp <;> with_reducible rfl)
  try simp only [Act.put, List.setIfInBounds_toArray, List.set_cons_zero, List.set_cons_succ]
  refine s_done (by as_aux_lemma => kernel_rfl) ?_
  have hrl : (room : Int) ≤ (len : Int) := by omega
  have hrl2 : decide (room ≤ len) = true := by simpa using Nat.le_of_eq hful.symm
  have HCW := Lib.hid (show CacheAt (w.alloc (.cells C 86)).drew F b bm s from (HCA.out.kept (HKA.out.trans HK0.out (fun _ _ h => h)) (fun h => h) (fun h => h) (fun _ h => h.elim)))
  have HWG := Lib.hid (show (w.alloc (.cells C 86)).drew.heap[w.heap.size]? = some (.cells C 86 (0, 0)) from HGN.out)
  have HWL := Lib.hid (show w.heap.size < (w.alloc (.cells C 86)).drew.heap.size from HSA.out)
  have HWK := Lib.hid (show Kept (fun _ => False) w (w.alloc (.cells C 86)).drew from (HKA.out.trans HK0.out (fun _ _ h => h)))
  go_wp2_with fail
  generalize (w.alloc (.cells C 86)).drew = W0 at *
  have D0 := Lib.hid HCW.out.c0
  have HL0 := Lib.hid HCW.out.lt
  have HM0 := Lib.hid HCW.out.map.lt
  have HKD := Lib.hid (show Kept (fun i => i = bm) W0 W0.drew from ⟨rfl, rfl, rfl, Nat.le_refl _, fun _ _ _ => rfl⟩)
  have HCD := Lib.hid (HCW.out.below (belowDrew' (Below.refl _ W0)))
  have HG0 := Lib.hid (HCW.out.good e0 (by rw [HES.out]; simp))
  have HI0 := Lib.hid (HG0.out.idx HCW.out.n255)
  have hnow' : s.now < 1000000000 := by rw [HNW.out]; exact hnow
  have HOL := Lib.hid (oldest_any W0.drew HCD.out e0 r0 HES.out hnow')
  have HKD2 := Lib.hid (show Kept (fun _ => False) W0 W0.drew from ⟨rfl, rfl, rfl, Nat.le_refl _, fun _ _ _ => rfl⟩)
  clear hnow'
  refine s_start 7 (fun w' => Kept (fun i => i = bm) W0 w') (by as_aux_lemma => kernel_rfl) (by as_aux_lemma => kernel_rfl) HKD.out ?_
  refine s_take 0 (by as_aux_lemma => kernel_rfl) (by as_aux_lemma => kernel_rfl) (by as_aux_lemma => kernel_rfl) (by as_aux_lemma => kernel_rfl) HKD.out (fun oi ho => ?_)
  simp only [List.getElem?_toArray, List.getElem?_cons_succ, List.getElem?_cons_zero, Option.some.injEq] at ho
  subst ho
  refine ⟨?_, Or.inl ⟨by rfl, fun w _ => ?_⟩, ?_⟩
  rotate_left
  · (go_simp <;> with_reducible rfl)
  try simp only [Act.put, List.setIfInBounds_toArray, List.set_cons_zero, List.set_cons_succ]
  refine s_take 1 (by as_aux_lemma => kernel_rfl) (by as_aux_lemma => kernel_rfl) (by as_aux_lemma => kernel_rfl) (by as_aux_lemma => kernel_rfl) HKD.out (fun oi ho => ?_)
  simp only [List.getElem?_toArray, List.getElem?_cons_succ, List.getElem?_cons_zero, Option.some.injEq] at ho
  subst ho
  refine ⟨?_, Or.inl ⟨by rfl, fun w _ => ?_⟩, ?_⟩
  rotate_left
  · (go_simp <;> with_reducible rfl)
  try simp only [Act.put, List.setIfInBounds_toArray, List.set_cons_zero, List.set_cons_succ]
  refine s_take 2 (by as_aux_lemma => kernel_rfl) (by as_aux_lemma => kernel_rfl) (by as_aux_lemma => kernel_rfl) (by as_aux_lemma => kernel_rfl) HKD.out (fun oi ho => ?_)
  simp only [List.getElem?_toArray, List.getElem?_cons_succ, List.getElem?_cons_zero, Option.some.injEq] at ho
  subst ho
  refine ⟨?_, Or.inl ⟨by rfl, fun w _ => ?_⟩, ?_⟩
  rotate_left
  · (go_simp <;> with_reducible rfl)
  try simp only [Act.put, List.setIfInBounds_toArray, List.set_cons_zero, List.set_cons_succ]
  refine s_take 3 (by as_aux_lemma => kernel_rfl) (by as_aux_lemma => kernel_rfl) (by as_aux_lemma => kernel_rfl) (by as_aux_lemma => kernel_rfl) HKD.out (fun oi ho => ?_)
  simp only [List.getElem?_toArray, List.getElem?_cons_succ, List.getElem?_cons_zero, Option.some.injEq] at ho
  subst ho
  refine ⟨.map (some bm), Or.inl ⟨by rfl, fun w' hS' => ?_⟩, ?_⟩
  · have q := (hS'.cell (p := ⟨b, 0, none⟩) HL0.out HNE.out).trans D0.out
    (go_simp <;> with_reducible rfl)
  try simp only [Act.put, List.setIfInBounds_toArray, List.set_cons_zero, List.set_cons_succ]
  refine s_take 4 (by as_aux_lemma => kernel_rfl) (by as_aux_lemma => kernel_rfl) (by as_aux_lemma => kernel_rfl) (by as_aux_lemma => kernel_rfl) HKD.out (fun oi ho => ?_)
  simp only [List.getElem?_toArray, List.getElem?_cons_succ, List.getElem?_cons_zero, Option.some.injEq] at ho
  subst ho
  refine ⟨?_, Or.inl ⟨by rfl, fun w _ => ?_⟩, ?_⟩
  rotate_left
  · (go_simp <;> with_reducible rfl)
  try simp only [Act.put, List.setIfInBounds_toArray, List.set_cons_zero, List.set_cons_succ]
  refine s_all (rs := [5]) (by as_aux_lemma => kernel_rfl) (by simp) ?_
  refine s_step 5 (by as_aux_lemma => kernel_rfl) (fun o ho K hK => ?_) AllReadyH.nil
  simp only [List.getElem?_toArray, List.getElem?_cons_succ, List.getElem?_cons_zero, Option.some.injEq] at ho
  subst ho
  go_simp
  go_at_call 59
  refine HOL.out.mono ?_
  rintro e' w1 ⟨rfl, hB1⟩
  have HB1 := Lib.hid (HKD2.out.trans (Kept.below hB1) (fun _ _ h => h))
  have HC1 := Lib.hid (HCD.out.below hB1)
  clear hB1
  go_wp2_with fail
  refine hK.out _ _ (HB1.out.mono (fun _ _ h => h.elim)) ?_
  clear hK K
  try simp only [Act.put, List.setIfInBounds_toArray, List.set_cons_zero, List.set_cons_succ]
  refine s_all (rs := [6]) (by as_aux_lemma => kernel_rfl) (by simp) ?_
  refine s_step 6 (by as_aux_lemma => kernel_rfl) (fun o ho K hK => ?_) AllReadyH.nil
  simp only [List.getElem?_toArray, List.getElem?_cons_succ, List.getElem?_cons_zero, Option.some.injEq] at ho
  subst ho
  refine step_del (by rfl) _ _ rfl bm _ HC1.out.map e0.k e0.xs HI0.out e0.p (List.mem_map.2 ⟨e0, by rw [HES.out]; simp, rfl⟩) rfl rfl rfl ?_
  intro w2 hm2 hk2
  have HC2 := Lib.hid (HC1.out.tail HES.out hk2 hm2)
  have HK2 := Lib.hid (show Kept (fun i => i = bm) W0 w2 from (HB1.out.mono (fun _ _ h => h.elim)).trans hk2 (fun _ _ h => h))
  clear hm2 hk2
  refine hK.out _ _ HK2.out ?_
  clear hK K
  try simp only [Act.put, List.setIfInBounds_toArray, List.set_cons_zero, List.set_cons_succ]
  refine s_done (by as_aux_lemma => kernel_rfl) ?_
  have HWG2 := Lib.hid ((HK2.out.block w.heap.size HWL.out (by omega)).trans HWG.out)
  have HWL2 := Lib.hid (Nat.lt_of_lt_of_le HWL.out HK2.out.size)
  have HWK2 := Lib.hid (show Kept (CK b bm) w w2 from (HWK.out.mono (fun _ _ h => h.elim)).trans HK2.out (fun i _ h => .inr h))
  have HLR := Lib.hid (show r0.length < room by have := HLN.out; rw [HES.out] at this; simp at this; omega)
  clear HCW HWG HWL HWK HCD HL0 HM0
  have HCW := HC2
  have HWG := HWG2
  have HWL := HWL2
  have HWK := HWK2
  clear HC2 HWG2 HWL2 HWK2
  generalize w2 = W at *
  have z2 := HCW.out.c2
  rw [show ({ s with es := r0 } : CS).now = now from HNW.out] at z2
  have zf := HCW.out.fz 2
  have HMW := Lib.hid HCW.out.map
  have HLW := Lib.hid (show (({ s with es := r0 } : CS).es.map CE.p).length < 1000000 by have := HCW.out.full; have := HCW.out.r64; rw [List.length_map]; omega)
  have Z0 := Lib.hid HCW.out.c0
  have hlw := HCW.out.lt
  have hbw := HCW.out.map.lt
  have Z2 := Lib.hid z2
  go_wp2_with fail
  have HKT := Lib.hid (Kept.set1 W b 2 (.int .i64 ((now : Int) + 1)))
  have E0 := Lib.hid (show (W.setCell ⟨b, 2, none⟩ (.int .i64 ((now : Int) + 1))).cell? ⟨b, 0, none⟩ = some (.map (some bm)) by rw [World.cell?_setCell_other _ _ _ _ (fun e => by have := congrArg Addr.off e; simp at this)]; exact Z0.out)
  have E2 := Lib.hid (show (W.setCell ⟨b, 2, none⟩ (.int .i64 ((now : Int) + 1))).cell? ⟨b, 2, none⟩ = some (.int .i64 ((now : Int) + 1)) from World.cell?_setCell_same _ _ _ Z2.out)
  have EO := Lib.hid (show ∀ o, o ≠ 2 → (W.setCell ⟨b, 2, none⟩ (.int .i64 ((now : Int) + 1))).cell? ⟨b, o, none⟩ = W.cell? ⟨b, o, none⟩ from fun o ho => World.cell?_setCell_other _ _ _ _ (fun e => ho (by have := congrArg Addr.off e; exact this.symm)))
  have EF := Lib.hid (show ∀ o, (W.setCell ⟨b, 2, none⟩ (.int .i64 ((now : Int) + 1))).frozen? ⟨b, o, none⟩ = W.frozen? ⟨b, o, none⟩ from fun o => World.frozen?_setCell _ _ _ _)
  have EG := Lib.hid (show (W.setCell ⟨b, 2, none⟩ (.int .i64 ((now : Int) + 1))).heap[w.heap.size]? = some (.cells C 86 (0, 0)) from (HKT.out.block w.heap.size HWL.out (by omega)).trans HWG.out)
  have ES : (W.setCell ⟨b, 2, none⟩ (.int .i64 ((now : Int) + 1))).heap.size = W.heap.size := by simp
  have HKT2 := Lib.hid (HKT.out)
  generalize W.setCell ⟨b, 2, none⟩ (.int .i64 ((now : Int) + 1)) = WB at *
  clear z2 zf
  have hwl := HWL.out
  have HLB := Lib.hid (show b < WB.heap.size by omega)
  have HGB := Lib.hid (show w.heap.size < WB.heap.size by omega)
  have HNG := Lib.hid (show ¬ w.heap.size = bm by omega)
  have HKB := Lib.hid (show Kept (fun i => i = b) W WB.drew from HKT2.out.drewN 1)
  have HKS := Lib.hid (show Kept (fun i => i = bm) WB WB.drew from ⟨rfl, rfl, rfl, Nat.le_refl _, fun _ _ _ => rfl⟩)
  refine s_start 12 (fun w' => Kept (fun i => i = bm) WB w') (by as_aux_lemma => kernel_rfl) (by as_aux_lemma => kernel_rfl) HKS.out ?_
  refine s_take 0 (by as_aux_lemma => kernel_rfl) (by as_aux_lemma => kernel_rfl) (by as_aux_lemma => kernel_rfl) (by as_aux_lemma => kernel_rfl) HKS.out (fun oi ho => ?_)
  simp only [List.getElem?_toArray, List.getElem?_cons_succ, List.getElem?_cons_zero, Option.some.injEq] at ho
  subst ho
  refine ⟨?_, Or.inl ⟨by rfl, fun w _ => ?_⟩, ?_⟩
  rotate_left
  · (go_simp <;> with_reducible rfl)
  try simp only [Act.put, List.setIfInBounds_toArray, List.set_cons_zero, List.set_cons_succ]
  refine s_take 1 (by as_aux_lemma => kernel_rfl) (by as_aux_lemma => kernel_rfl) (by as_aux_lemma => kernel_rfl) (by as_aux_lemma => kernel_rfl) HKS.out (fun oi ho => ?_)
  simp only [List.getElem?_toArray, List.getElem?_cons_succ, List.getElem?_cons_zero, Option.some.injEq] at ho
  subst ho
  refine ⟨?_, Or.inl ⟨by rfl, fun w _ => ?_⟩, ?_⟩
  rotate_left
  · (go_simp <;> with_reducible rfl)
  try simp only [Act.put, List.setIfInBounds_toArray, List.set_cons_zero, List.set_cons_succ]
  refine s_take 2 (by as_aux_lemma => kernel_rfl) (by as_aux_lemma => kernel_rfl) (by as_aux_lemma => kernel_rfl) (by as_aux_lemma => kernel_rfl) HKS.out (fun oi ho => ?_)
  simp only [List.getElem?_toArray, List.getElem?_cons_succ, List.getElem?_cons_zero, Option.some.injEq] at ho
  subst ho
  refine ⟨?_, Or.inl ⟨by rfl, fun w _ => ?_⟩, ?_⟩
  rotate_left
  · (go_simp <;> with_reducible rfl)
  try simp only [Act.put, List.setIfInBounds_toArray, List.set_cons_zero, List.set_cons_succ]
  refine s_take 3 (by as_aux_lemma => kernel_rfl) (by as_aux_lemma => kernel_rfl) (by as_aux_lemma => kernel_rfl) (by as_aux_lemma => kernel_rfl) HKS.out (fun oi ho => ?_)
  simp only [List.getElem?_toArray, List.getElem?_cons_succ, List.getElem?_cons_zero, Option.some.injEq] at ho
  subst ho
  refine ⟨.map (some bm), Or.inl ⟨by rfl, fun w' hS' => ?_⟩, ?_⟩
  · have q := (hS'.cell (p := ⟨b, 0, none⟩) HLB.out HNE.out).trans E0.out
    (go_simp <;> with_reducible rfl)
  try simp only [Act.put, List.setIfInBounds_toArray, List.set_cons_zero, List.set_cons_succ]
  refine s_take 4 (by as_aux_lemma => kernel_rfl) (by as_aux_lemma => kernel_rfl) (by as_aux_lemma => kernel_rfl) (by as_aux_lemma => kernel_rfl) HKS.out (fun oi ho => ?_)
  simp only [List.getElem?_toArray, List.getElem?_cons_succ, List.getElem?_cons_zero, Option.some.injEq] at ho
  subst ho
  refine ⟨_, yields_row (by rfl) 86 _ rfl w.heap.size rfl C 86 (0, 0) _ (fun w' hS' => (hS'.block w.heap.size HGB.out HNG.out).trans EG.out) Tryz.underlying86 rfl HCS.out, ?_⟩
  try simp only [Act.put, List.setIfInBounds_toArray, List.set_cons_zero, List.set_cons_succ]
  refine s_take 5 (by as_aux_lemma => kernel_rfl) (by as_aux_lemma => kernel_rfl) (by as_aux_lemma => kernel_rfl) (by as_aux_lemma => kernel_rfl) HKS.out (fun oi ho => ?_)
  simp only [List.getElem?_toArray, List.getElem?_cons_succ, List.getElem?_cons_zero, Option.some.injEq] at ho
  subst ho
  refine ⟨?_, Or.inl ⟨by rfl, fun w _ => ?_⟩, ?_⟩
  rotate_left
  · (go_simp <;> with_reducible rfl)
  try simp only [Act.put, List.setIfInBounds_toArray, List.set_cons_zero, List.set_cons_succ]
  refine s_take 6 (by as_aux_lemma => kernel_rfl) (by as_aux_lemma => kernel_rfl) (by as_aux_lemma => kernel_rfl) (by as_aux_lemma => kernel_rfl) HKS.out (fun oi ho => ?_)
  simp only [List.getElem?_toArray, List.getElem?_cons_succ, List.getElem?_cons_zero, Option.some.injEq] at ho
  subst ho
  refine ⟨?_, Or.inl ⟨by rfl, fun w _ => ?_⟩, ?_⟩
  rotate_left
  · (go_simp <;> with_reducible rfl)
  try simp only [Act.put, List.setIfInBounds_toArray, List.set_cons_zero, List.set_cons_succ]
  refine s_take 7 (by as_aux_lemma => kernel_rfl) (by as_aux_lemma => kernel_rfl) (by as_aux_lemma => kernel_rfl) (by as_aux_lemma => kernel_rfl) HKS.out (fun oi ho => ?_)
  simp only [List.getElem?_toArray, List.getElem?_cons_succ, List.getElem?_cons_zero, Option.some.injEq] at ho
  subst ho
  refine ⟨?_, Or.inl ⟨by rfl, fun w _ => ?_⟩, ?_⟩
  rotate_left
  · (go_simp <;> with_reducible rfl)
  try simp only [Act.put, List.setIfInBounds_toArray, List.set_cons_zero, List.set_cons_succ]
  refine s_take 8 (by as_aux_lemma => kernel_rfl) (by as_aux_lemma => kernel_rfl) (by as_aux_lemma => kernel_rfl) (by as_aux_lemma => kernel_rfl) HKS.out (fun oi ho => ?_)
  simp only [List.getElem?_toArray, List.getElem?_cons_succ, List.getElem?_cons_zero, Option.some.injEq] at ho
  subst ho
  refine ⟨?_, Or.inl ⟨by rfl, fun w _ => ?_⟩, ?_⟩
  rotate_left
  · (go_simp <;> with_reducible rfl)
  try simp only [Act.put, List.setIfInBounds_toArray, List.set_cons_zero, List.set_cons_succ]
  refine s_take 9 (by as_aux_lemma => kernel_rfl) (by as_aux_lemma => kernel_rfl) (by as_aux_lemma => kernel_rfl) (by as_aux_lemma => kernel_rfl) HKS.out (fun oi ho => ?_)
  simp only [List.getElem?_toArray, List.getElem?_cons_succ, List.getElem?_cons_zero, Option.some.injEq] at ho
  subst ho
  refine ⟨.int .i64 ((now : Int) + 1), Or.inl ⟨by rfl, fun w' hS' => ?_⟩, ?_⟩
  · have q := (hS'.cell (p := ⟨b, 2, none⟩) HLB.out HNE.out).trans E2.out
    (go_simp <;> with_reducible rfl)
  try simp only [Act.put, List.setIfInBounds_toArray, List.set_cons_zero, List.set_cons_succ]
  refine s_take 10 (by as_aux_lemma => kernel_rfl) (by as_aux_lemma => kernel_rfl) (by as_aux_lemma => kernel_rfl) (by as_aux_lemma => kernel_rfl) HKS.out (fun oi ho => ?_)
  simp only [List.getElem?_toArray, List.getElem?_cons_succ, List.getElem?_cons_zero, Option.some.injEq] at ho
  subst ho
  refine ⟨?_, Or.inl ⟨by rfl, fun w _ => ?_⟩, ?_⟩
  rotate_left
  · (go_simp <;> with_reducible rfl)
  try simp only [Act.put, List.setIfInBounds_toArray, List.set_cons_zero, List.set_cons_succ]
  refine s_all (rs := [11]) (by as_aux_lemma => kernel_rfl) (by simp) ?_
  refine s_step 11 (by as_aux_lemma => kernel_rfl) (fun o ho K hK => ?_) AllReadyH.nil
  simp only [List.getElem?_toArray, List.getElem?_cons_succ, List.getElem?_cons_zero, Option.some.injEq] at ho
  subst ho
  refine step_put (by rfl) _ _ _ rfl bm _ (HMW.out.kept HKB.out (fun h => HNE.out h.symm)) kk xs HID.out (.agg #[.slice (some ⟨gm, 0, none⟩) kk kk, .int .i64 ((now : Int) + 1)]) C HKV.out rfl rfl rfl HLW.out ?_
  intro w5 hm5 hk5
  have HM5 := Lib.hid hm5
  have HK5 := Lib.hid (HKS.out.trans hk5 (fun _ _ h => h))
  clear hm5 hk5
  refine hK.out _ _ HK5.out ?_
  clear hK K
  try simp only [Act.put, List.setIfInBounds_toArray, List.set_cons_zero, List.set_cons_succ]
  refine s_done (by as_aux_lemma => kernel_rfl) ?_
  go_wp2
  go_ret
  have hk55 : Kept (CK b bm) W w5 := (HKT2.out.mono (S' := CK b bm) (fun i _ h => .inl h)).trans HK5.out (fun i _ h => .inr h)
  refine ⟨rfl, ?_, HWK.out.trans hk55 (fun i _ h => h)⟩
  have hcn : ((now : Int) + 1) = ((({ s with es := r0 } : CS).now + 1 : Nat) : Int) := by rw [show ({ s with es := r0 } : CS).now = now from HNW.out]; omega
  have hm55 := HM5.out
  rw [← HEL.out, ← HEV.out, hcn] at hm55
  refine HCW.out.add hk55 e ?_ (fun o ho => (HK5.out.cell (p := ⟨b, o, none⟩) HLB.out HNE.out).trans (EO.out o ho)) (fun o => (frozen_kept HK5.out HLB.out HNE.out o).trans ((EF.out o).trans (HCW.out.fz o))) hm55 HGD.out ?_ ?_
  · exact ((HK5.out.cell (p := ⟨b, 2, none⟩) HLB.out HNE.out).trans E2.out).trans (by rw [hcn])
  · obtain ⟨U, m1, m2⟩ := HMT.out
    exact ⟨U, m1.kept HWK.out (fun i hi hs => m2 i hi (by rcases hs with rfl | rfl; exact HCA.out.fb; exact HCA.out.fm)), m2⟩
  · unfold addE
    rw [List.length_append, List.length_cons, List.length_nil]
    have hff := List.length_filter_le (fun x : CE => neK e.L x.p) ({ s with es := r0 } : CS).es
    have hrr : ({ s with es := r0 } : CS).room = room := HRM.out
    rw [hrr]
    have := HLR.out
    try dsimp only at hff ⊢
    omega

end Go.Proofs.YtlmpagicjgldkaaGreat
