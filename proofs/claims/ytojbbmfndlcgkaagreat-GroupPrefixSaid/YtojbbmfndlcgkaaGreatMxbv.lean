/-
  Walks of layer 17: Layers.
-/
import Derived.Test.YtojbbmfndlcgkaaGreatMxbu
import Derived.Test.YtojbbmfndlcgkaaGreatMxbs
namespace Go.Proofs.YtojbbmfndlcgkaaGreat
open Go.RowKit Go.Maps Go.Shelf Go.Sort

attribute [local go_sem] Oper.semAt_some
set_option linter.unusedVariables false
set_option linter.unusedSimpArgs false
set_option maxRecDepth 100000
set_option maxHeartbeats 2000000

section
variable {w : World} {base b bm : Nat} {H : HeadV} {vr : Value} {hs : List (Int × List B)} {V : Int → Value}
/-- The values may be slices for every number. -/
theorem GrpAt.total (h : GrpAt w base b bm H vr hs V) : ∃ V', GrpAt w base b bm H vr hs V' ∧ ∀ x, ∃ p n c, V' x = .slice p n c := by
  have e : ∀ k ∈ hs.map (·.1), (if k ∈ hs.map (·.1) then V k else Value.slice none 0 0) = V k := fun k hk => if_pos hk
  refine ⟨fun x => if x ∈ hs.map (·.1) then V x else .slice none 0 0, ⟨h.blk, h.ok, h.tab, ?_, h.rises, h.rng, h.wide, fun p hp => ?_, h.nb, h.nr, fun p hp => ?_, h.lo⟩, fun x => ?_⟩
  · have : esV (hs.map (·.1)) (fun x => if x ∈ hs.map (·.1) then V x else Value.slice none 0 0) = esV (hs.map (·.1)) V := List.map_congr_left (fun k hk => congrArg (Prod.mk k) (e k hk))
    rw [this]
    exact h.map
  · have := h.vals p hp
    rw [← e p.1 (List.mem_map.2 ⟨p, hp, rfl⟩)] at this
    exact this
  · have := h.nv p hp
    rw [← e p.1 (List.mem_map.2 ⟨p, hp, rfl⟩)] at this
    exact this
  · by_cases hx : x ∈ hs.map (·.1)
    · show ∃ p n c, (if x ∈ hs.map (·.1) then V x else Value.slice none 0 0) = Value.slice p n c
      rw [if_pos hx]
      obtain ⟨p, hp, rfl⟩ := List.mem_map.1 hx
      obtain ⟨q, c, e2⟩ := (h.vals p hp).shape
      exact ⟨_, _, _, e2⟩
    · show ∃ p n c, (if x ∈ hs.map (·.1) then V x else Value.slice none 0 0) = Value.slice p n c
      rw [if_neg hx]
      exact ⟨_, _, _, rfl⟩
theorem GrpAt.heldE (h : GrpAt w base b bm H vr hs V) : heldE H.n (atT H.rows H.rows.length) hs = 0 := by
  unfold Go.Proofs.YtojbbmfndlcgkaaGreat.heldE
  rw [if_pos, if_pos]
  · exact h.rises.nodup
  · rw [List.all_eq_true]
    intro p hp
    have := h.rng p hp
    have := h.wide p hp
    simp; omega

theorem glayers_any (h0 : GrpAt w base b bm H vr hs V) (hhs : hs.length ≤ 1000) :
    Calls Tryz.prog 15 #[.pointer (some ⟨b, 0, none⟩)] w fun e w' => ∃ v, e = .returned v ∧ RowsCut w' w.heap.size v (layersL H.rows hs (readyT H.rows (hs.length : Int))) ∧ Below w.heap.size w w' := by
  obtain ⟨V, h, hV⟩ := h0.total
  have HVS := Lib.hid hV
  clear h0 hV
  obtain ⟨i0, hi, hz0, hz1, hz2⟩ := info_parts infoHd17
  have HG := Lib.hid h
  have hlt := h.lt
  have hbm := h.map.lt
  have HA := Lib.hid (balI w (.cells #[.slice none 0 0] 61))
  have HGA := Lib.hid (h.below HA.out)
  have c0 := HGA.out.c0
  have hout := Boxed.new w 61 (.slice none 0 0)
  have HMD := Lib.hid (gmade_any h)
  obtain ⟨ks, hks⟩ : ∃ ks, hs.map (·.1) = ks := ⟨_, rfl⟩
  have HKS := Lib.hid hks
  have hkl : ks.length ≤ 1000 := by rw [← hks, List.length_map]; exact hhs
  have hkp : ks.Pairwise (· < ·) := by rw [← hks]; exact List.pairwise_map.2 h.rises
  have hmap := HGA.out.map
  rw [hks] at hmap
  clear h hks
  refine (callsIn_wide (n := 8)).1 ?_
  have h1 : 1 ≤ 8 := by omega
  have hf1 : Fence.wide.fn 22 := trivial
  have hf2 : Fence.wide.fn 27 := trivial
  refine callsIn_of_wp_marks Tryz.func15 rfl trivial ?_ rfl
  simp only [Tryz.ntmps15, List.size_toArray, List.length_cons, List.length_nil, Nat.reduceAdd, Nat.reduceSub, Array.replicate_succ, Array.replicate_zero, List.push_toArray, List.append_toArray, List.nil_append, List.cons_append]
  gi_wp2_with (first
    | (gi_at_call 22; refine (callsIn_wide.2 HMD.out).mono ?_; rintro e w' ⟨rfl, rfl⟩)
    | (gi_at_call 27; refine (grising_in _ _ _).mono ?_; rintro e w' ⟨rfl, rfl⟩))
  have hbx0 := Boxed.new (w.alloc (.cells #[.slice none 0 0] 61)) 54 (.map (some bm))
  rw [World.size_alloc] at hbx0
  have hB0 : Below w.heap.size w ((w.alloc (.cells #[.slice none 0 0] 61)).alloc (.cells #[.map (some bm)] 54)) := HA.out.alloc HA.out.size _
  have hob : w.heap.size < ((w.alloc (.cells #[.slice none 0 0] 61)).alloc (.cells #[.map (some bm)] 54)).heap.size := by simp; omega
  refine wpIn_rangeFunc_ownG rfl h1 (gf := 37) (lb := #[.pointer (some ⟨w.heap.size + 1, 0, none⟩)]) rfl trivial (enters_of Tryz.func37 (by kernel_rfl) rfl)
    (grising_stops (8 - 1) (by omega) (w.heap.size + 1) bm w.heap.size ks V hkp (by omega) (by omega) (by omega) _ hbx0 (hmap.below (balI _ _)) (hout.alloc _).cell) kb_t (kb_b hob) (Below.refl _ _) ?hps
    (fun pre W => (∃ v, Boxed W w.heap.size 61 v ∧ W.ownsRow w.heap.size 66 2 v pre.length (flatV V pre) ∧ (v = .slice none 0 0 ↔ pre = [])) ∧ Below w.heap.size w W)
    (fun _ _ _ => False)
    (OwnFrom.and (Own.from (holdsRow_own w.heap.size w.heap.size 61 66 2 (fun pre : List Int => pre.length) (fun pre => flatV V pre) (fun pre v => v = .slice none 0 0 ↔ pre = [])) _) (ownFrom_below (Nat.le_refl _) (by simp; omega)))
    (fun _ _ _ _ _ hs _ _ => hs)
    ⟨⟨_, hout.alloc _, World.ownsRow_nil _ _ _ _, by simp⟩, hB0⟩
    (fun x => { tmps := #[.pointer (some ⟨b, 0, none⟩), undef, .slice none 0 0, .pointer (some ⟨w.heap.size, 0, none⟩), .int .i64 x, V x, undef, undef, .pointer (some ⟨b, 0, none⟩), .bool true, .bool false, .pointer (some ⟨b, 0, none⟩), .pointer (some ⟨b, 0, none⟩), .pointer (some ⟨b, 0, none⟩), .map (some bm), .func (.func 37) #[] #[.pointer (some ⟨w.heap.size + 1, 0, none⟩)], .int .i64 x, V x, undef, undef, undef, undef, undef, undef, undef, undef, undef, undef, undef, undef, undef, undef, undef, undef, undef, undef, undef, undef, undef, undef], defers := [] }) ?assign ?body ?done ?stop
  case hps => exact fun _ => rfl
  case assign =>
    intro l x W K hK
    obtain ⟨pv, nv, cv, hv⟩ := HVS.out x
    simp only [encV, hv] at hK ⊢
    gi_wp2
    exact hK
  case body =>
    rintro l pre x W ⟨⟨v, hv, hrow, hnil⟩, hB⟩ hlt
    have hc := hv.cell
    obtain ⟨pv, nv, cv, hVx⟩ := HVS.out x
    have HVX := Lib.hid hVx
    simp only [hVx]
    gi_wp2_with (gi_at_builtin; refine wpListIn_append_own_at _ rfl _ _ 61 rfl w.heap.size 66 i0 (.agg #[.int .i64 0, .slice none 0 0]) 2 32 Tryz.underlying61 hi hz0 hz1 hz2 rfl (by decide) _ _ _ rfl (hrow.alloc _) ⟨W.heap.size, 0, none⟩ 1 1 [.int .i64 x, .slice pv nv cv] rfl rfl (cell_two_new _ _ _ _) (by simp [Value.oneCell']) (by unfold maxLen; omega) (by omega) (by have := hB.size; simp; omega) ?_; intro v' w1 hown' hgrow _ hplace; obtain ⟨g', cap', rfl⟩ := ownsRow_succ hown'; obtain ⟨hv1, hv2, hr2, hk2, hb2⟩ := hv.appended (by decide) hrow hB.size (Nat.le_refl _) hown' hgrow; have hc1 := hv1.cell; have hf1 := hv1.frozen)
    exact ⟨hk2.from _, kb_appended hv hv1 hgrow (fun g e => by
      rcases hplace with q | q
      · exact .inl (q.symm.trans e)
      · rw [q] at e
        cases e
        exact .inr (by simp)), ⟨_, hv2, by rw [flatV_snoc, HVX.out]; simpa using hr2, by simp⟩, hB.trans hb2⟩
  case done =>
    rintro D ys W hD rfl ⟨⟨v, hv, hrow, hnil⟩, hB⟩ hK
    have hc := hv.cell
    have hf := hv.frozen
    have HROW := Lib.hid hrow
    obtain ⟨pq, cq, hvs⟩ : ∃ p c, v = .slice p ys.length c := by
      rcases hrow.2 with ⟨e, hz⟩ | ⟨g, cap, cur, e, _⟩
      · exact ⟨none, 0, by rw [e, hz]⟩
      · exact ⟨_, cap, e⟩
    subst hvs
    have HGW := Lib.hid (HG.out.below hB)
    have HBW := Lib.hid hB
    have g4 := HGW.out.c4
    have g6 := HGW.out.c6
    have HL := Lib.hid (show hs.length = ys.length from by rw [← HKS.out, List.length_map])
    have HHF := Lib.hid (held_flat (hs := hs) (V := V) (v := .slice pq ys.length cq) (base := w.heap.size) (by rw [HL.out, HKS.out]; exact HROW.out) (fun p hp => (HGW.out.vals p hp).weaken (Nat.zero_le _)))
    obtain ⟨N, hN⟩ : ∃ N : Nat, H.n = (N : Int) := ⟨H.n.toNat, by have := HG.out.ok.1; omega⟩
    have HGA2 := Lib.hid (fun W' (hW : Below W.heap.size W W') => show Calls Tryz.prog 28 #[.int .i64 (N : Int), vr, .slice pq ys.length cq] W' fun e w' => ∃ v, e = .returned (.tuple #[v, .int .i64 0]) ∧ RowsCut w' W'.heap.size v (layersL H.rows hs (readyT H.rows (hs.length : Int))) ∧ Below W'.heap.size W' w' from by
      refine gather_ok W' N vr _ H.rows hs (HGW.out.tab.below hW) (HHF.out.1.below hW) (by omega) ?_ (by have := HG.out.ok; rwa [hN] at this) (by have := HG.out.heldE; rwa [hN] at this)
      intro g o c e i hi p n c' hcell
      obtain ⟨pz, cz, ez, _, hz⟩ := HHF.out.1
      obtain ⟨g2, o2, e2, hx⟩ := hz (by omega)
      obtain ⟨_, u2, hu, _⟩ := hx i hi
      have e3 := Value.slice.inj (ez.symm.trans e)
      have e4 : (some (⟨g2, o2, none⟩ : Addr)) = some ⟨g, o, none⟩ := e2.symm.trans e3.1
      simp only [Option.some.injEq, Addr.mk.injEq, and_true] at e4
      obtain ⟨rfl, rfl⟩ := e4
      refine HHF.out.2 g2 o2 c e i hi p n c' ?_
      rw [← hcell]
      exact ((hW.cell (p := ⟨g2, o2 + i * 2 + 1, none⟩) (blt hu))).symm)
    have hvr := HGW.out.tab.shape
    obtain ⟨pr, cr, hvr⟩ := hvr
    obtain ⟨M, hM⟩ : ∃ M, H.rows.length = M := ⟨_, rfl⟩
    rw [hM] at hvr
    obtain ⟨R, hR⟩ : ∃ R, layersL H.rows hs (readyT H.rows (hs.length : Int)) = R := ⟨_, rfl⟩
    rw [hN] at g4
    rw [hvr] at g6 HGA2
    rw [hR] at HGA2
    have HRR := Lib.hid hR
    clear hR
    have HDD := Lib.hid (show Below W.heap.size W W.drew from (Kept.refl (fun _ => False) W).drew.toBelow (Nat.le_refl _) (fun _ h => h.elim))
    clear hf hB hrow hnil hM hvr hN
    gi_wp2_with fail
    refine wpIn_wide.2 ?_
    refine s_start 17 (fun W' => Below W.heap.size W W') (by as_aux_lemma => kernel_rfl) (by as_aux_lemma => kernel_rfl) HDD.out ?_
    refine s_take 0 (by as_aux_lemma => kernel_rfl) (by as_aux_lemma => kernel_rfl) (by as_aux_lemma => kernel_rfl) (by as_aux_lemma => kernel_rfl) HDD.out (fun oi ho => ?_)
    simp only [List.getElem?_toArray, List.getElem?_cons_succ, List.getElem?_cons_zero, Option.some.injEq] at ho
    subst ho
    refine ⟨?_, Or.inl ⟨by rfl, fun w _ => ?_⟩, ?_⟩
    rotate_left
    · (go_simp <;> with_reducible rfl)
    try simp only [Act.put, List.setIfInBounds_toArray, List.set_cons_zero, List.set_cons_succ]
    refine s_take 1 (by as_aux_lemma => kernel_rfl) (by as_aux_lemma => kernel_rfl) (by as_aux_lemma => kernel_rfl) (by as_aux_lemma => kernel_rfl) HDD.out (fun oi ho => ?_)
    simp only [List.getElem?_toArray, List.getElem?_cons_succ, List.getElem?_cons_zero, Option.some.injEq] at ho
    subst ho
    refine ⟨?_, Or.inl ⟨by rfl, fun w _ => ?_⟩, ?_⟩
    rotate_left
    · (go_simp <;> with_reducible rfl)
    try simp only [Act.put, List.setIfInBounds_toArray, List.set_cons_zero, List.set_cons_succ]
    refine s_take 2 (by as_aux_lemma => kernel_rfl) (by as_aux_lemma => kernel_rfl) (by as_aux_lemma => kernel_rfl) (by as_aux_lemma => kernel_rfl) HDD.out (fun oi ho => ?_)
    simp only [List.getElem?_toArray, List.getElem?_cons_succ, List.getElem?_cons_zero, Option.some.injEq] at ho
    subst ho
    refine ⟨?_, Or.inl ⟨by rfl, fun w _ => ?_⟩, ?_⟩
    rotate_left
    · (go_simp <;> with_reducible rfl)
    try simp only [Act.put, List.setIfInBounds_toArray, List.set_cons_zero, List.set_cons_succ]
    refine s_take 3 (by as_aux_lemma => kernel_rfl) (by as_aux_lemma => kernel_rfl) (by as_aux_lemma => kernel_rfl) (by as_aux_lemma => kernel_rfl) HDD.out (fun oi ho => ?_)
    simp only [List.getElem?_toArray, List.getElem?_cons_succ, List.getElem?_cons_zero, Option.some.injEq] at ho
    subst ho
    refine ⟨?_, Or.inl ⟨by rfl, fun w _ => ?_⟩, ?_⟩
    rotate_left
    · (go_simp <;> with_reducible rfl)
    try simp only [Act.put, List.setIfInBounds_toArray, List.set_cons_zero, List.set_cons_succ]
    refine s_take 4 (by as_aux_lemma => kernel_rfl) (by as_aux_lemma => kernel_rfl) (by as_aux_lemma => kernel_rfl) (by as_aux_lemma => kernel_rfl) HDD.out (fun oi ho => ?_)
    simp only [List.getElem?_toArray, List.getElem?_cons_succ, List.getElem?_cons_zero, Option.some.injEq] at ho
    subst ho
    refine ⟨.int .i64 (N : Int), Or.inl ⟨by rfl, fun w' hS' => ?_⟩, ?_⟩
    · have z := (hS'.cell (p := ⟨b, 4, none⟩) (blt g4)).trans g4
      clear hc g4 g6
      (go_simp <;> with_reducible rfl)
    try simp only [Act.put, List.setIfInBounds_toArray, List.set_cons_zero, List.set_cons_succ]
    refine s_take 5 (by as_aux_lemma => kernel_rfl) (by as_aux_lemma => kernel_rfl) (by as_aux_lemma => kernel_rfl) (by as_aux_lemma => kernel_rfl) HDD.out (fun oi ho => ?_)
    simp only [List.getElem?_toArray, List.getElem?_cons_succ, List.getElem?_cons_zero, Option.some.injEq] at ho
    subst ho
    refine ⟨?_, Or.inl ⟨by rfl, fun w _ => ?_⟩, ?_⟩
    rotate_left
    · (go_simp <;> with_reducible rfl)
    try simp only [Act.put, List.setIfInBounds_toArray, List.set_cons_zero, List.set_cons_succ]
    refine s_take 6 (by as_aux_lemma => kernel_rfl) (by as_aux_lemma => kernel_rfl) (by as_aux_lemma => kernel_rfl) (by as_aux_lemma => kernel_rfl) HDD.out (fun oi ho => ?_)
    simp only [List.getElem?_toArray, List.getElem?_cons_succ, List.getElem?_cons_zero, Option.some.injEq] at ho
    subst ho
    refine ⟨?_, Or.inl ⟨by rfl, fun w _ => ?_⟩, ?_⟩
    rotate_left
    · (go_simp <;> with_reducible rfl)
    try simp only [Act.put, List.setIfInBounds_toArray, List.set_cons_zero, List.set_cons_succ]
    refine s_take 7 (by as_aux_lemma => kernel_rfl) (by as_aux_lemma => kernel_rfl) (by as_aux_lemma => kernel_rfl) (by as_aux_lemma => kernel_rfl) HDD.out (fun oi ho => ?_)
    simp only [List.getElem?_toArray, List.getElem?_cons_succ, List.getElem?_cons_zero, Option.some.injEq] at ho
    subst ho
    refine ⟨?_, Or.inl ⟨by rfl, fun w _ => ?_⟩, ?_⟩
    rotate_left
    · (go_simp <;> with_reducible rfl)
    try simp only [Act.put, List.setIfInBounds_toArray, List.set_cons_zero, List.set_cons_succ]
    refine s_take 8 (by as_aux_lemma => kernel_rfl) (by as_aux_lemma => kernel_rfl) (by as_aux_lemma => kernel_rfl) (by as_aux_lemma => kernel_rfl) HDD.out (fun oi ho => ?_)
    simp only [List.getElem?_toArray, List.getElem?_cons_succ, List.getElem?_cons_zero, Option.some.injEq] at ho
    subst ho
    refine ⟨?_, Or.inl ⟨by rfl, fun w _ => ?_⟩, ?_⟩
    rotate_left
    · (go_simp <;> with_reducible rfl)
    try simp only [Act.put, List.setIfInBounds_toArray, List.set_cons_zero, List.set_cons_succ]
    refine s_take 9 (by as_aux_lemma => kernel_rfl) (by as_aux_lemma => kernel_rfl) (by as_aux_lemma => kernel_rfl) (by as_aux_lemma => kernel_rfl) HDD.out (fun oi ho => ?_)
    simp only [List.getElem?_toArray, List.getElem?_cons_succ, List.getElem?_cons_zero, Option.some.injEq] at ho
    subst ho
    refine ⟨.slice pr M cr, Or.inl ⟨by rfl, fun w' hS' => ?_⟩, ?_⟩
    · have z := (hS'.cell (p := ⟨b, 6, none⟩) (blt g6)).trans g6
      clear hc g4 g6
      (go_simp <;> with_reducible rfl)
    try simp only [Act.put, List.setIfInBounds_toArray, List.set_cons_zero, List.set_cons_succ]
    refine s_take 10 (by as_aux_lemma => kernel_rfl) (by as_aux_lemma => kernel_rfl) (by as_aux_lemma => kernel_rfl) (by as_aux_lemma => kernel_rfl) HDD.out (fun oi ho => ?_)
    simp only [List.getElem?_toArray, List.getElem?_cons_succ, List.getElem?_cons_zero, Option.some.injEq] at ho
    subst ho
    refine ⟨.slice pq ys.length cq, Or.inl ⟨by rfl, fun w' hS' => ?_⟩, ?_⟩
    · have z := (hS'.cell (p := ⟨w.heap.size, 0, none⟩) (blt hc)).trans hc
      clear hc g4 g6
      (go_simp <;> with_reducible rfl)
    try simp only [Act.put, List.setIfInBounds_toArray, List.set_cons_zero, List.set_cons_succ]
    refine s_all (rs := [11]) (by as_aux_lemma => kernel_rfl) (by simp) ?_
    refine s_step 11 (by as_aux_lemma => kernel_rfl) (fun o ho K hK => ?_) AllReadyH.nil
    simp only [List.getElem?_toArray, List.getElem?_cons_succ, List.getElem?_cons_zero, Option.some.injEq] at ho
    subst ho
    go_simp
    refine (HGA2.out _ HDD.out).mono ?_
    rintro e w9 ⟨vz, rfl, hrz, hB9⟩
    have HRZ := Lib.hid hrz
    have HB9 := Lib.hid (below_more HDD.out hB9 HDD.out.size)
    clear hrz hB9
    go_wp2_with fail
    refine hK.out _ _ HB9.out ?_
    clear hK K
    try simp only [Act.put, List.setIfInBounds_toArray, List.set_cons_zero, List.set_cons_succ]
    refine s_take 12 (by as_aux_lemma => kernel_rfl) (by as_aux_lemma => kernel_rfl) (by as_aux_lemma => kernel_rfl) (by as_aux_lemma => kernel_rfl) HB9.out (fun oi ho => ?_)
    simp only [List.getElem?_toArray, List.getElem?_cons_succ, List.getElem?_cons_zero, Option.some.injEq] at ho
    subst ho
    refine ⟨?_, Or.inl ⟨by rfl, fun w _ => ?_⟩, ?_⟩
    rotate_left
    · (go_simp <;> with_reducible rfl)
    try simp only [Act.put, List.setIfInBounds_toArray, List.set_cons_zero, List.set_cons_succ]
    refine s_take 13 (by as_aux_lemma => kernel_rfl) (by as_aux_lemma => kernel_rfl) (by as_aux_lemma => kernel_rfl) (by as_aux_lemma => kernel_rfl) HB9.out (fun oi ho => ?_)
    simp only [List.getElem?_toArray, List.getElem?_cons_succ, List.getElem?_cons_zero, Option.some.injEq] at ho
    subst ho
    refine ⟨?_, Or.inl ⟨by rfl, fun w _ => ?_⟩, ?_⟩
    rotate_left
    · (go_simp <;> with_reducible rfl)
    try simp only [Act.put, List.setIfInBounds_toArray, List.set_cons_zero, List.set_cons_succ]
    refine s_take 14 (by as_aux_lemma => kernel_rfl) (by as_aux_lemma => kernel_rfl) (by as_aux_lemma => kernel_rfl) (by as_aux_lemma => kernel_rfl) HB9.out (fun oi ho => ?_)
    simp only [List.getElem?_toArray, List.getElem?_cons_succ, List.getElem?_cons_zero, Option.some.injEq] at ho
    subst ho
    refine ⟨?_, Or.inl ⟨by rfl, fun w _ => ?_⟩, ?_⟩
    rotate_left
    · (go_simp <;> with_reducible rfl)
    try simp only [Act.put, List.setIfInBounds_toArray, List.set_cons_zero, List.set_cons_succ]
    refine s_take 15 (by as_aux_lemma => kernel_rfl) (by as_aux_lemma => kernel_rfl) (by as_aux_lemma => kernel_rfl) (by as_aux_lemma => kernel_rfl) HB9.out (fun oi ho => ?_)
    simp only [List.getElem?_toArray, List.getElem?_cons_succ, List.getElem?_cons_zero, Option.some.injEq] at ho
    subst ho
    refine ⟨?_, Or.inl ⟨by rfl, fun w _ => ?_⟩, ?_⟩
    rotate_left
    · (go_simp <;> with_reducible rfl)
    try simp only [Act.put, List.setIfInBounds_toArray, List.set_cons_zero, List.set_cons_succ]
    refine s_take 16 (by as_aux_lemma => kernel_rfl) (by as_aux_lemma => kernel_rfl) (by as_aux_lemma => kernel_rfl) (by as_aux_lemma => kernel_rfl) HB9.out (fun oi ho => ?_)
    simp only [List.getElem?_toArray, List.getElem?_cons_succ, List.getElem?_cons_zero, Option.some.injEq] at ho
    subst ho
    refine ⟨?_, Or.inl ⟨by rfl, fun w _ => ?_⟩, ?_⟩
    rotate_left
    · (go_simp <;> with_reducible rfl)
    try simp only [Act.put, List.setIfInBounds_toArray, List.set_cons_zero, List.set_cons_succ]
    refine s_done (by as_aux_lemma => kernel_rfl) ?_
    skip
    have hDl : D < W.heap.size := (Array.getElem?_eq_some_iff.1 hK).1
    have hK9 : w9.heap[D]? = some (.deferred (some [])) := (HB9.out.block D hDl).trans hK
    have hgb := grownBy_putObj' w9 D (.deferred none)
    have HKP := Lib.hid (show Kept (fun k => k = D) w9 (w9.putObj D (.deferred none)) from ⟨hgb.os, hgb.tape, hgb.output, hgb.size, fun k hk hn => hgb.block k hk (fun e => hn (by cases e; rfl))⟩)
    have HFR := Lib.hid (show RowsCut (w9.putObj D (.deferred none)) w.heap.size vz R from (HRZ.out.kept HKP.out (fun k hk h2 e => by
      have h3 : W.heap.size ≤ k := h2
      omega)).weaken (by have h4 := HBW.out.size; exact h4))
    have HFB := Lib.hid (show Below w.heap.size w (w9.putObj D (.deferred none)) from (HBW.out.trans (HB9.out.mono HBW.out.size)).trans (HKP.out.toBelow (Nat.le_trans HBW.out.size HB9.out.size) (fun k e => by omega)))
    gi_wp2
    refine ⟨by simp, .inl ⟨_, _, rfl, run_takeDeferred hK9, ?_⟩⟩
    exact ⟨_, results_tmp rfl _ _ _, vz, rfl, by rw [HRR.out]; exact HFR.out, HFB.out⟩
  case stop =>
    rintro D c pre W _ _ h _
    exact h.elim
end
end Go.Proofs.YtojbbmfndlcgkaaGreat
