/-
  Walks of layer 17: the header of layers.
-/
import Derived.Test.YtojbbmfndlcgkaaGreatMxby
import Derived.Test.YtojbbmfndlcgkaaGreatMxbe
import Derived.Test.YtojbbmfndlcgkaaGreatMxbs
namespace Go.Proofs.YtojbbmfndlcgkaaGreat
open Go.RowKit Go.Maps
set_option linter.unusedVariables false
set_option linter.unusedSimpArgs false
set_option maxRecDepth 100000
set_option maxHeartbeats 4000000

/-- Append of one element within a drawn region. -/
theorem step_appN {ops : Array Oper} {o : Oper} {a : Act} {W : World} {K : Act → World → Prop} {Q : Exit → Act → World → Prop} {E : Prop} (t e : TypeId) (size bytes : Nat) (z : Value) (ht : Tryz.prog.underlying t = some (.slice e))
    (hinfo : (Tryz.prog.info? e).map (fun i => (i.zero, i.size, i.bytes)) = some (some z, size, bytes)) (hzs : z.cells.size = size) (hby : bytes ≤ 64)
    (hw : Region.wanted o (yielded ops a.tmps) = true) (s x : Operand) (ho : o.op = .call { callee := .builtin .append, args := #[s, x], argTypes := #[t, t] })
    (base n : Nat) (v : Value) (us : List Value) (hs : a.eval s = v) (hown : W.ownsRow base e size v n us) (g : Nat) (news : List Value) (hl : news.length = size) (h1 : ∀ u ∈ news, u.oneCell' = true)
    (hx : a.eval x = .slice (some ⟨g, 0, none⟩) 1 1) (hc : ∀ j u, news[j]? = some u → W.cell? ⟨g, j, none⟩ = some u) (hn : n < 1000000000000) (hbase : base ≤ W.heap.size)
    (h : ∀ g' c' w', w'.ownsRow base e size (.slice (some ⟨g', 0, none⟩) (n + 1) c') (n + 1) (us ++ news) → Kept (fun k => v.ownBlock = some k) W w' → (v.ownBlock = some g' ∨ W.heap.size ≤ g') →
      K (a.put o.dst (.slice (some ⟨g', 0, none⟩) (n + 1) c')) w') :
    if Region.wanted o (yielded ops a.tmps) = true then Oper.wp Tryz.prog o a W K Q else E := by
  rw [if_pos hw]
  obtain ⟨i, hi, hz, hsize, hbytes⟩ := info_parts hinfo
  rw [← hsize] at hown
  obtain ⟨g', c', w', hr, h3, h4, h5⟩ := run_app (P := Tryz.prog) (w := W) base t o.type e i z ht hi hz (by rw [hzs, hsize]) v n us hown g 0 1 1 news (by rw [hl, hsize]; omega) (by omega) (fun j y hj => by
      rw [add_off, Nat.zero_add]
      exact hc j y hj) h1 (by omega) (by rw [hbytes]; have := Nat.mul_le_mul_left (n + 1) hby; omega) hbase
  rw [hsize] at h3
  have h6 := h g' c' w' h3 h4 h5
  unfold Oper.wp execOp
  simp only [ho, resolve, invoke, builtin, Sem.run_bind, Sem.run_pure, Result.andThen_ok, List.map_toArray, List.map_cons, List.map_nil, hs, hx, hr]
  exact h6

theorem lit_twoI (w : World) (a b : Int) (t : TypeId) : ∀ (j : Nat) (u : Value), [Value.int .i64 a, .int .i64 b][j]? = some u → (w.alloc (.cells #[.int .i64 a, .int .i64 b] t)).cell? ⟨w.heap.size, j, none⟩ = some u := fun j u h => by
  refine (World.cell?_alloc_new w _ _ j).trans ?_
  rw [← h]
  simp

theorem header_any (w : World) (n : Int) (vl vk : Value) (ls : List (List B)) (ks : List Int) (hl : RowsAt w vl ls) (hk : IntsAt w vk ks) (hkl : ks.length ≤ 1000) :
    Calls Tryz.prog 7 #[.int .i64 n, vl, vk] w fun e w' => ∃ v, e = .returned (headVal ⟨7, 1, 0, n, 5, tabL ls (ks.take ls.length)⟩ v) ∧ TableAt w' v (tabL ls (ks.take ls.length)) ∧ Below w.heap.size w w' := by
  have HL := Lib.hid hl
  have HK := Lib.hid hk
  obtain ⟨pl, cl, rfl, hlh⟩ := hl
  obtain ⟨pk, ck, rfl, hkc, hkh⟩ := hk
  have HLH := Lib.hid hlh
  have HKH := Lib.hid hkh
  obtain ⟨K, hK⟩ : ∃ K, ks.length = K := ⟨_, rfl⟩
  obtain ⟨R, hR⟩ : ∃ R, ls.length = R := ⟨_, rfl⟩
  obtain ⟨M, hM⟩ : ∃ M, min R K = M := ⟨_, rfl⟩
  obtain ⟨kt, hkt⟩ : ∃ y, ks.take R = y := ⟨_, rfl⟩
  have hktl : kt.length = M := by rw [← hkt, List.length_take, hK, hM]
  have HTL := Lib.hid (show (tabL ls kt).length = M by rw [tabL_len, hktl])
  have HTS := Lib.hid (show ∀ (j : Nat), j < M → (tabL ls kt).take (j + 1) = (tabL ls kt).take j ++ [(ks.getD j 0, ((ls.getD j []).length : Int))] from fun j h => by
    have h2 := tabL_snoc (ls := ls) (ks := kt) (j := j) (by rw [hktl]; exact h)
    rwa [show kt.getD j 0 = ks.getD j 0 from by rw [← hkt, List.getD_eq_getElem?_getD, List.getD_eq_getElem?_getD, List.getElem?_take, if_pos (by omega)]] at h2)
  rw [hR] at HLH ⊢
  rw [hkt]
  rw [hK] at HKH hkl hkc ⊢
  have hmr : M ≤ R := by omega
  have hmk : M ≤ K := by omega
  have HMM := Lib.hid (show ∀ j, ¬ j < M → ¬ j < R ∨ (j < R ∧ ¬ j < K) from fun j hj => by omega)
  clear hlh hkh hR hkt hktl hK hM
  go_enter Tryz.func7, Tryz.ntmps7
  have HB1 := Lib.hid (balI w (.cells #[.int .i64 0, .int .i64 0, .int .i64 0, .int .i64 0, .int .i64 0, .slice none 0 0] 31))
  have HB2 := Lib.hid (below_more HB1.out (balI (w.alloc (.cells #[.int .i64 0, .int .i64 0, .int .i64 0, .int .i64 0, .int .i64 0, .slice none 0 0] 31)) (.cells #[.int .i64 7, .int .i64 1, .int .i64 0, .int .i64 n, .int .i64 5, .slice none 0 0] 31)) HB1.out.size)
  have HX1 := Lib.hid ((HeadBox.new w ⟨0, 0, 0, 0, 0, []⟩ (.slice none 0 0)).below (balI _ (.cells #[.int .i64 7, .int .i64 1, .int .i64 0, .int .i64 n, .int .i64 5, .slice none 0 0] 31)))
  have HX2 := Lib.hid (HeadBox.new (w.alloc (.cells #[.int .i64 0, .int .i64 0, .int .i64 0, .int .i64 0, .int .i64 0, .slice none 0 0] 31)) ⟨7, 1, 0, n, 5, []⟩ (.slice none 0 0))
  rw [World.size_alloc] at HX2
  dsimp only at HX1 HX2
  have HS2 := Lib.hid (show ((w.alloc (.cells #[.int .i64 0, .int .i64 0, .int .i64 0, .int .i64 0, .int .i64 0, .slice none 0 0] 31)).alloc (.cells #[.int .i64 7, .int .i64 1, .int .i64 0, .int .i64 n, .int .i64 5, .slice none 0 0] 31)).heap.size = w.heap.size + 2 from by simp)
  go_wp2
  generalize (w.alloc (.cells #[.int .i64 0, .int .i64 0, .int .i64 0, .int .i64 0, .int .i64 0, .slice none 0 0] 31)).alloc (.cells #[.int .i64 7, .int .i64 1, .int .i64 0, .int .i64 n, .int .i64 5, .slice none 0 0] 31) = w2 at *
  go_loopw [8] (fun i wr => ∃ (j : Nat) (v : Value), j ≤ M ∧ i = .int .i64 (j : Int) ∧ HeadBox wr (w.heap.size + 1) ⟨7, 1, 0, n, 5, []⟩ v ∧ HeadBox wr w.heap.size ⟨0, 0, 0, 0, 0, []⟩ (.slice none 0 0) ∧ wr.ownsRow (w.heap.size + 2) 46 2 v j (tc ((tabL ls kt).take j)) ∧ Below w.heap.size w wr ∧ w.heap.size + 2 ≤ wr.heap.size) (fun i _ => M - (intOf i).toNat)
  case atStart => exact ⟨0, _, Nat.zero_le _, rfl, HX2.out, HX1.out, by rw [List.take_zero]; exact World.ownsRow_nil _ _ _ _, HB2.out, Nat.le_of_eq HS2.out.symm⟩
  case round =>
    obtain ⟨w3, rfl⟩ : ∃ x, x = wr := ⟨_, rfl⟩
    obtain ⟨j, v, hj, rfl, hb1, hb2, ho, hB, hs3⟩ := hrel
    obtain ⟨pv, cv, rfl⟩ : ∃ p c, v = .slice p j c := by
      rcases ho.2 with ⟨e, hz⟩ | ⟨g, cap, cur, e, _⟩
      · exact ⟨none, 0, by rw [e, hz]⟩
      · exact ⟨_, cap, e⟩
    have HBX := Lib.hid hb1
    have HBR := Lib.hid hb2
    have HO := Lib.hid ho
    have HB := Lib.hid hB
    clear hb2 ho hB
    by_cases hlt : j < M
    · have hjr : j < R := by omega
      have hjk : j < K := by omega
      obtain ⟨gl, ol, rfl, hlc⟩ := HLH.out (by omega)
      obtain ⟨gk, ok, rfl, hkc2⟩ := HKH.out (by omega)
      have f0 := hkc2 j hjk
      obtain ⟨u, f1, hub⟩ := hlc j hjr
      obtain ⟨pu, cu, rfl⟩ := hub.shape
      have hsn := HTS.out j hlt
      obtain ⟨kk, hkk⟩ : ∃ x, ks.getD j 0 = x := ⟨_, rfl⟩
      obtain ⟨ll, hll⟩ : ∃ x, (ls.getD j []).length = x := ⟨_, rfl⟩
      rw [hkk] at f0 hsn
      rw [hll] at f1 hsn
      have HSN := Lib.hid (show tc ((tabL ls kt).take j) ++ [.int .i64 kk, .int .i64 (ll : Int)] = tc ((tabL ls kt).take (j + 1)) by rw [hsn, tc_app]; rfl)
      have f5 := hb1.c5
      have d0 := (HB.out.cell (p := ⟨gk, ok + j, none⟩) (blt f0)).trans f0
      have d1 := (HB.out.cell (p := ⟨gl, ol + j, none⟩) (blt f1)).trans f1
      clear hb1 hub hkk hll hsn hlc hkc2
      have HSD := Lib.hid (show Below w.heap.size w w3.drew ∧ w3.drew.cell? ⟨w.heap.size + 1, 5, none⟩ = some (.slice pv j cv) from ⟨below_more HB.out ((Kept.refl (fun _ => False) w3).drew.toBelow (Nat.le_refl _) (fun _ h => h.elim)) HB.out.size, f5⟩)
      have hown : ∀ k, (Value.slice pv j cv).ownBlock = some k → w.heap.size + 2 ≤ k := fun k e => (HO.out.lt k e).1
      have HOWN := Lib.hid hown
      clear f5 hown
      go_wp2_with fail
      refine z_start 16 (fun W => Below w.heap.size w W ∧ W.cell? ⟨w.heap.size + 1, 5, none⟩ = some (.slice pv j cv)) 15 (by as_aux_lemma => kernel_rfl) (by as_aux_lemma => kernel_rfl) ?_
      refine z_take 0 (by as_aux_lemma => kernel_rfl) (by as_aux_lemma => kernel_rfl) (by as_aux_lemma => kernel_rfl) (by as_aux_lemma => kernel_rfl) (by as_aux_lemma => kernel_rfl) HSD.out (fun oi ho => ?_)
      simp only [List.getElem?_toArray, List.getElem?_cons_succ, List.getElem?_cons_zero, Option.some.injEq] at ho
      subst ho
      refine ⟨?_, Or.inl ⟨by rfl, fun w _ => ?_⟩, ?_⟩
      rotate_left
      · (go_simp <;> with_reducible rfl)
      try simp only [Act.put, List.setIfInBounds_toArray, List.set_cons_zero, List.set_cons_succ]
      refine z_take 1 (by as_aux_lemma => kernel_rfl) (by as_aux_lemma => kernel_rfl) (by as_aux_lemma => kernel_rfl) (by as_aux_lemma => kernel_rfl) (by as_aux_lemma => kernel_rfl) HSD.out (fun oi ho => ?_)
      simp only [List.getElem?_toArray, List.getElem?_cons_succ, List.getElem?_cons_zero, Option.some.injEq] at ho
      subst ho
      refine ⟨.slice pv j cv, Or.inl ⟨by rfl, fun w' hS' => ?_⟩, ?_⟩
      · have z := hS'.2
        clear d0 d1 f0 f1
        (go_simp <;> with_reducible rfl)
      try simp only [Act.put, List.setIfInBounds_toArray, List.set_cons_zero, List.set_cons_succ]
      refine z_take 2 (by as_aux_lemma => kernel_rfl) (by as_aux_lemma => kernel_rfl) (by as_aux_lemma => kernel_rfl) (by as_aux_lemma => kernel_rfl) (by as_aux_lemma => kernel_rfl) HSD.out (fun oi ho => ?_)
      simp only [List.getElem?_toArray, List.getElem?_cons_succ, List.getElem?_cons_zero, Option.some.injEq] at ho
      subst ho
      refine ⟨?_, Or.inl ⟨by rfl, fun w _ => ?_⟩, ?_⟩
      rotate_left
      · (go_simp <;> with_reducible rfl)
      try simp only [Act.put, List.setIfInBounds_toArray, List.set_cons_zero, List.set_cons_succ]
      refine z_take 3 (by as_aux_lemma => kernel_rfl) (by as_aux_lemma => kernel_rfl) (by as_aux_lemma => kernel_rfl) (by as_aux_lemma => kernel_rfl) (by as_aux_lemma => kernel_rfl) HSD.out (fun oi ho => ?_)
      simp only [List.getElem?_toArray, List.getElem?_cons_succ, List.getElem?_cons_zero, Option.some.injEq] at ho
      subst ho
      refine ⟨?_, Or.inl ⟨by rfl, fun w _ => ?_⟩, ?_⟩
      rotate_left
      · (go_simp <;> with_reducible rfl)
      try simp only [Act.put, List.setIfInBounds_toArray, List.set_cons_zero, List.set_cons_succ]
      refine z_take 4 (by as_aux_lemma => kernel_rfl) (by as_aux_lemma => kernel_rfl) (by as_aux_lemma => kernel_rfl) (by as_aux_lemma => kernel_rfl) (by as_aux_lemma => kernel_rfl) HSD.out (fun oi ho => ?_)
      simp only [List.getElem?_toArray, List.getElem?_cons_succ, List.getElem?_cons_zero, Option.some.injEq] at ho
      subst ho
      refine ⟨?_, Or.inl ⟨by rfl, fun w _ => ?_⟩, ?_⟩
      rotate_left
      · (go_simp <;> with_reducible rfl)
      try simp only [Act.put, List.setIfInBounds_toArray, List.set_cons_zero, List.set_cons_succ]
      refine z_take 5 (by as_aux_lemma => kernel_rfl) (by as_aux_lemma => kernel_rfl) (by as_aux_lemma => kernel_rfl) (by as_aux_lemma => kernel_rfl) (by as_aux_lemma => kernel_rfl) HSD.out (fun oi ho => ?_)
      simp only [List.getElem?_toArray, List.getElem?_cons_succ, List.getElem?_cons_zero, Option.some.injEq] at ho
      subst ho
      refine ⟨.int .i64 kk, Or.inl ⟨by rfl, fun w' hS' => ?_⟩, ?_⟩
      · have z := (hS'.1.cell (p := ⟨gk, ok + j, none⟩) (blt f0)).trans f0
        clear d0 d1 f0 f1
        (go_simp <;> with_reducible rfl)
      try simp only [Act.put, List.setIfInBounds_toArray, List.set_cons_zero, List.set_cons_succ]
      refine z_take 6 (by as_aux_lemma => kernel_rfl) (by as_aux_lemma => kernel_rfl) (by as_aux_lemma => kernel_rfl) (by as_aux_lemma => kernel_rfl) (by as_aux_lemma => kernel_rfl) HSD.out (fun oi ho => ?_)
      simp only [List.getElem?_toArray, List.getElem?_cons_succ, List.getElem?_cons_zero, Option.some.injEq] at ho
      subst ho
      refine ⟨?_, Or.inl ⟨by rfl, fun w _ => ?_⟩, ?_⟩
      rotate_left
      · (go_simp <;> with_reducible rfl)
      try simp only [Act.put, List.setIfInBounds_toArray, List.set_cons_zero, List.set_cons_succ]
      refine z_take 7 (by as_aux_lemma => kernel_rfl) (by as_aux_lemma => kernel_rfl) (by as_aux_lemma => kernel_rfl) (by as_aux_lemma => kernel_rfl) (by as_aux_lemma => kernel_rfl) HSD.out (fun oi ho => ?_)
      simp only [List.getElem?_toArray, List.getElem?_cons_succ, List.getElem?_cons_zero, Option.some.injEq] at ho
      subst ho
      refine ⟨?_, Or.inl ⟨by rfl, fun w _ => ?_⟩, ?_⟩
      rotate_left
      · (go_simp <;> with_reducible rfl)
      try simp only [Act.put, List.setIfInBounds_toArray, List.set_cons_zero, List.set_cons_succ]
      refine z_take 8 (by as_aux_lemma => kernel_rfl) (by as_aux_lemma => kernel_rfl) (by as_aux_lemma => kernel_rfl) (by as_aux_lemma => kernel_rfl) (by as_aux_lemma => kernel_rfl) HSD.out (fun oi ho => ?_)
      simp only [List.getElem?_toArray, List.getElem?_cons_succ, List.getElem?_cons_zero, Option.some.injEq] at ho
      subst ho
      refine ⟨?_, Or.inl ⟨by rfl, fun w _ => ?_⟩, ?_⟩
      rotate_left
      · (go_simp <;> with_reducible rfl)
      try simp only [Act.put, List.setIfInBounds_toArray, List.set_cons_zero, List.set_cons_succ]
      refine z_take 9 (by as_aux_lemma => kernel_rfl) (by as_aux_lemma => kernel_rfl) (by as_aux_lemma => kernel_rfl) (by as_aux_lemma => kernel_rfl) (by as_aux_lemma => kernel_rfl) HSD.out (fun oi ho => ?_)
      simp only [List.getElem?_toArray, List.getElem?_cons_succ, List.getElem?_cons_zero, Option.some.injEq] at ho
      subst ho
      refine ⟨.slice pu ll cu, Or.inl ⟨by rfl, fun w' hS' => ?_⟩, ?_⟩
      · have z := (hS'.1.cell (p := ⟨gl, ol + j, none⟩) (blt f1)).trans f1
        clear d0 d1 f0 f1
        (go_simp <;> with_reducible rfl)
      try simp only [Act.put, List.setIfInBounds_toArray, List.set_cons_zero, List.set_cons_succ]
      refine z_take 10 (by as_aux_lemma => kernel_rfl) (by as_aux_lemma => kernel_rfl) (by as_aux_lemma => kernel_rfl) (by as_aux_lemma => kernel_rfl) (by as_aux_lemma => kernel_rfl) HSD.out (fun oi ho => ?_)
      simp only [List.getElem?_toArray, List.getElem?_cons_succ, List.getElem?_cons_zero, Option.some.injEq] at ho
      subst ho
      refine ⟨?_, Or.inl ⟨by rfl, fun w _ => ?_⟩, ?_⟩
      rotate_left
      · (go_simp <;> with_reducible rfl)
      try simp only [Act.put, List.setIfInBounds_toArray, List.set_cons_zero, List.set_cons_succ]
      refine z_take 11 (by as_aux_lemma => kernel_rfl) (by as_aux_lemma => kernel_rfl) (by as_aux_lemma => kernel_rfl) (by as_aux_lemma => kernel_rfl) (by as_aux_lemma => kernel_rfl) HSD.out (fun oi ho => ?_)
      simp only [List.getElem?_toArray, List.getElem?_cons_succ, List.getElem?_cons_zero, Option.some.injEq] at ho
      subst ho
      refine ⟨?_, Or.inl ⟨by rfl, fun w _ => ?_⟩, ?_⟩
      rotate_left
      · (go_simp <;> with_reducible rfl)
      try simp only [Act.put, List.setIfInBounds_toArray, List.set_cons_zero, List.set_cons_succ]
      refine z_all (rs := [12]) (by as_aux_lemma => kernel_rfl) (by simp) ?_
      refine z_step 12 (by as_aux_lemma => kernel_rfl) (fun o ho K hK => ?_) AllReadyE.nil
      simp only [List.getElem?_toArray, List.getElem?_cons_succ, List.getElem?_cons_zero, Option.some.injEq] at ho
      subst ho
      go_simp
      refine K_name ?_
      intro w12 e12
      have HB12 := Lib.hid (show Below w3.heap.size w3 w12 from by
        rw [e12]
        first
          | exact below_more (balI w3 _) ((Kept.refl (fun _ => False) _).drew.toBelow (Nat.le_refl _) (fun _ h => h.elim)) (balI w3 _).size
          | exact below_more ((Kept.refl (fun _ => False) w3).drew.toBelow (Nat.le_refl _) (fun _ h => h.elim)) (balI w3.drew _) (Nat.le_refl _))
      have HC12 := Lib.hid (show ∀ (i : Nat) (u : Value), [Value.int .i64 kk, .int .i64 (ll : Int)][i]? = some u → w12.cell? ⟨w3.heap.size, i, none⟩ = some u from by
        rw [e12]
        first
          | exact lit_twoI w3 _ _ _
          | exact lit_twoI w3.drew _ _ _)
      have hgx : w.heap.size + 1 < w3.heap.size := by omega
      have HS12 := Lib.hid (show Below w.heap.size w w12 ∧ w12.cell? ⟨w.heap.size + 1, 5, none⟩ = some (.slice pv j cv) from ⟨below_more HB.out HB12.out HB.out.size, (HB12.out.cell (p := ⟨w.heap.size + 1, 5, none⟩) hgx).trans HBX.out.c5⟩)
      clear e12
      refine hK.out _ _ HS12.out ?_
      clear hK K
      try simp only [Act.put, List.setIfInBounds_toArray, List.set_cons_zero, List.set_cons_succ]
      refine z_all (rs := [13]) (by as_aux_lemma => kernel_rfl) (by simp) ?_
      refine z_step 13 (by as_aux_lemma => kernel_rfl) (fun o ho K hK => ?_) AllReadyE.nil
      simp only [List.getElem?_toArray, List.getElem?_cons_succ, List.getElem?_cons_zero, Option.some.injEq] at ho
      subst ho
      refine step_appN 29 46 2 16 _ Tryz.underlying29 infoT17 rfl (by decide) (by rfl) _ _ rfl (w.heap.size + 2) j (.slice pv j cv) _ rfl (ownsRow_keptS HO.out (Kept.below HB12.out) (fun _ _ h => h)) w3.heap.size [.int .i64 kk, .int .i64 (ll : Int)] rfl (by simp [Value.oneCell']) rfl HC12.out (by omega) (by have := HB12.out.size; omega) ?_
      intro g13 c13 w13 hR13 hk13 hg13
      have HR13 := Lib.hid hR13
      have HK13 := Lib.hid hk13
      have HX13 := Lib.hid (show HeadBox w13 (w.heap.size + 1) ⟨7, 1, 0, n, 5, []⟩ (.slice pv j cv) from (hk13.block (w.heap.size + 1) (Nat.lt_of_lt_of_le hgx HB12.out.size) (fun e => by have := HOWN.out _ e; omega)).trans (HBX.out.below HB12.out))
      have HX13r := Lib.hid (show HeadBox w13 w.heap.size ⟨0, 0, 0, 0, 0, []⟩ (.slice none 0 0) from (hk13.block w.heap.size (by have := HB12.out.size; omega) (fun e => by have := HOWN.out _ e; omega)).trans (HBR.out.below HB12.out))
      have HS13 := Lib.hid (show Below w.heap.size w w13 ∧ w13.cell? ⟨w.heap.size + 1, 5, none⟩ = some (.slice pv j cv) from ⟨HS12.out.1.trans (hk13.toBelow HS12.out.1.size (fun k e => by have := HOWN.out k e; omega)), HX13.out.c5⟩)
      have HZ13 := Lib.hid (show w.heap.size + 2 ≤ w13.heap.size from by have := HB12.out.size; have := hk13.size; omega)
      have k5 := HX13.out.c5
      have kf : w13.frozen? ⟨w.heap.size + 1, 5, none⟩ = false := fz_of HX13.out 5
      clear hR13 hk13 hg13
      refine hK.out _ _ HS13.out ?_
      clear hK K
      try simp only [Act.put, List.setIfInBounds_toArray, List.set_cons_zero, List.set_cons_succ]
      refine z_take 14 (by as_aux_lemma => kernel_rfl) (by as_aux_lemma => kernel_rfl) (by as_aux_lemma => kernel_rfl) (by as_aux_lemma => kernel_rfl) (by as_aux_lemma => kernel_rfl) HS13.out (fun oi ho => ?_)
      simp only [List.getElem?_toArray, List.getElem?_cons_succ, List.getElem?_cons_zero, Option.some.injEq] at ho
      subst ho
      refine ⟨?_, Or.inl ⟨by rfl, fun w _ => ?_⟩, ?_⟩
      rotate_left
      · (go_simp <;> with_reducible rfl)
      try simp only [Act.put, List.setIfInBounds_toArray, List.set_cons_zero, List.set_cons_succ]
      refine z_all (rs := [15]) (by as_aux_lemma => kernel_rfl) (by simp) (z_last (by as_aux_lemma => kernel_rfl) (fun o ho K hK => ?_))
      simp only [List.getElem?_toArray, List.getElem?_cons_succ, List.getElem?_cons_zero, Option.some.injEq] at ho
      subst ho
      go_simp
      refine hK.out _ _ ?_
      clear hK K
      try simp only [Act.put, List.setIfInBounds_toArray, List.set_cons_zero, List.set_cons_succ]
      refine z_done (by as_aux_lemma => kernel_rfl) ?_
      skip
      have HX14 := Lib.hid (show HeadBox (w13.setCell ⟨w.heap.size + 1, 5, none⟩ (.slice (some ⟨g13, 0, none⟩) (j + 1) c13)) (w.heap.size + 1) ⟨7, 1, 0, n, 5, []⟩ (.slice (some ⟨g13, 0, none⟩) (j + 1) c13) from heap_set (i := 5) HX13.out _)
      have HKS := Lib.hid (show Kept (fun k => k = w.heap.size + 1) w13 (w13.setCell ⟨w.heap.size + 1, 5, none⟩ (.slice (some ⟨g13, 0, none⟩) (j + 1) c13)) from Kept.set1 _ _ _ _)
      have hg13 : w.heap.size + 2 ≤ g13 := (HR13.out.lt g13 rfl).1
      go_wp2
      go_roundw
      case rel => exact ⟨j + 1, _, by omega, by go_num, HX14.out, (HKS.out.block w.heap.size (by have := HZ13.out; omega) (by omega)).trans HX13r.out, by rw [← HSN.out]; exact ownsRow_keptS HR13.out HKS.out (fun k e => by have : g13 = k := own_is e; omega), HS13.out.1.trans (HKS.out.toBelow HS13.out.1.size (fun k e => by omega)), by have := HZ13.out; have := HKS.out.size; omega⟩
      case measure => simp [intOf]; omega
    · have hjM : j = M := by omega
      have HJM := Lib.hid hjM
      have HTF := Lib.hid (show (tabL ls kt).take j = tabL ls kt from List.take_of_length_le (by rw [HTL.out]; omega))
      clear hb1
      have c0 := HBX.out.c0
      have c1 := HBX.out.c1
      have c2 := HBX.out.c2
      have c3 := HBX.out.c3
      have c4 := HBX.out.c4
      have c5 := HBX.out.c5
      dsimp only at c0 c1 c2 c3 c4 c5
      have r0 := HBR.out.c0
      have r1 := HBR.out.c1
      have r2 := HBR.out.c2
      have r3 := HBR.out.c3
      have r4 := HBR.out.c4
      have r5 := HBR.out.c5
      dsimp only at r0 r1 r2 r3 r4 r5
      have hfz : ∀ o, w3.frozen? ⟨w.heap.size, o, none⟩ = false := fun o => fz_of HBR.out o
      have HFX := Lib.hid (show HeadBox ((((((w3.setCell ⟨w.heap.size, 0, none⟩ (.int .i64 7)).setCell ⟨w.heap.size, 1, none⟩ (.int .i64 1)).setCell ⟨w.heap.size, 2, none⟩ (.int .i64 0)).setCell ⟨w.heap.size, 3, none⟩ (.int .i64 n)).setCell ⟨w.heap.size, 4, none⟩ (.int .i64 5)).setCell ⟨w.heap.size, 5, none⟩ (.slice pv j cv)) w.heap.size ⟨7, 1, 0, n, 5, []⟩ (.slice pv j cv) from heap_set (i := 5) (heap_set (i := 4) (heap_set (i := 3) (heap_set (i := 2) (heap_set (i := 1) (heap_set (i := 0) HBR.out _) _) _) _) _) _)
      have HFK := Lib.hid (show Kept (fun k => k = w.heap.size) w3 ((((((w3.setCell ⟨w.heap.size, 0, none⟩ (.int .i64 7)).setCell ⟨w.heap.size, 1, none⟩ (.int .i64 1)).setCell ⟨w.heap.size, 2, none⟩ (.int .i64 0)).setCell ⟨w.heap.size, 3, none⟩ (.int .i64 n)).setCell ⟨w.heap.size, 4, none⟩ (.int .i64 5)).setCell ⟨w.heap.size, 5, none⟩ (.slice pv j cv)) from ((((((Kept.set1 _ _ _ _).trans (Kept.set1 _ _ _ _) (fun _ _ h => h)).trans (Kept.set1 _ _ _ _) (fun _ _ h => h)).trans (Kept.set1 _ _ _ _) (fun _ _ h => h)).trans (Kept.set1 _ _ _ _) (fun _ _ h => h)).trans (Kept.set1 _ _ _ _) (fun _ _ h => h)))
      have HTV := Lib.hid (show TableAt w3 (.slice pv j cv) (tabL ls kt) from TableAt.of_owns (by have := HO.out; rw [HTF.out] at this; rw [HTL.out, ← HJM.out]; exact this))
      have HOWN := Lib.hid (fun k e => (HO.out.lt k e).1)
      have HQ := HMM.out j hlt
      clear hjM hlt
      rcases HQ with q | ⟨q, q2⟩
      all_goals
        go_wp2
        refine bodyPost_ret (results_cell_row rfl _ _ w.heap.size _ _ (0, 0) _ rfl HFX.out Tryz.underlying31 rfl (by kernel_rfl)) rfl ⟨_, rfl, HTV.out.keptB HFK.out (fun k e h => by have := HOWN.out k e; omega), HB.out.trans (HFK.out.toBelow HB.out.size (fun k e => by omega))⟩
end Go.Proofs.YtojbbmfndlcgkaaGreat
