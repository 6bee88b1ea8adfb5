/-
  TableHolds: the walk.
-/
import Derived.Test.YtibelpamolcmcaaMxbl
import Derived.Test.YtibelpamolcmcaaMxbm
import Derived.Test.YtibelpamolcmcaaMxad
import Derived.Test.YtibelpamolcmcaaMxat
namespace Go.Proofs.Ytibelpamolcmcaa
open Go.RowKit Go.Maps Go.Shelf Go.Sort
set_option linter.unusedVariables false
set_option linter.unusedSimpArgs false
set_option maxRecDepth 100000
set_option maxHeartbeats 8000000

theorem head_f4 (W : World) (a b c d e : Int) (v : Value) : (Instr.field 31 (.agg #[.int .i64 a, .int .i64 b, .int .i64 c, .int .i64 d, .int .i64 e, v]) 4).run Try.prog W = .ok (.int .i64 e) W := by kernel_rfl
theorem manyG_take {gs : List GD} {k : Nat} (h : k < gs.length) : manyG (gs.take (k + 1)) = manyG (gs.take k) + (gs.getD k default).hs.length := by
  unfold manyG
  rw [take_snoc h, List.map_append, List.sum_append, List.map_singleton, List.sum_singleton]
theorem manyG_pre (gs : List GD) (k : Nat) : manyG (gs.take k) ≤ manyG gs := by
  have h : manyG gs = manyG (gs.take k) + manyG (gs.drop k) := by
    unfold manyG
    rw [← List.sum_append, ← List.map_append, List.take_append_drop]
  omega
theorem tholds_any (w : World) (gn cn : Int) (vL : Value) (L : List DeedV) (h : DeedsAt w vL L) (hl : L.length ≤ 10000000000000) (hb : ∀ x ∈ L, x.body.length ≤ 140737488355328 ∧ x.head.rows.length ≤ 140737488355328) :
    Calls Try.prog 4 #[.int .i64 gn, .int .i64 cn, vL] w fun e w' => e = .returned (.bool true) ∧ Below w.heap.size w w' := by
  have HV0 := Lib.hid h
  have HBD := Lib.hid hb
  obtain ⟨pL, cL, rfl, -, -⟩ := h
  obtain ⟨M, hM⟩ : ∃ M, L.length = M := ⟨_, rfl⟩
  have HM := Lib.hid hM
  rw [hM] at hl HV0 ⊢
  clear hM hb
  go_enter Try.func4, Try.ntmps4
  go_wp2_with fail
  refine (tawake_any w).mono ?_
  rintro e w1 ⟨rfl, hB1⟩
  have HB1 := Lib.hid hB1
  have HV1 := Lib.hid (HV0.out.below hB1)
  clear hB1
  go_wp2_with fail
  refine (dsize_any w1 _ L HV1.out (by rw [HM.out]; omega) (fun x hx => by have := HBD.out x hx; omega)).mono ?_
  rintro e w2 ⟨N, rfl, hN, q, hq⟩
  have HB12 := Lib.hid (show Below w1.heap.size w1 w2 from by rw [hq]; exact balDrewN w1 q)
  have HB2 := Lib.hid (below_more HB1.out HB12.out HB1.out.size)
  have HV2 := Lib.hid (HV1.out.below HB12.out)
  clear hq
  by_cases hN1 : N ≤ 1500
  · have hs := hN hN1
    have HSZ := Lib.hid (show M ≤ 1500 ∧ ∀ x ∈ L, x.body.length ≤ 1500 ∧ x.head.rows.length ≤ 1500 from ⟨by rw [← HM.out]; omega, fun x hx => by have := sizeD_mem hx; omega⟩)
    have hN2 : ¬ (1500 : Int) < (N : Int) := by omega
    clear hN hs hN1
    go_wp2_with fail
    by_cases hbd : 0 < gn ∧ gn ≤ 64 ∧ 0 < cn ∧ cn ≤ 1048576
    · refine (tnew_ok (base := w2.heap.size) w2 (Nat.le_refl _) hbd.1 hbd.2.1 hbd.2.2.1 hbd.2.2.2).mono ?_
      rintro e w3 ⟨rfl, hT, hB3⟩
      have HT3 := Lib.hid hT
      have HB3 := Lib.hid hB3
      have HP3 := Lib.hid (show TabP gn cn [] from TabP.nil (by omega) hbd.2.1 (by omega) hbd.2.2.2)
      clear hT hB3 hbd
      go_wp2
      go_loopw [6, 9, 10] (fun v6 v9 v10 wr => ∃ (i : Nat) (v : Value) (gs : List GD) (Hs : List (HeadV × Value)), i ≤ M ∧ v6 = .bool false ∧ v10 = .int .i64 (i : Int) ∧ HoldT w2 wr gn cn v v9 gs Hs) (fun _ _ v10 _ => M - (intOf v10).toNat)
      case atStart => exact ⟨0, _, _, _, Nat.zero_le _, rfl, rfl, ⟨HT3.out, HP3.out, HB3.out, HeadsO.nil _ _, HoldP.nil, fun p h => (by cases h), fun g h => (by cases h)⟩⟩
      case round =>
        obtain ⟨wo, rfl⟩ : ∃ wo, wo = wr := ⟨_, rfl⟩
        obtain ⟨i, v, gs, Hs, hi, rfl, rfl, hI⟩ := hrel
        have HI := Lib.hid hI
        have HT := Lib.hid hI.tab
        have HP := Lib.hid hI.tp
        have HB := Lib.hid hI.low
        have HH := Lib.hid hI.row
        clear hI
        have hM15 := HSZ.out.1
        by_cases hlt : i < M
        · have HLT := Lib.hid (show i + 1 ≤ M from hlt)
          have hli : i < L.length := by rw [HM.out]; exact hlt
          obtain ⟨p2, cap2, e2, _, hc2⟩ := HV2.out
          obtain ⟨g, off, e3, hcc⟩ := hc2 (by omega)
          have e5 := (Value.slice.inj e2).1
          subst e5
          subst e3
          obtain ⟨vr, vb, hd0⟩ := hcc i hli
          have hd := hd0.below HB.out
          have hxm : L.getD i default ∈ L := by rw [List.getD_eq_getElem?_getD, List.getElem?_eq_getElem hli]; exact List.getElem_mem _
          have hxs := HSZ.out.2 _ hxm
          obtain ⟨x, hx⟩ : ∃ x, L.getD i default = x := ⟨_, rfl⟩
          have hrl := hd0.rows.olt
          have hbl := hd0.body.olt
          have hrow2 := hd0.rows
          rw [hx] at hd hxs hrl hbl hrow2
          obtain ⟨xw, xa, ⟨hS, hF, hI, hN, hD, rows⟩, xl⟩ := x
          obtain ⟨pv, cv, hvr⟩ := hd.rows.shape
          obtain ⟨pb, cb, hvb⟩ := hd.body.shape
          obtain ⟨x0, x1, x2, x3, x4, x5, x6, x7, x8, hrows, hbody⟩ := hd
          subst hvr
          subst hvb
          dsimp only at x0 x1 x2 x3 x4 x5 x6 x7 x8 hrows hbody hxs hrl hbl hrow2
          obtain ⟨rn, hrn⟩ : ∃ n, rows.length = n := ⟨_, rfl⟩
          obtain ⟨n, hn⟩ : ∃ n, xl.length = n := ⟨_, rfl⟩
          rw [hrn] at x7 hrows hrl hrow2
          rw [hrn, hn] at hxs
          rw [hn] at x8 hbody hbl
          have HN1 := Lib.hid hn
          have HRN := Lib.hid hrn
          have HR2 := Lib.hid hrow2
          have hn15 : n ≤ 1500 := hxs.1
          have hr15 : rn ≤ 1500 := hxs.2
          have HA4 := Lib.hid (balT wo (.cells #[.int .i64 xw, .int .i64 xa, .int .i64 hS, .int .i64 hF, .int .i64 hI, .int .i64 hN, .int .i64 hD, .slice pv rn cv, .slice pb n cb] 34))
          have HT4 := Lib.hid (HT.out.below HA4.out)
          have HB4 := Lib.hid (below_more HB.out HA4.out HB.out.size)
          have HR4 := Lib.hid (hrows.below HA4.out)
          have HY4 := Lib.hid (hbody.below HA4.out)
          have HH4 := Lib.hid (HH.out.below HA4.out)
          have HBX4 := Lib.hid (show BoxD (wo.alloc (.cells #[.int .i64 xw, .int .i64 xa, .int .i64 hS, .int .i64 hF, .int .i64 hI, .int .i64 hN, .int .i64 hD, .slice pv rn cv, .slice pb n cb] 34)) wo.heap.size ⟨xw, xa, ⟨hS, hF, hI, hN, hD, rows⟩, xl⟩ (.slice pv rn cv) (.slice pb n cb) from BoxD.made wo ⟨xw, xa, ⟨hS, hF, hI, hN, hD, rows⟩, xl⟩ (.slice pv rn cv) (.slice pb n cb))
          have HRL := Lib.hid (show 0 < rn → ∀ k, (Value.slice pv rn cv).ownBlock = some k → ¬ PutS w2.heap.size v gs k from fun h0 k e h => by have := hrl h0 k e; have := (HT.out.putS h).1; omega)
          have HBL := Lib.hid (show 0 < n → ∀ k, (Value.slice pb n cb).ownBlock = some k → ¬ PutS w2.heap.size v gs k from fun h0 k e h => by have := hbl h0 k e; have := (HT.out.putS h).1; omega)
          have HNB := Lib.hid (show ¬ PutS w2.heap.size v gs wo.heap.size from fun h => by have := (HT.out.putS h).2; omega)
          clear hrows hbody hrl hbl hn hrn hx hxm hxs hd0 hcc hc2 e2 hli hrow2
          go_wp2_with fail
          generalize (wo.alloc (.cells #[.int .i64 xw, .int .i64 xa, .int .i64 hS, .int .i64 hF, .int .i64 hI, .int .i64 hN, .int .i64 hD, .slice pv rn cv, .slice pb n cb] 34)) = w4 at *
          generalize wo.heap.size = bx at *
          refine (pick_any w4 xw 8 (by omega) (by omega)).mono ?_
          rintro e w' ⟨⟨p, rfl, hp⟩, rfl⟩
          have b1 := HBX4.out.c1
          dsimp only at b1
          clear x0 x1 x2 x3 x4 x5 x6 x7 x8
          by_cases h6 : p = 6
          · subst h6
            go_wp2_with fail
            refine (tclose_any HT4.out HB4.out.size xa).mono ?_
            rintro e w5 ⟨v5, rfl, hT5, -, hG5, hK5⟩
            have HT5 := Lib.hid hT5
            have HB5 := Lib.hid (show Below w2.heap.size w2 w5 from HB4.out.trans (hK5.toBelow HB4.out.size fun k h => (HT4.out.rowS h).1))
            have HP5 := Lib.hid (HP.out.sub (cutP_sub (fun g : GD => decide (g.H.frame = xa)) gs))
            have HBX5 := Lib.hid (HBX4.out.kept hK5 (fun h => HNB.out (.inl h)))
            have HH5 := Lib.hid (HH4.out.keptS hK5 (fun k e => HT4.out.notRow (HH4.out.typed k e)))
            have HOL := Lib.hid (HI.out.hold.sub HP.out.nod (cutP_sub (fun g : GD => decide (g.H.frame = xa)) gs))
            have HDD := Lib.hid (balDrew w5)
            clear b1 hT5 hK5
            by_cases hq : xa ∈ framesG gs
            · obtain ⟨G, hGm, hGf, hGv⟩ := find_at hq
              rw [hGv]
              have HG5 := Lib.hid (hG5 G hGm)
              have HHD := Lib.hid (fun W (h : Below w5.heap.size w5 W) => ghead_any (GrpAt.below HG5.out h))
              have hfr : (G.H.frame != xa) = false := by rw [hGf]; simp
              clear hG5 hGm hGf hGv
              go_wp2_with fail
              refine s_start 9 (fun W => Below w5.heap.size w5 W) (by as_aux_lemma => kernel_rfl) (by as_aux_lemma => kernel_rfl) HDD.out ?_
              refine s_take 0 (by as_aux_lemma => kernel_rfl) (by as_aux_lemma => kernel_rfl) (by as_aux_lemma => kernel_rfl) (by as_aux_lemma => kernel_rfl) HDD.out (fun oi ho => ?_)
              simp only [List.getElem?_toArray, List.getElem?_cons_succ, List.getElem?_cons_zero, Option.some.injEq] at ho
              subst ho
              refine ⟨?_, Or.inl ⟨by rfl, fun w _ => ?_⟩, ?_⟩
              rotate_left
              · (go_simp <;> with_reducible rfl)
              try simp only [Act.put, List.setIfInBounds_toArray, List.set_cons_zero, List.set_cons_succ]
              refine s_take 1 (by as_aux_lemma => kernel_rfl) (by as_aux_lemma => kernel_rfl) (by as_aux_lemma => kernel_rfl) (by as_aux_lemma => kernel_rfl) HDD.out (fun oi ho => ?_)
              simp only [List.getElem?_toArray, List.getElem?_cons_succ, List.getElem?_cons_zero, Option.some.injEq] at ho
              subst ho
              refine ⟨?_, Or.inl ⟨by rfl, fun w _ => ?_⟩, ?_⟩
              rotate_left
              · (go_simp <;> with_reducible rfl)
              try simp only [Act.put, List.setIfInBounds_toArray, List.set_cons_zero, List.set_cons_succ]
              refine s_take 2 (by as_aux_lemma => kernel_rfl) (by as_aux_lemma => kernel_rfl) (by as_aux_lemma => kernel_rfl) (by as_aux_lemma => kernel_rfl) HDD.out (fun oi ho => ?_)
              simp only [List.getElem?_toArray, List.getElem?_cons_succ, List.getElem?_cons_zero, Option.some.injEq] at ho
              subst ho
              refine ⟨?_, Or.inl ⟨by rfl, fun w _ => ?_⟩, ?_⟩
              rotate_left
              · (go_simp <;> with_reducible rfl)
              try simp only [Act.put, List.setIfInBounds_toArray, List.set_cons_zero, List.set_cons_succ]
              refine s_take 5 (by as_aux_lemma => kernel_rfl) (by as_aux_lemma => kernel_rfl) (by as_aux_lemma => kernel_rfl) (by as_aux_lemma => kernel_rfl) HDD.out (fun oi ho => ?_)
              simp only [List.getElem?_toArray, List.getElem?_cons_succ, List.getElem?_cons_zero, Option.some.injEq] at ho
              subst ho
              refine ⟨?_, Or.inl ⟨by rfl, fun w _ => ?_⟩, ?_⟩
              rotate_left
              · (go_simp <;> with_reducible rfl)
              try simp only [Act.put, List.setIfInBounds_toArray, List.set_cons_zero, List.set_cons_succ]
              refine s_take 6 (by as_aux_lemma => kernel_rfl) (by as_aux_lemma => kernel_rfl) (by as_aux_lemma => kernel_rfl) (by as_aux_lemma => kernel_rfl) HDD.out (fun oi ho => ?_)
              simp only [List.getElem?_toArray, List.getElem?_cons_succ, List.getElem?_cons_zero, Option.some.injEq] at ho
              subst ho
              refine ⟨.int .i64 xa, Or.inl ⟨by rfl, fun w' hS' => ?_⟩, ?_⟩
              · have z := (hS'.cell (p := ⟨bx, 1, none⟩) HBX5.out.lt).trans HBX5.out.c1
                (go_simp <;> with_reducible rfl)
              try simp only [Act.put, List.setIfInBounds_toArray, List.set_cons_zero, List.set_cons_succ]
              refine s_all (rs := [3]) (by as_aux_lemma => kernel_rfl) (by simp) ?_
              refine s_step 3 (by as_aux_lemma => kernel_rfl) (fun o ho K hK => ?_) AllReadyH.nil
              simp only [List.getElem?_toArray, List.getElem?_cons_succ, List.getElem?_cons_zero, Option.some.injEq] at ho
              subst ho
              go_simp
              refine (HHD.out _ HDD.out).mono ?_
              rintro e wa0 ⟨vwa0, rfl, -, hBq⟩
              have HBwa0 := Lib.hid (below_more HDD.out hBq (HDD.out).size)
              clear hBq
              go_wp2_with fail
              refine hK.out _ _ HBwa0.out ?_
              clear hK K
              try simp only [Act.put, List.setIfInBounds_toArray, List.set_cons_zero, List.set_cons_succ]
              refine s_take 4 (by as_aux_lemma => kernel_rfl) (by as_aux_lemma => kernel_rfl) (by as_aux_lemma => kernel_rfl) (by as_aux_lemma => kernel_rfl) HBwa0.out (fun oi ho => ?_)
              simp only [List.getElem?_toArray, List.getElem?_cons_succ, List.getElem?_cons_zero, Option.some.injEq] at ho
              subst ho
              refine ⟨.int .i64 G.H.frame, Or.inl ⟨by rfl, fun w' hS' => ?_⟩, ?_⟩
              · (go_simp <;> (rw [head_f1]; rfl))
              try simp only [Act.put, List.setIfInBounds_toArray, List.set_cons_zero, List.set_cons_succ]
              refine s_take 7 (by as_aux_lemma => kernel_rfl) (by as_aux_lemma => kernel_rfl) (by as_aux_lemma => kernel_rfl) (by as_aux_lemma => kernel_rfl) HBwa0.out (fun oi ho => ?_)
              simp only [List.getElem?_toArray, List.getElem?_cons_succ, List.getElem?_cons_zero, Option.some.injEq] at ho
              subst ho
              refine ⟨?_, Or.inl ⟨by rfl, fun w _ => ?_⟩, ?_⟩
              rotate_left
              · (go_simp <;> with_reducible rfl)
              try simp only [Act.put, List.setIfInBounds_toArray, List.set_cons_zero, List.set_cons_succ]
              refine s_take 8 (by as_aux_lemma => kernel_rfl) (by as_aux_lemma => kernel_rfl) (by as_aux_lemma => kernel_rfl) (by as_aux_lemma => kernel_rfl) HBwa0.out (fun oi ho => ?_)
              simp only [List.getElem?_toArray, List.getElem?_cons_succ, List.getElem?_cons_zero, Option.some.injEq] at ho
              subst ho
              refine ⟨?_, Or.inl ⟨by rfl, fun w _ => ?_⟩, ?_⟩
              rotate_left
              · (go_simp <;> with_reducible rfl)
              try simp only [Act.put, List.setIfInBounds_toArray, List.set_cons_zero, List.set_cons_succ]
              refine s_done (by as_aux_lemma => kernel_rfl) ?_
              skip

              go_wp2_with fail
              refine (within_any (HT5.out.below HBwa0.out) w2.heap.size (u9) (Hs) (HH5.out.below HBwa0.out) (src_shape (HI.out.src)) (by have := HI.out.few; omega)).mono ?_
              rintro e wz ⟨vo, rfl, hOz, hBz⟩
              have HNX := Lib.hid (HoldT.next (HT5.out.below HBwa0.out) (HP5.out) (below_more HB5.out HBwa0.out HB5.out.size) hOz hBz (HOL.out) (HI.out.src))
              clear hOz hBz
              go_wp2
              go_roundw
              case rel => exact ⟨i + 1, _, _, _, HLT.out, rfl, by go_num, HNX.out⟩
              case measure => have hlt9 := HLT.out; simp [intOf]; omega
            · rw [find_not hq]
              clear hG5
              go_wp2_with fail
              refine s_start 9 (fun W => Below w5.heap.size w5 W) (by as_aux_lemma => kernel_rfl) (by as_aux_lemma => kernel_rfl) HDD.out ?_
              refine s_take 0 (by as_aux_lemma => kernel_rfl) (by as_aux_lemma => kernel_rfl) (by as_aux_lemma => kernel_rfl) (by as_aux_lemma => kernel_rfl) HDD.out (fun oi ho => ?_)
              simp only [List.getElem?_toArray, List.getElem?_cons_succ, List.getElem?_cons_zero, Option.some.injEq] at ho
              subst ho
              refine ⟨?_, Or.inl ⟨by rfl, fun w _ => ?_⟩, ?_⟩
              rotate_left
              · (go_simp <;> with_reducible rfl)
              try simp only [Act.put, List.setIfInBounds_toArray, List.set_cons_zero, List.set_cons_succ]
              refine s_take 1 (by as_aux_lemma => kernel_rfl) (by as_aux_lemma => kernel_rfl) (by as_aux_lemma => kernel_rfl) (by as_aux_lemma => kernel_rfl) HDD.out (fun oi ho => ?_)
              simp only [List.getElem?_toArray, List.getElem?_cons_succ, List.getElem?_cons_zero, Option.some.injEq] at ho
              subst ho
              refine ⟨?_, Or.inl ⟨by rfl, fun w _ => ?_⟩, ?_⟩
              rotate_left
              · (go_simp <;> with_reducible rfl)
              try simp only [Act.put, List.setIfInBounds_toArray, List.set_cons_zero, List.set_cons_succ]
              refine s_take 2 (by as_aux_lemma => kernel_rfl) (by as_aux_lemma => kernel_rfl) (by as_aux_lemma => kernel_rfl) (by as_aux_lemma => kernel_rfl) HDD.out (fun oi ho => ?_)
              simp only [List.getElem?_toArray, List.getElem?_cons_succ, List.getElem?_cons_zero, Option.some.injEq] at ho
              subst ho
              refine ⟨undef, Or.inr ⟨by rfl, rfl⟩, ?_⟩
              try simp only [Act.put, List.setIfInBounds_toArray, List.set_cons_zero, List.set_cons_succ]
              refine s_take 3 (by as_aux_lemma => kernel_rfl) (by as_aux_lemma => kernel_rfl) (by as_aux_lemma => kernel_rfl) (by as_aux_lemma => kernel_rfl) HDD.out (fun oi ho => ?_)
              simp only [List.getElem?_toArray, List.getElem?_cons_succ, List.getElem?_cons_zero, Option.some.injEq] at ho
              subst ho
              refine ⟨undef, Or.inr ⟨by rfl, rfl⟩, ?_⟩
              try simp only [Act.put, List.setIfInBounds_toArray, List.set_cons_zero, List.set_cons_succ]
              refine s_take 4 (by as_aux_lemma => kernel_rfl) (by as_aux_lemma => kernel_rfl) (by as_aux_lemma => kernel_rfl) (by as_aux_lemma => kernel_rfl) HDD.out (fun oi ho => ?_)
              simp only [List.getElem?_toArray, List.getElem?_cons_succ, List.getElem?_cons_zero, Option.some.injEq] at ho
              subst ho
              refine ⟨undef, Or.inr ⟨by rfl, rfl⟩, ?_⟩
              try simp only [Act.put, List.setIfInBounds_toArray, List.set_cons_zero, List.set_cons_succ]
              refine s_take 5 (by as_aux_lemma => kernel_rfl) (by as_aux_lemma => kernel_rfl) (by as_aux_lemma => kernel_rfl) (by as_aux_lemma => kernel_rfl) HDD.out (fun oi ho => ?_)
              simp only [List.getElem?_toArray, List.getElem?_cons_succ, List.getElem?_cons_zero, Option.some.injEq] at ho
              subst ho
              refine ⟨undef, Or.inr ⟨by rfl, rfl⟩, ?_⟩
              try simp only [Act.put, List.setIfInBounds_toArray, List.set_cons_zero, List.set_cons_succ]
              refine s_take 6 (by as_aux_lemma => kernel_rfl) (by as_aux_lemma => kernel_rfl) (by as_aux_lemma => kernel_rfl) (by as_aux_lemma => kernel_rfl) HDD.out (fun oi ho => ?_)
              simp only [List.getElem?_toArray, List.getElem?_cons_succ, List.getElem?_cons_zero, Option.some.injEq] at ho
              subst ho
              refine ⟨undef, Or.inr ⟨by rfl, rfl⟩, ?_⟩
              try simp only [Act.put, List.setIfInBounds_toArray, List.set_cons_zero, List.set_cons_succ]
              refine s_take 7 (by as_aux_lemma => kernel_rfl) (by as_aux_lemma => kernel_rfl) (by as_aux_lemma => kernel_rfl) (by as_aux_lemma => kernel_rfl) HDD.out (fun oi ho => ?_)
              simp only [List.getElem?_toArray, List.getElem?_cons_succ, List.getElem?_cons_zero, Option.some.injEq] at ho
              subst ho
              refine ⟨undef, Or.inr ⟨by rfl, rfl⟩, ?_⟩
              try simp only [Act.put, List.setIfInBounds_toArray, List.set_cons_zero, List.set_cons_succ]
              refine s_take 8 (by as_aux_lemma => kernel_rfl) (by as_aux_lemma => kernel_rfl) (by as_aux_lemma => kernel_rfl) (by as_aux_lemma => kernel_rfl) HDD.out (fun oi ho => ?_)
              simp only [List.getElem?_toArray, List.getElem?_cons_succ, List.getElem?_cons_zero, Option.some.injEq] at ho
              subst ho
              refine ⟨?_, Or.inl ⟨by rfl, fun w _ => ?_⟩, ?_⟩
              rotate_left
              · (go_simp <;> with_reducible rfl)
              try simp only [Act.put, List.setIfInBounds_toArray, List.set_cons_zero, List.set_cons_succ]
              refine s_done (by as_aux_lemma => kernel_rfl) ?_
              skip

              go_wp2_with fail
              refine (within_any (HT5.out.below HDD.out) w2.heap.size (u9) (Hs) (HH5.out.below HDD.out) (src_shape (HI.out.src)) (by have := HI.out.few; omega)).mono ?_
              rintro e wz ⟨vo, rfl, hOz, hBz⟩
              have HNX := Lib.hid (HoldT.next (HT5.out.below HDD.out) (HP5.out) (below_more HB5.out HDD.out HB5.out.size) hOz hBz (HOL.out) (HI.out.src))
              clear hOz hBz
              go_wp2
              go_roundw
              case rel => exact ⟨i + 1, _, _, _, HLT.out, rfl, by go_num, HNX.out⟩
              case measure => have hlt9 := HLT.out; simp [intOf]; omega
          · by_cases h7 : p = 7
            · subst h7
              go_wp2_with fail
              refine (texpire_any HT4.out HB4.out.size xa).mono ?_
              rintro e w5 ⟨vo5, v5, rfl, hT5, -, hO5, hG5, hK5⟩
              have HT5 := Lib.hid hT5
              have HB5 := Lib.hid (show Below w2.heap.size w2 w5 from HB4.out.trans (hK5.toBelow HB4.out.size fun k h => (HT4.out.rowS h).1))
              have HP5 := Lib.hid (HP.out.sub (List.filter_sublist (p := fun g : GD => !decide (g.H.deadline ≤ xa))))
              have HBX5 := Lib.hid (HBX4.out.kept hK5 (fun h => HNB.out (.inl h)))
              have HH5 := Lib.hid (HH4.out.keptS hK5 (fun k e => HT4.out.notRow (HH4.out.typed k e)))
              have HOL := Lib.hid (HI.out.hold.sub HP.out.nod (List.filter_sublist (p := fun g : GD => !decide (g.H.deadline ≤ xa))))
              obtain ⟨outs, houts⟩ : ∃ outs, gs.filter (fun g => decide (g.H.deadline ≤ xa)) = outs := ⟨_, rfl⟩
              rw [houts] at hO5
              have HGO := Lib.hid (show ∀ g ∈ outs, GDAt w5 w2.heap.size g ∧ g.H.deadline ≤ xa from fun g hg => by
                rw [← houts] at hg
                obtain ⟨h1, h2⟩ := List.mem_filter.1 hg
                exact ⟨hG5 g h1, by simpa using h2⟩)
              obtain ⟨go, po, co, hvo, hpo, hco⟩ := outs_shape hO5
              subst hvo
              obtain ⟨m, hm⟩ : ∃ m, outs.length = m := ⟨_, rfl⟩
              have HML := Lib.hid hm
              have hm64 : m ≤ 64 := by
                have h1 : outs.length ≤ gs.length := by rw [← houts]; exact List.length_filter_le _ _
                have h2 := HI.out.few.2
                omega
              rw [hm] at hpo hco ⊢
              have HPO := Lib.hid hpo
              have HCO := Lib.hid hco
              clear b1 hT5 hK5 hG5 hO5 houts hpo hco hm
              go_wp2
              go_loopw [6, 15] (fun v6 v15 wr => ∃ k : Nat, k ≤ m ∧ v6 = .bool false ∧ v15 = .int .i64 (k : Int) ∧ Below w5.heap.size w5 wr) (fun _ v15 _ => m - (intOf v15).toNat)
              case atStart => exact ⟨0, Nat.zero_le _, rfl, rfl, Below.refl _ w5⟩
              case round =>
                obtain ⟨k, hk, rfl, rfl, hBk⟩ := hrel
                have HBK := Lib.hid hBk
                clear hBk
                by_cases hlk : k < m
                · have HDK := Lib.hid (below_more HBK.out (balDrew wr) HBK.out.size)
                  have HLK := Lib.hid (show k + 1 ≤ m from hlk)
                  have hpo := HPO.out (by omega)
                  subst hpo
                  have hck := HCO.out k hlk
                  have hok : k < outs.length := by rw [HML.out]; exact hlk
                  obtain ⟨gk, hgk⟩ : ∃ g, outs.getD k default = g := ⟨_, rfl⟩
                  have hgm := HGO.out gk (by rw [← hgk]; exact getD_mem hok)
                  rw [hgk] at hck
                  have HCK := Lib.hid hck
                  have HHD := Lib.hid (fun W (h : Below w5.heap.size w5 W) => ghead_any (GrpAt.below hgm.1 h))
                  have hdl : ¬ xa < gk.H.deadline := by have := hgm.2; omega
                  clear hck hok hgk hgm
                  go_wp2_with fail
                  refine s_start 9 (fun W => Below w5.heap.size w5 W) (by as_aux_lemma => kernel_rfl) (by as_aux_lemma => kernel_rfl) HDK.out ?_
                  refine s_take 0 (by as_aux_lemma => kernel_rfl) (by as_aux_lemma => kernel_rfl) (by as_aux_lemma => kernel_rfl) (by as_aux_lemma => kernel_rfl) HDK.out (fun oi ho => ?_)
                  simp only [List.getElem?_toArray, List.getElem?_cons_succ, List.getElem?_cons_zero, Option.some.injEq] at ho
                  subst ho
                  refine ⟨?_, Or.inl ⟨by rfl, fun w _ => ?_⟩, ?_⟩
                  rotate_left
                  · (go_simp <;> with_reducible rfl)
                  try simp only [Act.put, List.setIfInBounds_toArray, List.set_cons_zero, List.set_cons_succ]
                  refine s_take 1 (by as_aux_lemma => kernel_rfl) (by as_aux_lemma => kernel_rfl) (by as_aux_lemma => kernel_rfl) (by as_aux_lemma => kernel_rfl) HDK.out (fun oi ho => ?_)
                  simp only [List.getElem?_toArray, List.getElem?_cons_succ, List.getElem?_cons_zero, Option.some.injEq] at ho
                  subst ho
                  refine ⟨?_, Or.inl ⟨by rfl, fun w _ => ?_⟩, ?_⟩
                  rotate_left
                  · (go_simp <;> with_reducible rfl)
                  try simp only [Act.put, List.setIfInBounds_toArray, List.set_cons_zero, List.set_cons_succ]
                  refine s_take 2 (by as_aux_lemma => kernel_rfl) (by as_aux_lemma => kernel_rfl) (by as_aux_lemma => kernel_rfl) (by as_aux_lemma => kernel_rfl) HDK.out (fun oi ho => ?_)
                  simp only [List.getElem?_toArray, List.getElem?_cons_succ, List.getElem?_cons_zero, Option.some.injEq] at ho
                  subst ho
                  refine ⟨?_, Or.inl ⟨by rfl, fun w _ => ?_⟩, ?_⟩
                  rotate_left
                  · (go_simp <;> with_reducible rfl)
                  try simp only [Act.put, List.setIfInBounds_toArray, List.set_cons_zero, List.set_cons_succ]
                  refine s_take 3 (by as_aux_lemma => kernel_rfl) (by as_aux_lemma => kernel_rfl) (by as_aux_lemma => kernel_rfl) (by as_aux_lemma => kernel_rfl) HDK.out (fun oi ho => ?_)
                  simp only [List.getElem?_toArray, List.getElem?_cons_succ, List.getElem?_cons_zero, Option.some.injEq] at ho
                  subst ho
                  refine ⟨.pointer (some ⟨gk.blk, 0, none⟩), Or.inl ⟨by rfl, fun w' hS' => ?_⟩, ?_⟩
                  · have z := (hS'.cell (p := ⟨go, k, none⟩) (blt HCK.out)).trans HCK.out
                    (go_simp <;> with_reducible rfl)
                  try simp only [Act.put, List.setIfInBounds_toArray, List.set_cons_zero, List.set_cons_succ]
                  refine s_take 6 (by as_aux_lemma => kernel_rfl) (by as_aux_lemma => kernel_rfl) (by as_aux_lemma => kernel_rfl) (by as_aux_lemma => kernel_rfl) HDK.out (fun oi ho => ?_)
                  simp only [List.getElem?_toArray, List.getElem?_cons_succ, List.getElem?_cons_zero, Option.some.injEq] at ho
                  subst ho
                  refine ⟨?_, Or.inl ⟨by rfl, fun w _ => ?_⟩, ?_⟩
                  rotate_left
                  · (go_simp <;> with_reducible rfl)
                  try simp only [Act.put, List.setIfInBounds_toArray, List.set_cons_zero, List.set_cons_succ]
                  refine s_take 7 (by as_aux_lemma => kernel_rfl) (by as_aux_lemma => kernel_rfl) (by as_aux_lemma => kernel_rfl) (by as_aux_lemma => kernel_rfl) HDK.out (fun oi ho => ?_)
                  simp only [List.getElem?_toArray, List.getElem?_cons_succ, List.getElem?_cons_zero, Option.some.injEq] at ho
                  subst ho
                  refine ⟨.int .i64 xa, Or.inl ⟨by rfl, fun w' hS' => ?_⟩, ?_⟩
                  · have z := (hS'.cell (p := ⟨bx, 1, none⟩) HBX5.out.lt).trans HBX5.out.c1
                    (go_simp <;> with_reducible rfl)
                  try simp only [Act.put, List.setIfInBounds_toArray, List.set_cons_zero, List.set_cons_succ]
                  refine s_all (rs := [4]) (by as_aux_lemma => kernel_rfl) (by simp) ?_
                  refine s_step 4 (by as_aux_lemma => kernel_rfl) (fun o ho K hK => ?_) AllReadyH.nil
                  simp only [List.getElem?_toArray, List.getElem?_cons_succ, List.getElem?_cons_zero, Option.some.injEq] at ho
                  subst ho
                  go_simp
                  refine (HHD.out _ HDK.out).mono ?_
                  rintro e wa0 ⟨vwa0, rfl, -, hBq⟩
                  have HBwa0 := Lib.hid (below_more HDK.out hBq (HDK.out).size)
                  clear hBq
                  go_wp2_with fail
                  refine hK.out _ _ HBwa0.out ?_
                  clear hK K
                  try simp only [Act.put, List.setIfInBounds_toArray, List.set_cons_zero, List.set_cons_succ]
                  refine s_take 5 (by as_aux_lemma => kernel_rfl) (by as_aux_lemma => kernel_rfl) (by as_aux_lemma => kernel_rfl) (by as_aux_lemma => kernel_rfl) HBwa0.out (fun oi ho => ?_)
                  simp only [List.getElem?_toArray, List.getElem?_cons_succ, List.getElem?_cons_zero, Option.some.injEq] at ho
                  subst ho
                  refine ⟨.int .i64 gk.H.deadline, Or.inl ⟨by rfl, fun w' hS' => ?_⟩, ?_⟩
                  · (go_simp <;> (rw [head_f4]; rfl))
                  try simp only [Act.put, List.setIfInBounds_toArray, List.set_cons_zero, List.set_cons_succ]
                  refine s_take 8 (by as_aux_lemma => kernel_rfl) (by as_aux_lemma => kernel_rfl) (by as_aux_lemma => kernel_rfl) (by as_aux_lemma => kernel_rfl) HBwa0.out (fun oi ho => ?_)
                  simp only [List.getElem?_toArray, List.getElem?_cons_succ, List.getElem?_cons_zero, Option.some.injEq] at ho
                  subst ho
                  refine ⟨?_, Or.inl ⟨by rfl, fun w _ => ?_⟩, ?_⟩
                  rotate_left
                  · (go_simp <;> with_reducible rfl)
                  try simp only [Act.put, List.setIfInBounds_toArray, List.set_cons_zero, List.set_cons_succ]
                  refine s_done (by as_aux_lemma => kernel_rfl) ?_
                  skip
                  go_wp2
                  go_roundw
                  case rel => exact ⟨k + 1, HLK.out, rfl, by go_num, HBwa0.out⟩
                  case measure =>
                    have hlk9 := HLK.out
                    simp [intOf]; omega
                · obtain rfl : k = m := by omega
                  go_wp2_with fail
                  refine (within_any (HT5.out.below HBK.out) w2.heap.size (u9) (Hs) (HH5.out.below HBK.out) (src_shape (HI.out.src)) (by have := HI.out.few; omega)).mono ?_
                  rintro e wz ⟨vo, rfl, hOz, hBz⟩
                  have HNX := Lib.hid (HoldT.next (HT5.out.below HBK.out) (HP5.out) (below_more HB5.out HBK.out HB5.out.size) hOz hBz (HOL.out) (HI.out.src))
                  clear hOz hBz
                  go_wp2
                  go_roundw
                  case rel => exact ⟨i + 1, _, _, _, HLT.out, rfl, by go_num, HNX.out⟩
                  case measure => have hlt9 := HLT.out; simp [intOf]; omega
            · have r6 : ((p : Int) == 6) = false := by rw [beq_eq_false_iff_ne]; omega
              have r7 : ((p : Int) == 7) = false := by rw [beq_eq_false_iff_ne]; omega
              have y2 := HBX4.out.c2
              have y3 := HBX4.out.c3
              have y4 := HBX4.out.c4
              have y5 := HBX4.out.c5
              have y6 := HBX4.out.c6
              have y7 := HBX4.out.c7
              have y8 := HBX4.out.c8
              dsimp only at y2 y3 y4 y5 y6 y7 y8
              clear b1
              go_wp2_with fail
              clear y2 y3 y4 y5 y6 y7 y8
              by_cases he : refE gs ⟨hS, hF, hI, hN, hD, rows⟩ n cn = 0
              · have hee := refE_zero he
                refine (put_full HT4.out HP.out HB4.out.size ⟨hS, hF, hI, hN, hD, rows⟩ (.slice pv rn cv) HR4.out pb n cb xl HY4.out (by omega) he HBL.out (HRL.out (by rw [← HRN.out]; exact hee.1.1.2.2.1))).mono ?_
                rintro e w5 ⟨vo5, v5, gs', outs, m, rfl, hT5, hR5, hO5, hG5, hK5, hV5⟩
                have HT5 := Lib.hid hT5
                have HB5 := Lib.hid (show Below w2.heap.size w2 w5 from HB4.out.trans (hK5.toBelow HB4.out.size fun k h => (HT4.out.putS h).1))
                have HBX5 := Lib.hid (HBX4.out.kept hK5 HNB.out)
                have HH5 := Lib.hid (HH4.out.keptS hK5 (fun k e => HT4.out.notPut (HH4.out.typed k e)))
                have HP5 := Lib.hid (hR5.tabP HP.out (by rw [HN1.out]; exact he))
                have HOL := Lib.hid (HI.out.hold.put HP.out.nod hR5 (by rw [HN1.out]; exact he) (Value.slice pv rn cv))
                have HFR := Lib.hid (show ∀ g ∈ gs', ∀ k, u9.ownBlock = some k → g.vr.ownBlock ≠ some k from fun g hg k e e2 => by
                  rcases hV5 g hg with ⟨g0, h1, h2⟩ | h1
                  · exact HI.out.far g0 h1 k e (h2 ▸ e2)
                  · have h3 := h1 k e2
                    have h4 := (HH4.out.lt k e).2
                    omega)
                have SRC8 := Lib.hid (show ∀ p ∈ Hs ++ [((⟨hS, hF, hI, hN, hD, rows⟩ : HeadV), Value.slice pv rn cv)], TableAt w2 p.2 p.1.rows ∧ 0 < p.1.rows.length ∧ p.1.rows.length ≤ 1500 from fun p hp => by
                  rcases List.mem_append.1 hp with h1 | h1
                  · exact HI.out.src p h1
                  · obtain rfl := List.mem_singleton.1 h1
                    refine ⟨HR2.out, ?_, ?_⟩
                    · exact hee.1.1.2.2.1
                    · show rows.length ≤ 1500
                      rw [HRN.out]
                      exact hr15)
                obtain ⟨K, hK⟩ : ∃ K, Hs.length = K := ⟨_, rfl⟩
                have hK20 : K ≤ 20000 := by rw [← hK]; exact HI.out.few.1
                have HKK := Lib.hid hK
                have HOR := Lib.hid (show w5.ownsRow w2.heap.size 31 6 u9 K (flatH Hs) from by have h1 := HH5.out; unfold HeadsO at h1; rw [hK] at h1; exact h1)
                have hsr : w2.heap.size ≤ w5.heap.size := HB5.out.size
                have y2 := HBX5.out.c2
                have y3 := HBX5.out.c3
                have y4 := HBX5.out.c4
                have y5 := HBX5.out.c5
                have y6 := HBX5.out.c6
                have y7 := HBX5.out.c7
                dsimp only at y2 y3 y4 y5 y6 y7
                clear hT5 hR5 hO5 hG5 hK5 hV5 hee he hK
                go_wp2_with (at_builtin; refine app_el 49 31 6 64 _ Try.underlying49 infoHd rfl (by decide) rfl _ _ rfl w2.heap.size K _ _ rfl HOR.out [.int .i64 hS, .int .i64 hF, .int .i64 hI, .int .i64 hN, .int .i64 hD, .slice pv rn cv] rfl (by simp [Value.oneCell']) rfl (by omega) hsr ?_; intro g1 c1 w8 oA kA sA gA)
                have TAB8 := HT5.out.keptH kA HH5.out.typed HFR.out
                have LOW8 : Below w2.heap.size w2 w8 := HB5.out.trans (kA.toBelow HB5.out.size (fun j e => (HH5.out.lt j e).1))
                have ROW8 : HeadsO w8 w2.heap.size (.slice (some ⟨g1, 0, none⟩) (K + 1) c1) (Hs ++ [((⟨hS, hF, hI, hN, hD, rows⟩ : HeadV), Value.slice pv rn cv)]) := by
                  unfold HeadsO
                  rw [flatH_app, List.length_append, HKK.out]
                  exact oA
                refine (within_any (TAB8) w2.heap.size (_) (Hs ++ [(⟨hS, hF, hI, hN, hD, rows⟩, Value.slice pv rn cv)]) (ROW8) (src_shape (SRC8.out)) (by rw [List.length_append, List.length_singleton]; have := HI.out.few; omega)).mono ?_
                rintro e wz ⟨vo, rfl, hOz, hBz⟩
                have HNX := Lib.hid (HoldT.next (TAB8) (HP5.out) (LOW8) hOz hBz (HOL.out) (SRC8.out))
                clear hOz hBz
                go_wp2
                go_roundw
                case rel => exact ⟨i + 1, _, _, _, HLT.out, rfl, by go_num, HNX.out⟩
                case measure => have hlt9 := HLT.out; simp [intOf]; omega
              · obtain ⟨E, hE⟩ : ∃ E, refE gs ⟨hS, hF, hI, hN, hD, rows⟩ n cn = E := ⟨_, rfl⟩
                rw [hE] at he
                refine (put_bad HT4.out ⟨hS, hF, hI, hN, hD, rows⟩ (.slice pv rn cv) HR4.out pb n cb (by omega) E hE he).mono ?_
                rintro e w5 ⟨rfl, hB5⟩
                have HT5 := Lib.hid (HT4.out.below hB5)
                have HB5 := Lib.hid (below_more HB4.out hB5 HB4.out.size)
                have HH5 := Lib.hid (HH4.out.below hB5)
                have HOL := Lib.hid (HI.out.hold.sub HP.out.nod (List.Sublist.refl gs))
                clear hB5 hE
                go_wp2_with fail
                refine (within_any (HT5.out) w2.heap.size (u9) (Hs) (HH5.out) (src_shape (HI.out.src)) (by have := HI.out.few; omega)).mono ?_
                rintro e wz ⟨vo, rfl, hOz, hBz⟩
                have HNX := Lib.hid (HoldT.next (HT5.out) (HI.out.tp) (HB5.out) hOz hBz (HOL.out) (HI.out.src))
                clear hOz hBz
                go_wp2
                go_roundw
                case rel => exact ⟨i + 1, _, _, _, HLT.out, rfl, by go_num, HNX.out⟩
                case measure => have hlt9 := HLT.out; simp [intOf]; omega
        · obtain rfl : i = M := by omega
          clear hlt hi
          go_wp2_with fail
          refine (tframes_any HT.out).mono ?_
          rintro e w5 ⟨vf, rfl, hvf, hB5⟩
          obtain ⟨pf, cf, hvf2, -, hfc⟩ := id hvf
          subst hvf2
          obtain ⟨K, hK⟩ : ∃ K, (framesG gs).length = K := ⟨_, rfl⟩
          have HKL := Lib.hid (show gs.length = K from by rw [← hK]; unfold framesG; rw [List.length_map])
          have HKF := Lib.hid hK
          have hK64 : K ≤ 64 := by rw [← HKL.out]; exact HI.out.few.2
          have hmany : manyG gs ≤ 20000 := by
            have h1 := HI.out.hold.total HP.out.nod
            have h2 := HI.out.few.1
            omega
          rw [hK] at hfc ⊢
          have HFC := Lib.hid hfc
          have HT5 := Lib.hid (HT.out.below hB5)
          have HB5 := Lib.hid (below_more HB.out hB5 HB.out.size)
          have HH5 := Lib.hid (HH.out.below hB5)
          clear hK hfc hvf hB5
          go_wp2
          go_loopw [6, 19, 20] (fun v6 v19 v20 wr => ∃ k : Nat, k ≤ K ∧ v6 = .bool false ∧ v19 = .int .i64 ((manyG (gs.take k) : Nat) : Int) ∧ v20 = .int .i64 (k : Int) ∧ Below w5.heap.size w5 wr) (fun _ _ v20 _ => K - (intOf v20).toNat)
          case atStart => exact ⟨0, Nat.zero_le _, rfl, rfl, rfl, Below.refl _ w5⟩
          case round =>
            obtain ⟨wq, rfl⟩ : ∃ wq, wq = wr := ⟨_, rfl⟩
            obtain ⟨k, hk, rfl, rfl, rfl, hBk⟩ := hrel
            have HBK := Lib.hid hBk
            clear hBk
            by_cases hlk : k < K
            · have HLK := Lib.hid (show k + 1 ≤ K from hlk)
              obtain ⟨fg, fo, e1, hcell⟩ := HFC.out (by omega)
              subst e1
              have hkg : k < gs.length := by rw [HKL.out]; exact hlk
              obtain ⟨G, hG⟩ : ∃ G, gs.getD k default = G := ⟨_, rfl⟩
              have hGm : G ∈ gs := by rw [← hG]; exact getD_mem hkg
              have hck := hcell k hlk
              have hfk : (framesG gs).getD k 0 = G.H.frame := by
                unfold framesG
                rw [← hG, List.getD_eq_getElem?_getD, List.getElem?_map, List.getD_eq_getElem?_getD, List.getElem?_eq_getElem hkg]
                rfl
              rw [hfk] at hck
              have hcw := (HBK.out.cell (p := ⟨fg, fo + k, none⟩) (blt hck)).trans hck
              obtain ⟨G2, hG2m, hG2f, hG2v⟩ := find_at (mem_frames hGm)
              obtain rfl := nod_eq HP.out.nod G2 hG2m G hGm hG2f
              have HFD := Lib.hid (show Calls Try.prog 19 #[.pointer (some ⟨w2.heap.size, 0, none⟩), .int .i64 G2.H.frame] wq fun e w' => e = .returned (.tuple #[.pointer (some ⟨G2.blk, 0, none⟩), .bool true]) ∧ Below wq.heap.size wq w' from by
                have h1 := tfind_any (HT5.out.below HBK.out) G2.H.frame
                rw [hG2v] at h1
                exact h1)
              have HGQ := Lib.hid ((HT5.out.below HBK.out).grp G2 hGm)
              have hmt := manyG_take hkg
              rw [hG] at hmt
              have HMT := Lib.hid hmt
              have hmb := manyG_pre gs (k + 1)
              obtain ⟨T, hT⟩ : ∃ T, manyG (gs.take k) = T := ⟨_, rfl⟩
              obtain ⟨U, hU⟩ : ∃ U, G2.hs.length = U := ⟨_, rfl⟩
              have HU := Lib.hid hU
              have hTU : T + U ≤ 20000 := by rw [← hT, ← hU]; omega
              obtain ⟨fr, hfr⟩ : ∃ f, G2.H.frame = f := ⟨_, rfl⟩
              rw [hT] at HMT ⊢
              rw [hU] at HMT
              rw [hfr] at hcw HFD
              clear hck hcell hfk hmt hmb hT hU hG hGm hkg hG2f hG2v hfr
              go_wp2_with fail
              refine HFD.out.mono ?_
              rintro e w6 ⟨rfl, hB6⟩
              have HG6 := Lib.hid (GrpAt.below HGQ.out hB6)
              have HB6 := Lib.hid (below_more HBK.out hB6 HBK.out.size)
              clear hB6 hcw
              go_wp2_with fail
              refine (gcame_any HG6.out).mono ?_
              rintro e w' ⟨rfl, hww⟩
              obtain rfl : w6 = w' := hww
              rw [HU.out]
              go_wp2
              go_roundw
              case rel => exact ⟨k + 1, HLK.out, rfl, by rw [HMT.out]; go_num, by go_num, HB6.out⟩
              case measure =>
                have hlk9 := HLK.out
                simp [intOf]; omega
            · obtain rfl : k = K := by omega
              have HTN := Lib.hid (show gs.take k = gs from List.take_of_length_le (by rw [HKL.out]; exact Nat.le_refl _))
              rw [HTN.out]
              have HB6 := Lib.hid (below_more HB5.out HBK.out HB5.out.size)
              have HT6 := Lib.hid (HT5.out.below HBK.out)
              have HH6 := Lib.hid (HH5.out.below HBK.out)
              obtain ⟨w6, hw6⟩ : ∃ w6, w6 = wq := ⟨_, rfl⟩
              subst hw6
              obtain ⟨ph, ch, hvh, -⟩ := HH6.out.shape
              obtain ⟨J, hJ⟩ : ∃ J, Hs.length = J := ⟨_, rfl⟩
              have HJ := Lib.hid hJ
              have hJ20 : J ≤ 20000 := by rw [← hJ]; exact HI.out.few.1
              have hJm : manyG gs = J := by rw [← hJ]; exact (HI.out.hold.total HP.out.nod).symm
              rw [hJ] at hvh
              rw [hJm]
              subst hvh
              clear hJ hJm hmany
              go_wp2
              go_loopw [6, 23] (fun v6 v23 wr => ∃ k : Nat, k ≤ J ∧ v6 = .bool false ∧ v23 = .int .i64 (k : Int) ∧ Below w6.heap.size w6 wr) (fun _ v23 _ => J - (intOf v23).toNat)
              case atStart => exact ⟨0, Nat.zero_le _, rfl, rfl, Below.refl _ w6⟩
              case round =>
                obtain ⟨wk, rfl⟩ : ∃ wk, wk = wr := ⟨_, rfl⟩
                obtain ⟨k, hk, rfl, rfl, hBk⟩ := hrel
                have HBK4 := Lib.hid hBk
                clear hBk
                by_cases hlk : k < J
                · have HLJ := Lib.hid (show k + 1 ≤ J from hlk)
                  have hkl : k < Hs.length := by rw [HJ.out]; exact hlk
                  obtain ⟨gg, c', ev, hc⟩ := HH6.out.cell hkl
                  obtain ⟨rfl, -, rfl⟩ := Value.slice.inj ev
                  have hpm : Hs.getD k dH ∈ Hs := by rw [List.getD_eq_getElem?_getD, List.getElem?_eq_getElem hkl]; exact List.getElem_mem _
                  have hps := HI.out.src _ hpm
                  obtain ⟨G, hGm, hGf, hGl, hGi⟩ := HI.out.hold.is_ _ hpm
                  obtain ⟨p, hp⟩ : ∃ p, Hs.getD k dH = p := ⟨_, rfl⟩
                  rw [hp] at hc hps hGf hGl hGi
                  obtain ⟨⟨pS, pF, pI, pN, pD, prow⟩, pvr⟩ := p
                  obtain ⟨pv, cv, hpv⟩ := hps.1.shape
                  dsimp only at hpv hGf hGi hps
                  subst hpv
                  obtain ⟨pn, hpn⟩ : ∃ n, prow.length = n := ⟨_, rfl⟩
                  rw [hpn] at hc hps
                  obtain ⟨G2, hG2m, hG2f, hG2v⟩ := find_at (f := pF) (by rw [← hGf]; exact mem_frames hGm)
                  obtain rfl := nod_eq HP.out.nod G2 hG2m G hGm (hG2f.trans hGf.symm)
                  have HFD := Lib.hid (show Calls Try.prog 19 #[.pointer (some ⟨w2.heap.size, 0, none⟩), .int .i64 pF] wk fun e w' => e = .returned (.tuple #[.pointer (some ⟨G2.blk, 0, none⟩), .bool true]) ∧ Below wk.heap.size wk w' from by
                    have h1 := tfind_any (HT6.out.below HBK4.out) pF
                    rw [hG2v] at h1
                    exact h1)
                  have HCC := Lib.hid hc
                  have HGW := Lib.hid (show ∀ W, Below w6.heap.size w6 W → GDAt W w2.heap.size G2 from fun W h => GrpAt.below (HT6.out.grp G2 hGm) h)
                  have HPR := Lib.hid (And.intro hpn hps)
                  have HHD := Lib.hid (fun W (h : Below w6.heap.size w6 W) => ghead_any (HGW.out W h))
                  have HLKE := Lib.hid (show ∀ W v, Below w6.heap.size w6 W → TableAt W v G2.H.rows → Calls Try.prog 21 #[headVal ⟨pS, pF, pI, pN, pD, prow⟩ (.slice pv pn cv), headVal ⟨G2.H.stream, G2.H.frame, 0, G2.H.n, G2.H.deadline, G2.H.rows⟩ v] W fun e w' => e = .returned (.bool true) ∧ Below W.heap.size W w' from fun W v hW hv => by
                    have h1 := like_any W ⟨pS, pF, pI, pN, pD, prow⟩ ⟨G2.H.stream, G2.H.frame, 0, G2.H.n, G2.H.deadline, G2.H.rows⟩ (.slice pv pn cv) v (HPR.out.2.1.below (below_more HB6.out hW HB6.out.size)) hv (by have h2 := HPR.out.2.2.2; have h3 := HPR.out.1; dsimp only; omega)
                    have h9 : LikeH ⟨pS, pF, pI, pN, pD, prow⟩ ⟨G2.H.stream, G2.H.frame, 0, G2.H.n, G2.H.deadline, G2.H.rows⟩ := hGl
                    rw [decide_eq_true h9] at h1
                    exact h1)
                  have HIX := Lib.hid (fun W (h : Below w6.heap.size w6 W) => gidx_any (HGW.out W h) (by have := GrpAt.few (HGW.out W h); omega))
                  have HHAS := Lib.hid (show ∀ W v, IntsAt W v (G2.hs.map (·.1)) → Calls Try.prog 14 #[v, .int .i64 pI] W fun e w' => e = .returned (.bool true) ∧ w' = W from fun W v hv => by
                    have h1 := lawhas_any W v (G2.hs.map (·.1)) pI hv (by have := GrpAt.few (HT6.out.grp G2 hGm); rw [List.length_map]; omega)
                    rw [decide_eq_true hGi] at h1
                    exact h1)
                  have d1 := (HBK4.out.cell (p := ⟨gg, k * 6 + 1, none⟩) (blt (hc 1 (by omega)))).trans (hc 1 (by omega))
                  simp only [encH, List.getElem?_cons_succ, List.getElem?_cons_zero] at d1
                  clear hc hpm hp hGf hGl hGi hGm hG2f hG2v hpn hps hkl ev
                  go_wp2_with fail
                  refine HFD.out.mono ?_
                  rintro e w7 ⟨rfl, hB7⟩
                  have HB7 := Lib.hid (below_more HBK4.out hB7 HBK4.out.size)
                  have HDK := Lib.hid (below_more HB7.out (balDrew w7) HB7.out.size)
                  clear hB7 d1
                  go_wp2_with fail
                  refine s_start 23 (fun W => Below w6.heap.size w6 W) (by as_aux_lemma => kernel_rfl) (by as_aux_lemma => kernel_rfl) HDK.out ?_
                  refine s_take 0 (by as_aux_lemma => kernel_rfl) (by as_aux_lemma => kernel_rfl) (by as_aux_lemma => kernel_rfl) (by as_aux_lemma => kernel_rfl) HDK.out (fun oi ho => ?_)
                  simp only [List.getElem?_toArray, List.getElem?_cons_succ, List.getElem?_cons_zero, Option.some.injEq] at ho
                  subst ho
                  refine ⟨?_, Or.inl ⟨by rfl, fun w _ => ?_⟩, ?_⟩
                  rotate_left
                  · (go_simp <;> with_reducible rfl)
                  try simp only [Act.put, List.setIfInBounds_toArray, List.set_cons_zero, List.set_cons_succ]
                  refine s_take 1 (by as_aux_lemma => kernel_rfl) (by as_aux_lemma => kernel_rfl) (by as_aux_lemma => kernel_rfl) (by as_aux_lemma => kernel_rfl) HDK.out (fun oi ho => ?_)
                  simp only [List.getElem?_toArray, List.getElem?_cons_succ, List.getElem?_cons_zero, Option.some.injEq] at ho
                  subst ho
                  refine ⟨?_, Or.inl ⟨by rfl, fun w _ => ?_⟩, ?_⟩
                  rotate_left
                  · (go_simp <;> with_reducible rfl)
                  try simp only [Act.put, List.setIfInBounds_toArray, List.set_cons_zero, List.set_cons_succ]
                  refine s_take 2 (by as_aux_lemma => kernel_rfl) (by as_aux_lemma => kernel_rfl) (by as_aux_lemma => kernel_rfl) (by as_aux_lemma => kernel_rfl) HDK.out (fun oi ho => ?_)
                  simp only [List.getElem?_toArray, List.getElem?_cons_succ, List.getElem?_cons_zero, Option.some.injEq] at ho
                  subst ho
                  refine ⟨?_, Or.inl ⟨by rfl, fun w _ => ?_⟩, ?_⟩
                  rotate_left
                  · (go_simp <;> with_reducible rfl)
                  try simp only [Act.put, List.setIfInBounds_toArray, List.set_cons_zero, List.set_cons_succ]
                  refine s_take 3 (by as_aux_lemma => kernel_rfl) (by as_aux_lemma => kernel_rfl) (by as_aux_lemma => kernel_rfl) (by as_aux_lemma => kernel_rfl) HDK.out (fun oi ho => ?_)
                  simp only [List.getElem?_toArray, List.getElem?_cons_succ, List.getElem?_cons_zero, Option.some.injEq] at ho
                  subst ho
                  refine ⟨?_, Or.inl ⟨by rfl, fun w _ => ?_⟩, ?_⟩
                  rotate_left
                  · (go_simp <;> with_reducible rfl)
                  try simp only [Act.put, List.setIfInBounds_toArray, List.set_cons_zero, List.set_cons_succ]
                  refine s_take 4 (by as_aux_lemma => kernel_rfl) (by as_aux_lemma => kernel_rfl) (by as_aux_lemma => kernel_rfl) (by as_aux_lemma => kernel_rfl) HDK.out (fun oi ho => ?_)
                  simp only [List.getElem?_toArray, List.getElem?_cons_succ, List.getElem?_cons_zero, Option.some.injEq] at ho
                  subst ho
                  refine ⟨?_, Or.inl ⟨by rfl, fun w _ => ?_⟩, ?_⟩
                  rotate_left
                  · (go_simp <;> with_reducible rfl)
                  try simp only [Act.put, List.setIfInBounds_toArray, List.set_cons_zero, List.set_cons_succ]
                  refine s_take 5 (by as_aux_lemma => kernel_rfl) (by as_aux_lemma => kernel_rfl) (by as_aux_lemma => kernel_rfl) (by as_aux_lemma => kernel_rfl) HDK.out (fun oi ho => ?_)
                  simp only [List.getElem?_toArray, List.getElem?_cons_succ, List.getElem?_cons_zero, Option.some.injEq] at ho
                  subst ho
                  refine ⟨?_, Or.inl ⟨by rfl, fun w _ => ?_⟩, ?_⟩
                  rotate_left
                  · (go_simp <;> with_reducible rfl)
                  try simp only [Act.put, List.setIfInBounds_toArray, List.set_cons_zero, List.set_cons_succ]
                  refine s_take 6 (by as_aux_lemma => kernel_rfl) (by as_aux_lemma => kernel_rfl) (by as_aux_lemma => kernel_rfl) (by as_aux_lemma => kernel_rfl) HDK.out (fun oi ho => ?_)
                  simp only [List.getElem?_toArray, List.getElem?_cons_succ, List.getElem?_cons_zero, Option.some.injEq] at ho
                  subst ho
                  refine ⟨headVal ⟨pS, pF, pI, pN, pD, prow⟩ (.slice pv pn cv), Or.inl ⟨by rfl, fun w' hS' => ?_⟩, ?_⟩
                  · have z0 := (hS'.cell (p := ⟨gg, k * 6, none⟩) (blt (HCC.out 0 (by omega)))).trans (HCC.out 0 (by omega))
                    have z1 := (hS'.cell (p := ⟨gg, k * 6 + 1, none⟩) (blt (HCC.out 1 (by omega)))).trans (HCC.out 1 (by omega))
                    have z2 := (hS'.cell (p := ⟨gg, k * 6 + 2, none⟩) (blt (HCC.out 2 (by omega)))).trans (HCC.out 2 (by omega))
                    have z3 := (hS'.cell (p := ⟨gg, k * 6 + 3, none⟩) (blt (HCC.out 3 (by omega)))).trans (HCC.out 3 (by omega))
                    have z4 := (hS'.cell (p := ⟨gg, k * 6 + 4, none⟩) (blt (HCC.out 4 (by omega)))).trans (HCC.out 4 (by omega))
                    have z5 := (hS'.cell (p := ⟨gg, k * 6 + 5, none⟩) (blt (HCC.out 5 (by omega)))).trans (HCC.out 5 (by omega))
                    simp only [encH, List.getElem?_cons_succ, List.getElem?_cons_zero] at z0 z1 z2 z3 z4 z5
                    (go_simp <;> with_reducible rfl)
                  try simp only [Act.put, List.setIfInBounds_toArray, List.set_cons_zero, List.set_cons_succ]
                  refine s_take 7 (by as_aux_lemma => kernel_rfl) (by as_aux_lemma => kernel_rfl) (by as_aux_lemma => kernel_rfl) (by as_aux_lemma => kernel_rfl) HDK.out (fun oi ho => ?_)
                  simp only [List.getElem?_toArray, List.getElem?_cons_succ, List.getElem?_cons_zero, Option.some.injEq] at ho
                  subst ho
                  refine ⟨?_, Or.inl ⟨by rfl, fun w _ => ?_⟩, ?_⟩
                  rotate_left
                  · (go_simp <;> with_reducible rfl)
                  try simp only [Act.put, List.setIfInBounds_toArray, List.set_cons_zero, List.set_cons_succ]
                  refine s_all (rs := [8]) (by as_aux_lemma => kernel_rfl) (by simp) ?_
                  refine s_step 8 (by as_aux_lemma => kernel_rfl) (fun o ho K hK => ?_) AllReadyH.nil
                  simp only [List.getElem?_toArray, List.getElem?_cons_succ, List.getElem?_cons_zero, Option.some.injEq] at ho
                  subst ho
                  go_simp
                  refine (HHD.out _ HDK.out).mono ?_
                  rintro e wa0 ⟨va0, rfl, hva0, hBq⟩
                  have HVA0 := Lib.hid hva0
                  have HBwa0 := Lib.hid (below_more HDK.out hBq (HDK.out).size)
                  clear hBq hva0
                  go_wp2_with fail
                  refine hK.out _ _ HBwa0.out ?_
                  clear hK K
                  try simp only [Act.put, List.setIfInBounds_toArray, List.set_cons_zero, List.set_cons_succ]
                  refine s_all (rs := [9]) (by as_aux_lemma => kernel_rfl) (by simp) ?_
                  refine s_step 9 (by as_aux_lemma => kernel_rfl) (fun o ho K hK => ?_) AllReadyH.nil
                  simp only [List.getElem?_toArray, List.getElem?_cons_succ, List.getElem?_cons_zero, Option.some.injEq] at ho
                  subst ho
                  go_simp
                  refine (HLKE.out _ _ HBwa0.out HVA0.out).mono ?_
                  rintro e wb1 ⟨rfl, hBq⟩
                  have HBwb1 := Lib.hid (below_more HBwa0.out hBq (HBwa0.out).size)
                  clear hBq
                  go_wp2_with fail
                  refine hK.out _ _ HBwb1.out ?_
                  clear hK K
                  try simp only [Act.put, List.setIfInBounds_toArray, List.set_cons_zero, List.set_cons_succ]
                  refine s_take 10 (by as_aux_lemma => kernel_rfl) (by as_aux_lemma => kernel_rfl) (by as_aux_lemma => kernel_rfl) (by as_aux_lemma => kernel_rfl) HBwb1.out (fun oi ho => ?_)
                  simp only [List.getElem?_toArray, List.getElem?_cons_succ, List.getElem?_cons_zero, Option.some.injEq] at ho
                  subst ho
                  refine ⟨?_, Or.inl ⟨by rfl, fun w _ => ?_⟩, ?_⟩
                  rotate_left
                  · (go_simp <;> with_reducible rfl)
                  try simp only [Act.put, List.setIfInBounds_toArray, List.set_cons_zero, List.set_cons_succ]
                  refine s_take 11 (by as_aux_lemma => kernel_rfl) (by as_aux_lemma => kernel_rfl) (by as_aux_lemma => kernel_rfl) (by as_aux_lemma => kernel_rfl) HBwb1.out (fun oi ho => ?_)
                  simp only [List.getElem?_toArray, List.getElem?_cons_succ, List.getElem?_cons_zero, Option.some.injEq] at ho
                  subst ho
                  refine ⟨?_, Or.inl ⟨by rfl, fun w _ => ?_⟩, ?_⟩
                  rotate_left
                  · (go_simp <;> with_reducible rfl)
                  try simp only [Act.put, List.setIfInBounds_toArray, List.set_cons_zero, List.set_cons_succ]
                  refine s_take 12 (by as_aux_lemma => kernel_rfl) (by as_aux_lemma => kernel_rfl) (by as_aux_lemma => kernel_rfl) (by as_aux_lemma => kernel_rfl) HBwb1.out (fun oi ho => ?_)
                  simp only [List.getElem?_toArray, List.getElem?_cons_succ, List.getElem?_cons_zero, Option.some.injEq] at ho
                  subst ho
                  refine ⟨?_, Or.inl ⟨by rfl, fun w _ => ?_⟩, ?_⟩
                  rotate_left
                  · (go_simp <;> with_reducible rfl)
                  try simp only [Act.put, List.setIfInBounds_toArray, List.set_cons_zero, List.set_cons_succ]
                  refine s_take 13 (by as_aux_lemma => kernel_rfl) (by as_aux_lemma => kernel_rfl) (by as_aux_lemma => kernel_rfl) (by as_aux_lemma => kernel_rfl) HBwb1.out (fun oi ho => ?_)
                  simp only [List.getElem?_toArray, List.getElem?_cons_succ, List.getElem?_cons_zero, Option.some.injEq] at ho
                  subst ho
                  refine ⟨?_, Or.inl ⟨by rfl, fun w _ => ?_⟩, ?_⟩
                  rotate_left
                  · (go_simp <;> with_reducible rfl)
                  try simp only [Act.put, List.setIfInBounds_toArray, List.set_cons_zero, List.set_cons_succ]
                  refine s_take 15 (by as_aux_lemma => kernel_rfl) (by as_aux_lemma => kernel_rfl) (by as_aux_lemma => kernel_rfl) (by as_aux_lemma => kernel_rfl) HBwb1.out (fun oi ho => ?_)
                  simp only [List.getElem?_toArray, List.getElem?_cons_succ, List.getElem?_cons_zero, Option.some.injEq] at ho
                  subst ho
                  refine ⟨?_, Or.inl ⟨by rfl, fun w _ => ?_⟩, ?_⟩
                  rotate_left
                  · (go_simp <;> with_reducible rfl)
                  try simp only [Act.put, List.setIfInBounds_toArray, List.set_cons_zero, List.set_cons_succ]
                  refine s_take 16 (by as_aux_lemma => kernel_rfl) (by as_aux_lemma => kernel_rfl) (by as_aux_lemma => kernel_rfl) (by as_aux_lemma => kernel_rfl) HBwb1.out (fun oi ho => ?_)
                  simp only [List.getElem?_toArray, List.getElem?_cons_succ, List.getElem?_cons_zero, Option.some.injEq] at ho
                  subst ho
                  refine ⟨?_, Or.inl ⟨by rfl, fun w _ => ?_⟩, ?_⟩
                  rotate_left
                  · (go_simp <;> with_reducible rfl)
                  try simp only [Act.put, List.setIfInBounds_toArray, List.set_cons_zero, List.set_cons_succ]
                  refine s_take 17 (by as_aux_lemma => kernel_rfl) (by as_aux_lemma => kernel_rfl) (by as_aux_lemma => kernel_rfl) (by as_aux_lemma => kernel_rfl) HBwb1.out (fun oi ho => ?_)
                  simp only [List.getElem?_toArray, List.getElem?_cons_succ, List.getElem?_cons_zero, Option.some.injEq] at ho
                  subst ho
                  refine ⟨?_, Or.inl ⟨by rfl, fun w _ => ?_⟩, ?_⟩
                  rotate_left
                  · (go_simp <;> with_reducible rfl)
                  try simp only [Act.put, List.setIfInBounds_toArray, List.set_cons_zero, List.set_cons_succ]
                  refine s_take 18 (by as_aux_lemma => kernel_rfl) (by as_aux_lemma => kernel_rfl) (by as_aux_lemma => kernel_rfl) (by as_aux_lemma => kernel_rfl) HBwb1.out (fun oi ho => ?_)
                  simp only [List.getElem?_toArray, List.getElem?_cons_succ, List.getElem?_cons_zero, Option.some.injEq] at ho
                  subst ho
                  refine ⟨?_, Or.inl ⟨by rfl, fun w _ => ?_⟩, ?_⟩
                  rotate_left
                  · (go_simp <;> with_reducible rfl)
                  try simp only [Act.put, List.setIfInBounds_toArray, List.set_cons_zero, List.set_cons_succ]
                  refine s_take 19 (by as_aux_lemma => kernel_rfl) (by as_aux_lemma => kernel_rfl) (by as_aux_lemma => kernel_rfl) (by as_aux_lemma => kernel_rfl) HBwb1.out (fun oi ho => ?_)
                  simp only [List.getElem?_toArray, List.getElem?_cons_succ, List.getElem?_cons_zero, Option.some.injEq] at ho
                  subst ho
                  refine ⟨.int .i64 pI, Or.inl ⟨by rfl, fun w' hS' => ?_⟩, ?_⟩
                  · have z2 := (hS'.cell (p := ⟨gg, k * 6 + 2, none⟩) (blt (HCC.out 2 (by omega)))).trans (HCC.out 2 (by omega))
                    simp only [encH, List.getElem?_cons_succ, List.getElem?_cons_zero] at z2
                    (go_simp <;> with_reducible rfl)
                  try simp only [Act.put, List.setIfInBounds_toArray, List.set_cons_zero, List.set_cons_succ]
                  refine s_all (rs := [14]) (by as_aux_lemma => kernel_rfl) (by simp) ?_
                  refine s_step 14 (by as_aux_lemma => kernel_rfl) (fun o ho K hK => ?_) AllReadyH.nil
                  simp only [List.getElem?_toArray, List.getElem?_cons_succ, List.getElem?_cons_zero, Option.some.injEq] at ho
                  subst ho
                  go_simp
                  refine (HIX.out _ HBwb1.out).mono ?_
                  rintro e wc2 ⟨vc2, rfl, hvc2, hBq⟩
                  have HVC2 := Lib.hid hvc2
                  have HBwc2 := Lib.hid (below_more HBwb1.out hBq (HBwb1.out).size)
                  clear hBq hvc2
                  go_wp2_with fail
                  refine hK.out _ _ HBwc2.out ?_
                  clear hK K
                  try simp only [Act.put, List.setIfInBounds_toArray, List.set_cons_zero, List.set_cons_succ]
                  refine s_all (rs := [20]) (by as_aux_lemma => kernel_rfl) (by simp) ?_
                  refine s_step 20 (by as_aux_lemma => kernel_rfl) (fun o ho K hK => ?_) AllReadyH.nil
                  simp only [List.getElem?_toArray, List.getElem?_cons_succ, List.getElem?_cons_zero, Option.some.injEq] at ho
                  subst ho
                  go_simp
                  refine (HHAS.out _ _ HVC2.out).mono ?_
                  rintro e wd3 ⟨rfl, rfl⟩
                  have HBZ := HBwc2.out
                  go_wp2_with fail
                  refine hK.out _ _ HBwc2.out ?_
                  clear hK K
                  try simp only [Act.put, List.setIfInBounds_toArray, List.set_cons_zero, List.set_cons_succ]
                  refine s_take 21 (by as_aux_lemma => kernel_rfl) (by as_aux_lemma => kernel_rfl) (by as_aux_lemma => kernel_rfl) (by as_aux_lemma => kernel_rfl) HBwc2.out (fun oi ho => ?_)
                  simp only [List.getElem?_toArray, List.getElem?_cons_succ, List.getElem?_cons_zero, Option.some.injEq] at ho
                  subst ho
                  refine ⟨?_, Or.inl ⟨by rfl, fun w _ => ?_⟩, ?_⟩
                  rotate_left
                  · (go_simp <;> with_reducible rfl)
                  try simp only [Act.put, List.setIfInBounds_toArray, List.set_cons_zero, List.set_cons_succ]
                  refine s_take 22 (by as_aux_lemma => kernel_rfl) (by as_aux_lemma => kernel_rfl) (by as_aux_lemma => kernel_rfl) (by as_aux_lemma => kernel_rfl) HBwc2.out (fun oi ho => ?_)
                  simp only [List.getElem?_toArray, List.getElem?_cons_succ, List.getElem?_cons_zero, Option.some.injEq] at ho
                  subst ho
                  refine ⟨?_, Or.inl ⟨by rfl, fun w _ => ?_⟩, ?_⟩
                  rotate_left
                  · (go_simp <;> with_reducible rfl)
                  try simp only [Act.put, List.setIfInBounds_toArray, List.set_cons_zero, List.set_cons_succ]
                  refine s_done (by as_aux_lemma => kernel_rfl) ?_
                  skip
                  go_wp2
                  go_roundw
                  case rel => exact ⟨k + 1, HLJ.out, rfl, by go_num, HBZ⟩
                  case measure =>
                    have hlk9 := HLJ.out
                    simp [intOf]; omega
                · obtain rfl : k = J := by omega
                  go_wp2
                  go_ret
                  exact ⟨rfl, below_more HB2.out (below_more HB6.out HBK4.out HB6.out.size) HB2.out.size⟩
    · refine (tnew_bad w2 hbd).mono ?_
      rintro e w3 ⟨rfl, rfl⟩
      go_wp2
      go_ret
      exact ⟨rfl, HB2.out⟩
  · have hN2 : (1500 : Int) < (N : Int) := by omega
    go_wp2
    go_ret
    exact ⟨rfl, HB2.out⟩
end Go.Proofs.Ytibelpamolcmcaa
