/-
  TableBounds: the walk.
-/
import Derived.Test.YtibelpamolcmcaaMxbj
import Derived.Test.YtibelpamolcmcaaMxbk
import Derived.Test.YtibelpamolcmcaaMxad
import Derived.Test.YtibelpamolcmcaaMxat
namespace Go.Proofs.Ytibelpamolcmcaa
open Go.RowKit Go.Maps Go.Shelf Go.Sort
set_option linter.unusedVariables false
set_option linter.unusedSimpArgs false
set_option maxRecDepth 100000
set_option maxHeartbeats 8000000

theorem balDrew (w : World) : Below w.heap.size w w.drew := (Kept.refl (fun _ => False) w).drew.toBelow (Nat.le_refl _) (fun _ h => h.elim)
theorem balDrewN (w : World) (q : Nat) : Below w.heap.size w (w.drewN q) := (Kept.refl (fun _ => False) w).drewN q |>.toBelow (Nat.le_refl _) (fun _ h => h.elim)
theorem BytesAt.olt {w : World} {v : Value} {l : List B} (h : BytesAt w v l) (h0 : 0 < l.length) : ∀ k, v.ownBlock = some k → k < w.heap.size := fun k e => by
  obtain ⟨p, c, rfl, hh⟩ := h
  obtain ⟨g, off, rfl, hc⟩ := hh h0
  cases e
  exact blt (hc 0 h0)
theorem TableAt.olt {w : World} {v : Value} {l : List (Int × Int)} (h : TableAt w v l) (h0 : 0 < l.length) : ∀ k, v.ownBlock = some k → k < w.heap.size := fun k e => by
  obtain ⟨p, c, rfl, _, hh⟩ := h
  obtain ⟨g, off, rfl, hc⟩ := hh h0
  cases e
  exact blt (hc 0 h0).1
theorem outs_shape {w : World} {base : Nat} {vo : Value} {os : List GD} (h : OutsAt w base vo os) : ∃ go po co, vo = .slice po os.length co ∧ (0 < os.length → po = some ⟨go, 0, none⟩) ∧ ∀ k, k < os.length → w.cell? ⟨go, k, none⟩ = some (.pointer (some ⟨(os.getD k default).blk, 0, none⟩)) := by
  by_cases h0 : 0 < os.length
  · obtain ⟨g, c, e, -, -, -, hc⟩ := own_row h h0
    refine ⟨g, some ⟨g, 0, none⟩, c, e, fun _ => rfl, fun k hk => ?_⟩
    rw [hc k hk, List.getElem?_map, List.getElem?_eq_getElem hk, List.getD_eq_getElem?_getD, List.getElem?_eq_getElem hk]
    rfl
  · have e0 : os.length = 0 := by omega
    rcases h.2 with ⟨e, _⟩ | ⟨g, cap, cur, e, _⟩
    · exact ⟨0, none, 0, by rw [e, e0], fun h => absurd h h0, fun k hk => by omega⟩
    · exact ⟨0, _, cap, e, fun h => absurd h h0, fun k hk => by omega⟩
theorem tbounds_any (w : World) (gn cn : Int) (vL : Value) (L : List DeedV) (h : DeedsAt w vL L) (hl : L.length ≤ 10000000000000) (hb : ∀ x ∈ L, x.body.length ≤ 140737488355328 ∧ x.head.rows.length ≤ 140737488355328) :
    Calls Try.prog 3 #[.int .i64 gn, .int .i64 cn, vL] w fun e w' => e = .returned (.bool true) ∧ Below w.heap.size w w' := by
  have HV0 := Lib.hid h
  have HBD := Lib.hid hb
  obtain ⟨pL, cL, rfl, -, -⟩ := h
  obtain ⟨M, hM⟩ : ∃ M, L.length = M := ⟨_, rfl⟩
  have HM := Lib.hid hM
  rw [hM] at hl HV0 ⊢
  clear hM hb
  go_enter Try.func3, Try.ntmps3
  go_wp2_with fail
  refine (tawake_any w).mono ?_
  rintro e w1 ⟨rfl, hB1⟩
  have HB1 := Lib.hid hB1
  have HV1 := Lib.hid (HV0.out.below hB1)
  clear hB1
  go_wp2_with fail
  refine (dsize_any w1 _ L HV1.out (by rw [HM.out]; omega) (fun x hx => by have := HBD.out x hx; omega)).mono ?_
  rintro e w2 ⟨N, rfl, hN, q, hq⟩
  have HB12 := Lib.hid (show Below w1.heap.size w1 w2 from by rw [hq]; exact balDrewN w1 q)
  have HB2 := Lib.hid (below_more HB1.out HB12.out HB1.out.size)
  have HV2 := Lib.hid (HV1.out.below HB12.out)
  clear hq
  by_cases hN1 : N ≤ 1500
  · have hs := hN hN1
    have HSZ := Lib.hid (show M ≤ 1500 ∧ ∀ x ∈ L, x.body.length ≤ 1500 ∧ x.head.rows.length ≤ 1500 from ⟨by rw [← HM.out]; omega, fun x hx => by have := sizeD_mem hx; omega⟩)
    have hN2 : ¬ (1500 : Int) < (N : Int) := by omega
    clear hN hs hN1
    go_wp2_with fail
    by_cases hbd : 0 < gn ∧ gn ≤ 64 ∧ 0 < cn ∧ cn ≤ 1048576
    · refine (tnew_ok (base := w2.heap.size) w2 (Nat.le_refl _) hbd.1 hbd.2.1 hbd.2.2.1 hbd.2.2.2).mono ?_
      rintro e w3 ⟨rfl, hT, hB3⟩
      have HT3 := Lib.hid hT
      have HB3 := Lib.hid hB3
      have HP3 := Lib.hid (show TabP gn cn [] from TabP.nil (by omega) hbd.2.1 (by omega) hbd.2.2.2)
      have HBN := Lib.hid hbd
      clear hT hB3 hbd
      go_wp2
      go_loopw [6, 9] (fun v6 v9 wr => ∃ (i : Nat) (v : Value) (gs : List GD), i ≤ M ∧ v6 = .bool false ∧ v9 = .int .i64 (i : Int) ∧ TabS wr w2.heap.size w2.heap.size gn cn v gs ∧ TabP gn cn gs ∧ Below w2.heap.size w2 wr) (fun _ v9 _ => M - (intOf v9).toNat)
      case atStart => exact ⟨0, _, _, Nat.zero_le _, rfl, rfl, HT3.out, HP3.out, HB3.out⟩
      case round =>
        obtain ⟨wo, rfl⟩ : ∃ wo, wo = wr := ⟨_, rfl⟩
        obtain ⟨i, v, gs, hi, rfl, rfl, hT, hP, hB⟩ := hrel
        have HT := Lib.hid hT
        have HP := Lib.hid hP
        have HB := Lib.hid hB
        clear hT hP hB
        have hM15 := HSZ.out.1
        by_cases hlt : i < M
        · have HLT := Lib.hid (show i + 1 ≤ M from hlt)
          have hli : i < L.length := by rw [HM.out]; exact hlt
          obtain ⟨p2, cap2, e2, _, hc2⟩ := HV2.out
          obtain ⟨g, off, e3, hcc⟩ := hc2 (by omega)
          have e5 := (Value.slice.inj e2).1
          subst e5
          subst e3
          obtain ⟨vr, vb, hd0⟩ := hcc i hli
          have hd := hd0.below HB.out
          have hxm : L.getD i default ∈ L := by rw [List.getD_eq_getElem?_getD, List.getElem?_eq_getElem hli]; exact List.getElem_mem _
          have hxs := HSZ.out.2 _ hxm
          obtain ⟨x, hx⟩ : ∃ x, L.getD i default = x := ⟨_, rfl⟩
          have hrl := hd0.rows.olt
          have hbl := hd0.body.olt
          rw [hx] at hd hxs hrl hbl
          obtain ⟨xw, xa, ⟨hS, hF, hI, hN, hD, rows⟩, xl⟩ := x
          obtain ⟨pv, cv, hvr⟩ := hd.rows.shape
          obtain ⟨pb, cb, hvb⟩ := hd.body.shape
          obtain ⟨x0, x1, x2, x3, x4, x5, x6, x7, x8, hrows, hbody⟩ := hd
          subst hvr
          subst hvb
          dsimp only at x0 x1 x2 x3 x4 x5 x6 x7 x8 hrows hbody hxs hrl hbl
          obtain ⟨rn, hrn⟩ : ∃ n, rows.length = n := ⟨_, rfl⟩
          obtain ⟨n, hn⟩ : ∃ n, xl.length = n := ⟨_, rfl⟩
          rw [hrn] at x7 hrows hrl
          rw [hn] at x8 hbody hbl hxs
          have HN1 := Lib.hid hn
          have HRN := Lib.hid hrn
          have hn15 : n ≤ 1500 := hxs.1
          have HA4 := Lib.hid (balT wo (.cells #[.int .i64 xw, .int .i64 xa, .int .i64 hS, .int .i64 hF, .int .i64 hI, .int .i64 hN, .int .i64 hD, .slice pv rn cv, .slice pb n cb] 34))
          have HT4 := Lib.hid (HT.out.below HA4.out)
          have HB4 := Lib.hid (below_more HB.out HA4.out HB.out.size)
          have HR4 := Lib.hid (hrows.below HA4.out)
          have HY4 := Lib.hid (hbody.below HA4.out)
          have HBX4 := Lib.hid (show BoxD (wo.alloc (.cells #[.int .i64 xw, .int .i64 xa, .int .i64 hS, .int .i64 hF, .int .i64 hI, .int .i64 hN, .int .i64 hD, .slice pv rn cv, .slice pb n cb] 34)) wo.heap.size ⟨xw, xa, ⟨hS, hF, hI, hN, hD, rows⟩, xl⟩ (.slice pv rn cv) (.slice pb n cb) from BoxD.made wo ⟨xw, xa, ⟨hS, hF, hI, hN, hD, rows⟩, xl⟩ (.slice pv rn cv) (.slice pb n cb))
          have HRL := Lib.hid (show 0 < rn → ∀ k, (Value.slice pv rn cv).ownBlock = some k → ¬ PutS w2.heap.size v gs k from fun h0 k e h => by have := hrl h0 k e; have := (HT.out.putS h).1; omega)
          have HBL := Lib.hid (show 0 < n → ∀ k, (Value.slice pb n cb).ownBlock = some k → ¬ PutS w2.heap.size v gs k from fun h0 k e h => by have := hbl h0 k e; have := (HT.out.putS h).1; omega)
          have HNB := Lib.hid (show ¬ PutS w2.heap.size v gs wo.heap.size from fun h => by have := (HT.out.putS h).2; omega)
          clear hrows hbody hrl hbl hn hrn hx hxm hxs hd0 hcc hc2 e2 hli
          go_wp2_with fail
          generalize (wo.alloc (.cells #[.int .i64 xw, .int .i64 xa, .int .i64 hS, .int .i64 hF, .int .i64 hI, .int .i64 hN, .int .i64 hD, .slice pv rn cv, .slice pb n cb] 34)) = w4 at *
          generalize wo.heap.size = bx at *
          refine (pick_any w4 xw 8 (by omega) (by omega)).mono ?_
          rintro e w' ⟨⟨p, rfl, hp⟩, rfl⟩
          have b1 := HBX4.out.c1
          dsimp only at b1
          clear x0 x1 x2 x3 x4 x5 x6 x7 x8
          by_cases h6 : 6 ≤ p
          · go_wp2_with fail
            refine (texpire_any HT4.out HB4.out.size xa).mono ?_
            rintro e w5 ⟨vo, v5, rfl, hT5, -, -, -, hK5⟩
            have HT5 := Lib.hid hT5
            have HB5 := Lib.hid (show Below w2.heap.size w2 w5 from HB4.out.trans (hK5.toBelow HB4.out.size fun k h => (HT4.out.rowS h).1))
            have HP5 := Lib.hid (HP.out.sub (List.filter_sublist (p := fun g : GD => !decide (g.H.deadline ≤ xa))))
            clear hT5 hK5 b1
            go_wp2
            go_roundw
            case rel => exact ⟨i + 1, v5, _, HLT.out, rfl, by go_num, HT5.out, HP5.out, HB5.out⟩
            case measure => have hlt9 := HLT.out; simp [intOf]; omega
          · clear b1
            go_wp2_with fail
            refine (tframes_own HT4.out).mono ?_
            rintro e w5 ⟨vf, rfl, hvf, hof, hB5⟩
            obtain ⟨pf, cf, hvf2, -⟩ := id hvf
            subst hvf2
            have HT5 := Lib.hid (HT4.out.below hB5)
            have HB5 := Lib.hid (below_more HB4.out hB5 HB4.out.size)
            have HBX5 := Lib.hid (HBX4.out.below hB5)
            have HF5 := Lib.hid hvf
            have HOF := Lib.hid (show ∀ k, (Value.slice pf (framesG gs).length cf).ownBlock = some k → ¬ PutS w2.heap.size v gs k from fun k e h => by have h1 := (own_lt hof k e).1; have h2 := (HT4.out.putS h).2; omega)
            have HR5 := Lib.hid (HR4.out.below hB5)
            have HY5 := Lib.hid (HY4.out.below hB5)
            clear hvf hof hB5
            obtain ⟨K, hK⟩ : ∃ K, (framesG gs).length = K := ⟨_, rfl⟩
            have HKF := Lib.hid hK
            have HKL := Lib.hid (show gs.length = K from by rw [← hK]; unfold framesG; rw [List.length_map])
            have hKn : (K : Int) ≤ gn := by rw [← HKL.out]; exact HP.out.cnt
            rw [hK] at HF5 HOF ⊢
            clear hK
            have hgn64 : gn ≤ 64 := HBN.out.2.1
            have hcn20 : cn ≤ 1048576 := HBN.out.2.2.2
            go_wp2_with fail
            refine (tbytes_any HT5.out).mono ?_
            rintro e w6 ⟨rfl, hB6⟩
            obtain ⟨T, hT⟩ : ∃ T, totalG gs = T := ⟨_, rfl⟩
            have HTT := Lib.hid hT
            have hTc : (T : Int) ≤ cn := by rw [← hT]; exact HP.out.sum
            rw [hT]
            clear hT
            have HT6 := Lib.hid (HT5.out.below hB6)
            have HB6 := Lib.hid (below_more HB5.out hB6 HB5.out.size)
            have HBX6 := Lib.hid (HBX5.out.below hB6)
            have HF6 := Lib.hid (HF5.out.below hB6)
            have HR6 := Lib.hid (HR5.out.below hB6)
            have HY6 := Lib.hid (HY5.out.below hB6)
            clear hB6
            have y2 := HBX6.out.c2
            have y3 := HBX6.out.c3
            have y4 := HBX6.out.c4
            have y5 := HBX6.out.c5
            have y6 := HBX6.out.c6
            have y7 := HBX6.out.c7
            have y8 := HBX6.out.c8
            dsimp only at y2 y3 y4 y5 y6 y7 y8
            go_wp2_with fail
            by_cases he : refE gs ⟨hS, hF, hI, hN, hD, rows⟩ n cn = 0
            · have hee := refE_zero he
              refine (put_ok HT6.out HP.out HB6.out.size ⟨hS, hF, hI, hN, hD, rows⟩ (.slice pv rn cv) HR6.out pb n cb xl HY6.out (by omega) he HBL.out (HRL.out (by rw [← HRN.out]; exact hee.1.1.2.2.1))).mono ?_
              rintro e w7 ⟨vo, v7, gs', outs, m, rfl, hT7, hR7, hO7, hG7, hK7⟩
              have HT7 := Lib.hid hT7
              have HR7 := Lib.hid hR7
              have HML := Lib.hid hR7.len
              have hm64 : m ≤ 64 := by
                have h1 := hR7.le
                have h2 : (othersG hF gs).length ≤ gs.length := List.length_filter_le _ _
                rw [HKL.out] at h2
                have h3 : m ≤ (othersG hF gs).length := h1
                omega
              have HB7 := Lib.hid (show Below w2.heap.size w2 w7 from HB6.out.trans (hK7.toBelow HB6.out.size fun k h => (HT6.out.putS h).1))
              have HBX7 := Lib.hid (HBX6.out.kept hK7 HNB.out)
              have HF7 := Lib.hid (HF6.out.keptB hK7 HOF.out)
              have HG7 := Lib.hid hG7
              have HP' := Lib.hid (hR7.tabP HP.out (by rw [HN1.out]; exact he))
              have HRM := Lib.hid hR7.room
              obtain ⟨go, po, co, hvo, hpo, hco⟩ := outs_shape hO7
              rw [HML.out] at hvo hpo hco
              subst hvo
              have HPO := Lib.hid hpo
              have HCO7 := Lib.hid hco
              clear hT7 hR7 hO7 hG7 hK7 hpo hco y2 y3 y4 y5 y6 y7 y8 hee he
              go_wp2_with fail
              refine (tframes_own HT7.out).mono ?_
              rintro e w8 ⟨vf2, rfl, hvf, -, hB8⟩
              obtain ⟨pf2, cf2, hvf2, -⟩ := id hvf
              subst hvf2
              obtain ⟨K', hK'⟩ : ∃ K, (framesG gs').length = K := ⟨_, rfl⟩
              have HK' := Lib.hid hK'
              have hKn' : (K' : Int) ≤ gn := by rw [← hK']; unfold framesG; rw [List.length_map]; exact HP'.out.cnt
              have HT8 := Lib.hid (HT7.out.below hB8)
              have HB8 := Lib.hid (below_more HB7.out hB8 HB7.out.size)
              have HBX8 := Lib.hid (HBX7.out.below hB8)
              have HF8 := Lib.hid (HF7.out.below hB8)
              have HF8n := Lib.hid hvf
              have HCO8 := Lib.hid (show ∀ k, k < m → w8.cell? ⟨go, k, none⟩ = some (.pointer (some ⟨(outs.getD k default).blk, 0, none⟩)) from fun k hk => (hB8.cell (p := ⟨go, k, none⟩) (blt (HCO7.out k hk))).trans (HCO7.out k hk))
              have HG8 := Lib.hid (show ∀ g ∈ outs, GDAt w8 w2.heap.size g from fun g hg => GrpAt.below (HG7.out g hg) hB8)
              rw [hK'] at HF8n ⊢
              clear hK' hvf hB8
              go_wp2_with fail
              refine (tbytes_any HT8.out).mono ?_
              rintro e w9 ⟨rfl, hB9⟩
              obtain ⟨T', hT'⟩ : ∃ T, totalG gs' = T := ⟨_, rfl⟩
              have hTc' : (T' : Int) ≤ cn := by rw [← hT']; exact HP'.out.sum
              rw [hT']
              clear hT'
              have HT9 := Lib.hid (HT8.out.below hB9)
              have HB9 := Lib.hid (below_more HB8.out hB9 HB8.out.size)
              have HBX9 := Lib.hid (HBX8.out.below hB9)
              have HF9 := Lib.hid (HF8.out.below hB9)
              have HF9n := Lib.hid (HF8n.out.below hB9)
              have HCO := Lib.hid (show ∀ k, k < m → w9.cell? ⟨go, k, none⟩ = some (.pointer (some ⟨(outs.getD k default).blk, 0, none⟩)) from fun k hk => (hB9.cell (p := ⟨go, k, none⟩) (blt (HCO8.out k hk))).trans (HCO8.out k hk))
              have HGO := Lib.hid (show ∀ g ∈ outs, GDAt w9 w2.heap.size g from fun g hg => GrpAt.below (HG8.out g hg) hB9)
              have HGN := Lib.hid (show ∀ k, k < m → (outs.getD k default).H.frame ≠ hF ∧ (outs.getD k default).H.frame ∉ framesG gs' from fun k hk => HR7.out.gone HP.out.nod hk)
              have HHAS2 := Lib.hid (by
                have h1 := lawhas_any w9 _ (framesG gs') hF HF9n.out (by rw [HK'.out]; omega)
                rw [decide_eq_true ((HR7.out.frames hF).2 (.inl rfl))] at h1
                exact h1)
              have HCRD := Lib.hid (crowded_any w9 _ _ (framesG gs) (framesG gs') HF9.out HF9n.out (by rw [HKF.out]; omega) (by rw [HK'.out]; omega) hF m (by
                have h1 := HR7.out.le
                have h2 : (butN hF (framesG gs)).length = (othersG hF gs).length := by rw [butN_frames]; unfold framesG; rw [List.length_map]
                rw [h2]
                exact h1) (fun j hj => HR7.out.crowd HP.out.nod j hj))
              have HWAS := Lib.hid (lawhas_any w9 _ (framesG gs) hF HF9.out (by rw [HKF.out]; omega))
              clear hB9
              have y3 := HBX9.out.c3
              have y8 := HBX9.out.c8
              dsimp only at y3 y8
              have hroom := HRM.out
              rw [HTT.out, HN1.out, HKL.out] at hroom
              by_cases c1 : (T : Int) + (n : Int) ≤ cn
              · by_cases c2 : hF ∈ framesG gs
                · have hm0 : ((m : Int) == 0) = true := by rw [beq_iff_eq]; have := hroom.2 ⟨c1, .inl c2⟩; omega
                  have HW2 := Lib.hid HWAS.out
                  rw [decide_eq_true c2] at HW2
                  clear hroom
                  go_wp2_with fail
                  refine HW2.out.mono ?_
                  rintro e w' ⟨rfl, hww⟩
                  obtain rfl : w9 = w' := hww.symm
                  go_wp2_with fail
                  refine (HHAS2.out).mono ?_
                  rintro e w' ⟨rfl, hww⟩
                  obtain rfl : w9 = w' := hww.symm
                  go_wp2_with fail
                  refine (HCRD.out).mono ?_
                  rintro e w' ⟨rfl, hww⟩
                  obtain rfl : w9 = w' := hww.symm
                  go_wp2
                  go_loopw [6, 17] (fun v6 v17 wr => ∃ k : Nat, k ≤ m ∧ v6 = .bool false ∧ v17 = .int .i64 (k : Int) ∧ Below w9.heap.size w9 wr) (fun _ v17 _ => m - (intOf v17).toNat)
                  case atStart => exact ⟨0, Nat.zero_le _, rfl, rfl, Below.refl _ w9⟩
                  case round =>
                    obtain ⟨k, hk, rfl, rfl, hBk⟩ := hrel
                    have HBK := Lib.hid hBk
                    clear hBk
                    by_cases hlt : k < m
                    · have HDK := Lib.hid (below_more HBK.out (balDrew wr) HBK.out.size)
                      have HLK := Lib.hid (show k + 1 ≤ m from hlt)
                      have hpo := HPO.out (by omega)
                      subst hpo
                      have hck := HCO.out k hlt
                      have hok : k < outs.length := by rw [HML.out]; exact hlt
                      obtain ⟨gk, hgk⟩ : ∃ g, outs.getD k default = g := ⟨_, rfl⟩
                      have hgm : GDAt w9 w2.heap.size gk := HGO.out gk (by rw [← hgk]; exact getD_mem hok)
                      have hgn := HGN.out k hlt
                      rw [hgk] at hck hgn
                      have HCK := Lib.hid hck
                      have HGK := Lib.hid (show ∀ W, Below w9.heap.size w9 W → GDAt W w2.heap.size gk from fun W h => GrpAt.below hgm h)
                      have HHD := Lib.hid (fun W (h : Below w9.heap.size w9 W) => ghead_any (HGK.out W h))
                      have HHAS := Lib.hid (show ∀ W, Below w9.heap.size w9 W → Calls Try.prog 14 #[.slice pf2 K' cf2, .int .i64 gk.H.frame] W fun e w' => e = .returned (.bool false) ∧ w' = W from fun W h => by
                        have h1 := lawhas_any W _ (framesG gs') gk.H.frame (HF9n.out.below h) (by rw [HK'.out]; omega)
                        rw [decide_eq_false hgn.2] at h1
                        exact h1)
                      have hfr : (gk.H.frame == hF) = false := by simpa using hgn.1
                      clear hck hok hgk hgm hgn
                      go_wp2_with fail
                      refine s_start 20 (fun W => Below w9.heap.size w9 W) (by as_aux_lemma => kernel_rfl) (by as_aux_lemma => kernel_rfl) HDK.out ?_
                      refine s_take 0 (by as_aux_lemma => kernel_rfl) (by as_aux_lemma => kernel_rfl) (by as_aux_lemma => kernel_rfl) (by as_aux_lemma => kernel_rfl) HDK.out (fun oi ho => ?_)
                      simp only [List.getElem?_toArray, List.getElem?_cons_succ, List.getElem?_cons_zero, Option.some.injEq] at ho
                      subst ho
                      refine ⟨?_, Or.inl ⟨by rfl, fun w _ => ?_⟩, ?_⟩
                      rotate_left
                      · (go_simp <;> with_reducible rfl)
                      try simp only [Act.put, List.setIfInBounds_toArray, List.set_cons_zero, List.set_cons_succ]
                      refine s_take 1 (by as_aux_lemma => kernel_rfl) (by as_aux_lemma => kernel_rfl) (by as_aux_lemma => kernel_rfl) (by as_aux_lemma => kernel_rfl) HDK.out (fun oi ho => ?_)
                      simp only [List.getElem?_toArray, List.getElem?_cons_succ, List.getElem?_cons_zero, Option.some.injEq] at ho
                      subst ho
                      refine ⟨?_, Or.inl ⟨by rfl, fun w _ => ?_⟩, ?_⟩
                      rotate_left
                      · (go_simp <;> with_reducible rfl)
                      try simp only [Act.put, List.setIfInBounds_toArray, List.set_cons_zero, List.set_cons_succ]
                      refine s_take 2 (by as_aux_lemma => kernel_rfl) (by as_aux_lemma => kernel_rfl) (by as_aux_lemma => kernel_rfl) (by as_aux_lemma => kernel_rfl) HDK.out (fun oi ho => ?_)
                      simp only [List.getElem?_toArray, List.getElem?_cons_succ, List.getElem?_cons_zero, Option.some.injEq] at ho
                      subst ho
                      refine ⟨?_, Or.inl ⟨by rfl, fun w _ => ?_⟩, ?_⟩
                      rotate_left
                      · (go_simp <;> with_reducible rfl)
                      try simp only [Act.put, List.setIfInBounds_toArray, List.set_cons_zero, List.set_cons_succ]
                      refine s_take 3 (by as_aux_lemma => kernel_rfl) (by as_aux_lemma => kernel_rfl) (by as_aux_lemma => kernel_rfl) (by as_aux_lemma => kernel_rfl) HDK.out (fun oi ho => ?_)
                      simp only [List.getElem?_toArray, List.getElem?_cons_succ, List.getElem?_cons_zero, Option.some.injEq] at ho
                      subst ho
                      refine ⟨.pointer (some ⟨gk.blk, 0, none⟩), Or.inl ⟨by rfl, fun w' hS' => ?_⟩, ?_⟩
                      · have z := (hS'.cell (p := ⟨go, k, none⟩) (blt HCK.out)).trans HCK.out
                        (go_simp <;> with_reducible rfl)
                      try simp only [Act.put, List.setIfInBounds_toArray, List.set_cons_zero, List.set_cons_succ]
                      refine s_take 6 (by as_aux_lemma => kernel_rfl) (by as_aux_lemma => kernel_rfl) (by as_aux_lemma => kernel_rfl) (by as_aux_lemma => kernel_rfl) HDK.out (fun oi ho => ?_)
                      simp only [List.getElem?_toArray, List.getElem?_cons_succ, List.getElem?_cons_zero, Option.some.injEq] at ho
                      subst ho
                      refine ⟨?_, Or.inl ⟨by rfl, fun w _ => ?_⟩, ?_⟩
                      rotate_left
                      · (go_simp <;> with_reducible rfl)
                      try simp only [Act.put, List.setIfInBounds_toArray, List.set_cons_zero, List.set_cons_succ]
                      refine s_take 7 (by as_aux_lemma => kernel_rfl) (by as_aux_lemma => kernel_rfl) (by as_aux_lemma => kernel_rfl) (by as_aux_lemma => kernel_rfl) HDK.out (fun oi ho => ?_)
                      simp only [List.getElem?_toArray, List.getElem?_cons_succ, List.getElem?_cons_zero, Option.some.injEq] at ho
                      subst ho
                      refine ⟨?_, Or.inl ⟨by rfl, fun w _ => ?_⟩, ?_⟩
                      rotate_left
                      · (go_simp <;> with_reducible rfl)
                      try simp only [Act.put, List.setIfInBounds_toArray, List.set_cons_zero, List.set_cons_succ]
                      refine s_take 8 (by as_aux_lemma => kernel_rfl) (by as_aux_lemma => kernel_rfl) (by as_aux_lemma => kernel_rfl) (by as_aux_lemma => kernel_rfl) HDK.out (fun oi ho => ?_)
                      simp only [List.getElem?_toArray, List.getElem?_cons_succ, List.getElem?_cons_zero, Option.some.injEq] at ho
                      subst ho
                      refine ⟨.int .i64 hF, Or.inl ⟨by rfl, fun w' hS' => ?_⟩, ?_⟩
                      · have z := (hS'.cell (p := ⟨bx, 3, none⟩) HBX9.out.lt).trans HBX9.out.c3
                        (go_simp <;> with_reducible rfl)
                      try simp only [Act.put, List.setIfInBounds_toArray, List.set_cons_zero, List.set_cons_succ]
                      refine s_all (rs := [4]) (by as_aux_lemma => kernel_rfl) (by simp) ?_
                      refine s_step 4 (by as_aux_lemma => kernel_rfl) (fun o ho K hK => ?_) AllReadyH.nil
                      simp only [List.getElem?_toArray, List.getElem?_cons_succ, List.getElem?_cons_zero, Option.some.injEq] at ho
                      subst ho
                      go_simp
                      refine (HHD.out _ HDK.out).mono ?_
                      rintro e wa0 ⟨va0, rfl, -, hBa⟩
                      have HBa0 := Lib.hid (below_more HDK.out hBa (HDK.out).size)
                      clear hBa
                      go_wp2_with fail
                      refine hK.out _ _ HBa0.out ?_
                      clear hK K
                      try simp only [Act.put, List.setIfInBounds_toArray, List.set_cons_zero, List.set_cons_succ]
                      refine s_take 5 (by as_aux_lemma => kernel_rfl) (by as_aux_lemma => kernel_rfl) (by as_aux_lemma => kernel_rfl) (by as_aux_lemma => kernel_rfl) HBa0.out (fun oi ho => ?_)
                      simp only [List.getElem?_toArray, List.getElem?_cons_succ, List.getElem?_cons_zero, Option.some.injEq] at ho
                      subst ho
                      refine ⟨.int .i64 gk.H.frame, Or.inl ⟨by rfl, fun w' hS' => ?_⟩, ?_⟩
                      · (go_simp <;> (rw [head_f1]; rfl))
                      try simp only [Act.put, List.setIfInBounds_toArray, List.set_cons_zero, List.set_cons_succ]
                      refine s_take 9 (by as_aux_lemma => kernel_rfl) (by as_aux_lemma => kernel_rfl) (by as_aux_lemma => kernel_rfl) (by as_aux_lemma => kernel_rfl) HBa0.out (fun oi ho => ?_)
                      simp only [List.getElem?_toArray, List.getElem?_cons_succ, List.getElem?_cons_zero, Option.some.injEq] at ho
                      subst ho
                      refine ⟨?_, Or.inl ⟨by rfl, fun w _ => ?_⟩, ?_⟩
                      rotate_left
                      · (go_simp <;> with_reducible rfl)
                      try simp only [Act.put, List.setIfInBounds_toArray, List.set_cons_zero, List.set_cons_succ]
                      refine s_take 10 (by as_aux_lemma => kernel_rfl) (by as_aux_lemma => kernel_rfl) (by as_aux_lemma => kernel_rfl) (by as_aux_lemma => kernel_rfl) HBa0.out (fun oi ho => ?_)
                      simp only [List.getElem?_toArray, List.getElem?_cons_succ, List.getElem?_cons_zero, Option.some.injEq] at ho
                      subst ho
                      refine ⟨?_, Or.inl ⟨by rfl, fun w _ => ?_⟩, ?_⟩
                      rotate_left
                      · (go_simp <;> with_reducible rfl)
                      try simp only [Act.put, List.setIfInBounds_toArray, List.set_cons_zero, List.set_cons_succ]
                      refine s_take 11 (by as_aux_lemma => kernel_rfl) (by as_aux_lemma => kernel_rfl) (by as_aux_lemma => kernel_rfl) (by as_aux_lemma => kernel_rfl) HBa0.out (fun oi ho => ?_)
                      simp only [List.getElem?_toArray, List.getElem?_cons_succ, List.getElem?_cons_zero, Option.some.injEq] at ho
                      subst ho
                      refine ⟨?_, Or.inl ⟨by rfl, fun w _ => ?_⟩, ?_⟩
                      rotate_left
                      · (go_simp <;> with_reducible rfl)
                      try simp only [Act.put, List.setIfInBounds_toArray, List.set_cons_zero, List.set_cons_succ]
                      refine s_take 12 (by as_aux_lemma => kernel_rfl) (by as_aux_lemma => kernel_rfl) (by as_aux_lemma => kernel_rfl) (by as_aux_lemma => kernel_rfl) HBa0.out (fun oi ho => ?_)
                      simp only [List.getElem?_toArray, List.getElem?_cons_succ, List.getElem?_cons_zero, Option.some.injEq] at ho
                      subst ho
                      refine ⟨?_, Or.inl ⟨by rfl, fun w _ => ?_⟩, ?_⟩
                      rotate_left
                      · (go_simp <;> with_reducible rfl)
                      try simp only [Act.put, List.setIfInBounds_toArray, List.set_cons_zero, List.set_cons_succ]
                      refine s_take 13 (by as_aux_lemma => kernel_rfl) (by as_aux_lemma => kernel_rfl) (by as_aux_lemma => kernel_rfl) (by as_aux_lemma => kernel_rfl) HBa0.out (fun oi ho => ?_)
                      simp only [List.getElem?_toArray, List.getElem?_cons_succ, List.getElem?_cons_zero, Option.some.injEq] at ho
                      subst ho
                      refine ⟨?_, Or.inl ⟨by rfl, fun w _ => ?_⟩, ?_⟩
                      rotate_left
                      · (go_simp <;> with_reducible rfl)
                      try simp only [Act.put, List.setIfInBounds_toArray, List.set_cons_zero, List.set_cons_succ]
                      refine s_take 14 (by as_aux_lemma => kernel_rfl) (by as_aux_lemma => kernel_rfl) (by as_aux_lemma => kernel_rfl) (by as_aux_lemma => kernel_rfl) HBa0.out (fun oi ho => ?_)
                      simp only [List.getElem?_toArray, List.getElem?_cons_succ, List.getElem?_cons_zero, Option.some.injEq] at ho
                      subst ho
                      refine ⟨?_, Or.inl ⟨by rfl, fun w _ => ?_⟩, ?_⟩
                      rotate_left
                      · (go_simp <;> with_reducible rfl)
                      try simp only [Act.put, List.setIfInBounds_toArray, List.set_cons_zero, List.set_cons_succ]
                      refine s_take 15 (by as_aux_lemma => kernel_rfl) (by as_aux_lemma => kernel_rfl) (by as_aux_lemma => kernel_rfl) (by as_aux_lemma => kernel_rfl) HBa0.out (fun oi ho => ?_)
                      simp only [List.getElem?_toArray, List.getElem?_cons_succ, List.getElem?_cons_zero, Option.some.injEq] at ho
                      subst ho
                      refine ⟨.pointer (some ⟨gk.blk, 0, none⟩), Or.inl ⟨by rfl, fun w' hS' => ?_⟩, ?_⟩
                      · have z := (hS'.cell (p := ⟨go, k, none⟩) (blt HCK.out)).trans HCK.out
                        (go_simp <;> with_reducible rfl)
                      try simp only [Act.put, List.setIfInBounds_toArray, List.set_cons_zero, List.set_cons_succ]
                      refine s_all (rs := [16]) (by as_aux_lemma => kernel_rfl) (by simp) ?_
                      refine s_step 16 (by as_aux_lemma => kernel_rfl) (fun o ho K hK => ?_) AllReadyH.nil
                      simp only [List.getElem?_toArray, List.getElem?_cons_succ, List.getElem?_cons_zero, Option.some.injEq] at ho
                      subst ho
                      go_simp
                      refine (HHD.out _ HBa0.out).mono ?_
                      rintro e wb1 ⟨vb1, rfl, -, hBb⟩
                      have HBb1 := Lib.hid (below_more HBa0.out hBb (HBa0.out).size)
                      clear hBb
                      go_wp2_with fail
                      refine hK.out _ _ HBb1.out ?_
                      clear hK K
                      try simp only [Act.put, List.setIfInBounds_toArray, List.set_cons_zero, List.set_cons_succ]
                      refine s_take 17 (by as_aux_lemma => kernel_rfl) (by as_aux_lemma => kernel_rfl) (by as_aux_lemma => kernel_rfl) (by as_aux_lemma => kernel_rfl) HBb1.out (fun oi ho => ?_)
                      simp only [List.getElem?_toArray, List.getElem?_cons_succ, List.getElem?_cons_zero, Option.some.injEq] at ho
                      subst ho
                      refine ⟨.int .i64 gk.H.frame, Or.inl ⟨by rfl, fun w' hS' => ?_⟩, ?_⟩
                      · (go_simp <;> (rw [head_f1]; rfl))
                      try simp only [Act.put, List.setIfInBounds_toArray, List.set_cons_zero, List.set_cons_succ]
                      refine s_all (rs := [18]) (by as_aux_lemma => kernel_rfl) (by simp) ?_
                      refine s_step 18 (by as_aux_lemma => kernel_rfl) (fun o ho K hK => ?_) AllReadyH.nil
                      simp only [List.getElem?_toArray, List.getElem?_cons_succ, List.getElem?_cons_zero, Option.some.injEq] at ho
                      subst ho
                      go_simp
                      refine (HHAS.out _ HBb1.out).mono ?_
                      rintro e wc2 ⟨rfl, rfl⟩
                      have HBZ := HBb1.out
                      go_wp2_with fail
                      refine hK.out _ _ HBb1.out ?_
                      clear hK K
                      try simp only [Act.put, List.setIfInBounds_toArray, List.set_cons_zero, List.set_cons_succ]
                      refine s_take 19 (by as_aux_lemma => kernel_rfl) (by as_aux_lemma => kernel_rfl) (by as_aux_lemma => kernel_rfl) (by as_aux_lemma => kernel_rfl) HBb1.out (fun oi ho => ?_)
                      simp only [List.getElem?_toArray, List.getElem?_cons_succ, List.getElem?_cons_zero, Option.some.injEq] at ho
                      subst ho
                      refine ⟨?_, Or.inl ⟨by rfl, fun w _ => ?_⟩, ?_⟩
                      rotate_left
                      · (go_simp <;> with_reducible rfl)
                      try simp only [Act.put, List.setIfInBounds_toArray, List.set_cons_zero, List.set_cons_succ]
                      refine s_done (by as_aux_lemma => kernel_rfl) ?_
                      skip
                      go_wp2
                      go_roundw
                      case rel => exact ⟨k + 1, HLK.out, rfl, by go_num, HBZ⟩
                      case measure =>
                        have hlk9 := HLK.out
                        simp [intOf]; omega
                    · obtain rfl : k = m := by omega
                      go_wp2
                      go_roundw
                      case rel => exact ⟨i + 1, v7, gs', HLT.out, rfl, by go_num, (HT9.out.below HBK.out), HP'.out, (below_more HB9.out HBK.out HB9.out.size)⟩
                      case measure => have hlt9 := HLT.out; simp [intOf]; omega
                · have HW2 := Lib.hid HWAS.out
                  rw [decide_eq_false c2] at HW2
                  by_cases c3 : (K : Int) < gn
                  · have hm0 : ((m : Int) == 0) = true := by rw [beq_iff_eq]; have := hroom.2 ⟨c1, .inr c3⟩; omega
                    clear hroom
                    go_wp2_with fail
                    refine HW2.out.mono ?_
                    rintro e w' ⟨rfl, hww⟩
                    obtain rfl : w9 = w' := hww.symm
                    go_wp2_with fail
                    refine (HHAS2.out).mono ?_
                    rintro e w' ⟨rfl, hww⟩
                    obtain rfl : w9 = w' := hww.symm
                    go_wp2_with fail
                    refine (HCRD.out).mono ?_
                    rintro e w' ⟨rfl, hww⟩
                    obtain rfl : w9 = w' := hww.symm
                    go_wp2
                    go_loopw [6, 17] (fun v6 v17 wr => ∃ k : Nat, k ≤ m ∧ v6 = .bool false ∧ v17 = .int .i64 (k : Int) ∧ Below w9.heap.size w9 wr) (fun _ v17 _ => m - (intOf v17).toNat)
                    case atStart => exact ⟨0, Nat.zero_le _, rfl, rfl, Below.refl _ w9⟩
                    case round =>
                      obtain ⟨k, hk, rfl, rfl, hBk⟩ := hrel
                      have HBK := Lib.hid hBk
                      clear hBk
                      by_cases hlt : k < m
                      · have HDK := Lib.hid (below_more HBK.out (balDrew wr) HBK.out.size)
                        have HLK := Lib.hid (show k + 1 ≤ m from hlt)
                        have hpo := HPO.out (by omega)
                        subst hpo
                        have hck := HCO.out k hlt
                        have hok : k < outs.length := by rw [HML.out]; exact hlt
                        obtain ⟨gk, hgk⟩ : ∃ g, outs.getD k default = g := ⟨_, rfl⟩
                        have hgm : GDAt w9 w2.heap.size gk := HGO.out gk (by rw [← hgk]; exact getD_mem hok)
                        have hgn := HGN.out k hlt
                        rw [hgk] at hck hgn
                        have HCK := Lib.hid hck
                        have HGK := Lib.hid (show ∀ W, Below w9.heap.size w9 W → GDAt W w2.heap.size gk from fun W h => GrpAt.below hgm h)
                        have HHD := Lib.hid (fun W (h : Below w9.heap.size w9 W) => ghead_any (HGK.out W h))
                        have HHAS := Lib.hid (show ∀ W, Below w9.heap.size w9 W → Calls Try.prog 14 #[.slice pf2 K' cf2, .int .i64 gk.H.frame] W fun e w' => e = .returned (.bool false) ∧ w' = W from fun W h => by
                          have h1 := lawhas_any W _ (framesG gs') gk.H.frame (HF9n.out.below h) (by rw [HK'.out]; omega)
                          rw [decide_eq_false hgn.2] at h1
                          exact h1)
                        have hfr : (gk.H.frame == hF) = false := by simpa using hgn.1
                        clear hck hok hgk hgm hgn
                        go_wp2_with fail
                        refine s_start 20 (fun W => Below w9.heap.size w9 W) (by as_aux_lemma => kernel_rfl) (by as_aux_lemma => kernel_rfl) HDK.out ?_
                        refine s_take 0 (by as_aux_lemma => kernel_rfl) (by as_aux_lemma => kernel_rfl) (by as_aux_lemma => kernel_rfl) (by as_aux_lemma => kernel_rfl) HDK.out (fun oi ho => ?_)
                        simp only [List.getElem?_toArray, List.getElem?_cons_succ, List.getElem?_cons_zero, Option.some.injEq] at ho
                        subst ho
                        refine ⟨?_, Or.inl ⟨by rfl, fun w _ => ?_⟩, ?_⟩
                        rotate_left
                        · (go_simp <;> with_reducible rfl)
                        try simp only [Act.put, List.setIfInBounds_toArray, List.set_cons_zero, List.set_cons_succ]
                        refine s_take 1 (by as_aux_lemma => kernel_rfl) (by as_aux_lemma => kernel_rfl) (by as_aux_lemma => kernel_rfl) (by as_aux_lemma => kernel_rfl) HDK.out (fun oi ho => ?_)
                        simp only [List.getElem?_toArray, List.getElem?_cons_succ, List.getElem?_cons_zero, Option.some.injEq] at ho
                        subst ho
                        refine ⟨?_, Or.inl ⟨by rfl, fun w _ => ?_⟩, ?_⟩
                        rotate_left
                        · (go_simp <;> with_reducible rfl)
                        try simp only [Act.put, List.setIfInBounds_toArray, List.set_cons_zero, List.set_cons_succ]
                        refine s_take 2 (by as_aux_lemma => kernel_rfl) (by as_aux_lemma => kernel_rfl) (by as_aux_lemma => kernel_rfl) (by as_aux_lemma => kernel_rfl) HDK.out (fun oi ho => ?_)
                        simp only [List.getElem?_toArray, List.getElem?_cons_succ, List.getElem?_cons_zero, Option.some.injEq] at ho
                        subst ho
                        refine ⟨?_, Or.inl ⟨by rfl, fun w _ => ?_⟩, ?_⟩
                        rotate_left
                        · (go_simp <;> with_reducible rfl)
                        try simp only [Act.put, List.setIfInBounds_toArray, List.set_cons_zero, List.set_cons_succ]
                        refine s_take 3 (by as_aux_lemma => kernel_rfl) (by as_aux_lemma => kernel_rfl) (by as_aux_lemma => kernel_rfl) (by as_aux_lemma => kernel_rfl) HDK.out (fun oi ho => ?_)
                        simp only [List.getElem?_toArray, List.getElem?_cons_succ, List.getElem?_cons_zero, Option.some.injEq] at ho
                        subst ho
                        refine ⟨.pointer (some ⟨gk.blk, 0, none⟩), Or.inl ⟨by rfl, fun w' hS' => ?_⟩, ?_⟩
                        · have z := (hS'.cell (p := ⟨go, k, none⟩) (blt HCK.out)).trans HCK.out
                          (go_simp <;> with_reducible rfl)
                        try simp only [Act.put, List.setIfInBounds_toArray, List.set_cons_zero, List.set_cons_succ]
                        refine s_take 6 (by as_aux_lemma => kernel_rfl) (by as_aux_lemma => kernel_rfl) (by as_aux_lemma => kernel_rfl) (by as_aux_lemma => kernel_rfl) HDK.out (fun oi ho => ?_)
                        simp only [List.getElem?_toArray, List.getElem?_cons_succ, List.getElem?_cons_zero, Option.some.injEq] at ho
                        subst ho
                        refine ⟨?_, Or.inl ⟨by rfl, fun w _ => ?_⟩, ?_⟩
                        rotate_left
                        · (go_simp <;> with_reducible rfl)
                        try simp only [Act.put, List.setIfInBounds_toArray, List.set_cons_zero, List.set_cons_succ]
                        refine s_take 7 (by as_aux_lemma => kernel_rfl) (by as_aux_lemma => kernel_rfl) (by as_aux_lemma => kernel_rfl) (by as_aux_lemma => kernel_rfl) HDK.out (fun oi ho => ?_)
                        simp only [List.getElem?_toArray, List.getElem?_cons_succ, List.getElem?_cons_zero, Option.some.injEq] at ho
                        subst ho
                        refine ⟨?_, Or.inl ⟨by rfl, fun w _ => ?_⟩, ?_⟩
                        rotate_left
                        · (go_simp <;> with_reducible rfl)
                        try simp only [Act.put, List.setIfInBounds_toArray, List.set_cons_zero, List.set_cons_succ]
                        refine s_take 8 (by as_aux_lemma => kernel_rfl) (by as_aux_lemma => kernel_rfl) (by as_aux_lemma => kernel_rfl) (by as_aux_lemma => kernel_rfl) HDK.out (fun oi ho => ?_)
                        simp only [List.getElem?_toArray, List.getElem?_cons_succ, List.getElem?_cons_zero, Option.some.injEq] at ho
                        subst ho
                        refine ⟨.int .i64 hF, Or.inl ⟨by rfl, fun w' hS' => ?_⟩, ?_⟩
                        · have z := (hS'.cell (p := ⟨bx, 3, none⟩) HBX9.out.lt).trans HBX9.out.c3
                          (go_simp <;> with_reducible rfl)
                        try simp only [Act.put, List.setIfInBounds_toArray, List.set_cons_zero, List.set_cons_succ]
                        refine s_all (rs := [4]) (by as_aux_lemma => kernel_rfl) (by simp) ?_
                        refine s_step 4 (by as_aux_lemma => kernel_rfl) (fun o ho K hK => ?_) AllReadyH.nil
                        simp only [List.getElem?_toArray, List.getElem?_cons_succ, List.getElem?_cons_zero, Option.some.injEq] at ho
                        subst ho
                        go_simp
                        refine (HHD.out _ HDK.out).mono ?_
                        rintro e wa0 ⟨va0, rfl, -, hBa⟩
                        have HBa0 := Lib.hid (below_more HDK.out hBa (HDK.out).size)
                        clear hBa
                        go_wp2_with fail
                        refine hK.out _ _ HBa0.out ?_
                        clear hK K
                        try simp only [Act.put, List.setIfInBounds_toArray, List.set_cons_zero, List.set_cons_succ]
                        refine s_take 5 (by as_aux_lemma => kernel_rfl) (by as_aux_lemma => kernel_rfl) (by as_aux_lemma => kernel_rfl) (by as_aux_lemma => kernel_rfl) HBa0.out (fun oi ho => ?_)
                        simp only [List.getElem?_toArray, List.getElem?_cons_succ, List.getElem?_cons_zero, Option.some.injEq] at ho
                        subst ho
                        refine ⟨.int .i64 gk.H.frame, Or.inl ⟨by rfl, fun w' hS' => ?_⟩, ?_⟩
                        · (go_simp <;> (rw [head_f1]; rfl))
                        try simp only [Act.put, List.setIfInBounds_toArray, List.set_cons_zero, List.set_cons_succ]
                        refine s_take 9 (by as_aux_lemma => kernel_rfl) (by as_aux_lemma => kernel_rfl) (by as_aux_lemma => kernel_rfl) (by as_aux_lemma => kernel_rfl) HBa0.out (fun oi ho => ?_)
                        simp only [List.getElem?_toArray, List.getElem?_cons_succ, List.getElem?_cons_zero, Option.some.injEq] at ho
                        subst ho
                        refine ⟨?_, Or.inl ⟨by rfl, fun w _ => ?_⟩, ?_⟩
                        rotate_left
                        · (go_simp <;> with_reducible rfl)
                        try simp only [Act.put, List.setIfInBounds_toArray, List.set_cons_zero, List.set_cons_succ]
                        refine s_take 10 (by as_aux_lemma => kernel_rfl) (by as_aux_lemma => kernel_rfl) (by as_aux_lemma => kernel_rfl) (by as_aux_lemma => kernel_rfl) HBa0.out (fun oi ho => ?_)
                        simp only [List.getElem?_toArray, List.getElem?_cons_succ, List.getElem?_cons_zero, Option.some.injEq] at ho
                        subst ho
                        refine ⟨?_, Or.inl ⟨by rfl, fun w _ => ?_⟩, ?_⟩
                        rotate_left
                        · (go_simp <;> with_reducible rfl)
                        try simp only [Act.put, List.setIfInBounds_toArray, List.set_cons_zero, List.set_cons_succ]
                        refine s_take 11 (by as_aux_lemma => kernel_rfl) (by as_aux_lemma => kernel_rfl) (by as_aux_lemma => kernel_rfl) (by as_aux_lemma => kernel_rfl) HBa0.out (fun oi ho => ?_)
                        simp only [List.getElem?_toArray, List.getElem?_cons_succ, List.getElem?_cons_zero, Option.some.injEq] at ho
                        subst ho
                        refine ⟨?_, Or.inl ⟨by rfl, fun w _ => ?_⟩, ?_⟩
                        rotate_left
                        · (go_simp <;> with_reducible rfl)
                        try simp only [Act.put, List.setIfInBounds_toArray, List.set_cons_zero, List.set_cons_succ]
                        refine s_take 12 (by as_aux_lemma => kernel_rfl) (by as_aux_lemma => kernel_rfl) (by as_aux_lemma => kernel_rfl) (by as_aux_lemma => kernel_rfl) HBa0.out (fun oi ho => ?_)
                        simp only [List.getElem?_toArray, List.getElem?_cons_succ, List.getElem?_cons_zero, Option.some.injEq] at ho
                        subst ho
                        refine ⟨?_, Or.inl ⟨by rfl, fun w _ => ?_⟩, ?_⟩
                        rotate_left
                        · (go_simp <;> with_reducible rfl)
                        try simp only [Act.put, List.setIfInBounds_toArray, List.set_cons_zero, List.set_cons_succ]
                        refine s_take 13 (by as_aux_lemma => kernel_rfl) (by as_aux_lemma => kernel_rfl) (by as_aux_lemma => kernel_rfl) (by as_aux_lemma => kernel_rfl) HBa0.out (fun oi ho => ?_)
                        simp only [List.getElem?_toArray, List.getElem?_cons_succ, List.getElem?_cons_zero, Option.some.injEq] at ho
                        subst ho
                        refine ⟨?_, Or.inl ⟨by rfl, fun w _ => ?_⟩, ?_⟩
                        rotate_left
                        · (go_simp <;> with_reducible rfl)
                        try simp only [Act.put, List.setIfInBounds_toArray, List.set_cons_zero, List.set_cons_succ]
                        refine s_take 14 (by as_aux_lemma => kernel_rfl) (by as_aux_lemma => kernel_rfl) (by as_aux_lemma => kernel_rfl) (by as_aux_lemma => kernel_rfl) HBa0.out (fun oi ho => ?_)
                        simp only [List.getElem?_toArray, List.getElem?_cons_succ, List.getElem?_cons_zero, Option.some.injEq] at ho
                        subst ho
                        refine ⟨?_, Or.inl ⟨by rfl, fun w _ => ?_⟩, ?_⟩
                        rotate_left
                        · (go_simp <;> with_reducible rfl)
                        try simp only [Act.put, List.setIfInBounds_toArray, List.set_cons_zero, List.set_cons_succ]
                        refine s_take 15 (by as_aux_lemma => kernel_rfl) (by as_aux_lemma => kernel_rfl) (by as_aux_lemma => kernel_rfl) (by as_aux_lemma => kernel_rfl) HBa0.out (fun oi ho => ?_)
                        simp only [List.getElem?_toArray, List.getElem?_cons_succ, List.getElem?_cons_zero, Option.some.injEq] at ho
                        subst ho
                        refine ⟨.pointer (some ⟨gk.blk, 0, none⟩), Or.inl ⟨by rfl, fun w' hS' => ?_⟩, ?_⟩
                        · have z := (hS'.cell (p := ⟨go, k, none⟩) (blt HCK.out)).trans HCK.out
                          (go_simp <;> with_reducible rfl)
                        try simp only [Act.put, List.setIfInBounds_toArray, List.set_cons_zero, List.set_cons_succ]
                        refine s_all (rs := [16]) (by as_aux_lemma => kernel_rfl) (by simp) ?_
                        refine s_step 16 (by as_aux_lemma => kernel_rfl) (fun o ho K hK => ?_) AllReadyH.nil
                        simp only [List.getElem?_toArray, List.getElem?_cons_succ, List.getElem?_cons_zero, Option.some.injEq] at ho
                        subst ho
                        go_simp
                        refine (HHD.out _ HBa0.out).mono ?_
                        rintro e wb1 ⟨vb1, rfl, -, hBb⟩
                        have HBb1 := Lib.hid (below_more HBa0.out hBb (HBa0.out).size)
                        clear hBb
                        go_wp2_with fail
                        refine hK.out _ _ HBb1.out ?_
                        clear hK K
                        try simp only [Act.put, List.setIfInBounds_toArray, List.set_cons_zero, List.set_cons_succ]
                        refine s_take 17 (by as_aux_lemma => kernel_rfl) (by as_aux_lemma => kernel_rfl) (by as_aux_lemma => kernel_rfl) (by as_aux_lemma => kernel_rfl) HBb1.out (fun oi ho => ?_)
                        simp only [List.getElem?_toArray, List.getElem?_cons_succ, List.getElem?_cons_zero, Option.some.injEq] at ho
                        subst ho
                        refine ⟨.int .i64 gk.H.frame, Or.inl ⟨by rfl, fun w' hS' => ?_⟩, ?_⟩
                        · (go_simp <;> (rw [head_f1]; rfl))
                        try simp only [Act.put, List.setIfInBounds_toArray, List.set_cons_zero, List.set_cons_succ]
                        refine s_all (rs := [18]) (by as_aux_lemma => kernel_rfl) (by simp) ?_
                        refine s_step 18 (by as_aux_lemma => kernel_rfl) (fun o ho K hK => ?_) AllReadyH.nil
                        simp only [List.getElem?_toArray, List.getElem?_cons_succ, List.getElem?_cons_zero, Option.some.injEq] at ho
                        subst ho
                        go_simp
                        refine (HHAS.out _ HBb1.out).mono ?_
                        rintro e wc2 ⟨rfl, rfl⟩
                        have HBZ := HBb1.out
                        go_wp2_with fail
                        refine hK.out _ _ HBb1.out ?_
                        clear hK K
                        try simp only [Act.put, List.setIfInBounds_toArray, List.set_cons_zero, List.set_cons_succ]
                        refine s_take 19 (by as_aux_lemma => kernel_rfl) (by as_aux_lemma => kernel_rfl) (by as_aux_lemma => kernel_rfl) (by as_aux_lemma => kernel_rfl) HBb1.out (fun oi ho => ?_)
                        simp only [List.getElem?_toArray, List.getElem?_cons_succ, List.getElem?_cons_zero, Option.some.injEq] at ho
                        subst ho
                        refine ⟨?_, Or.inl ⟨by rfl, fun w _ => ?_⟩, ?_⟩
                        rotate_left
                        · (go_simp <;> with_reducible rfl)
                        try simp only [Act.put, List.setIfInBounds_toArray, List.set_cons_zero, List.set_cons_succ]
                        refine s_done (by as_aux_lemma => kernel_rfl) ?_
                        skip
                        go_wp2
                        go_roundw
                        case rel => exact ⟨k + 1, HLK.out, rfl, by go_num, HBZ⟩
                        case measure =>
                          have hlk9 := HLK.out
                          simp [intOf]; omega
                      · obtain rfl : k = m := by omega
                        go_wp2
                        go_roundw
                        case rel => exact ⟨i + 1, v7, gs', HLT.out, rfl, by go_num, (HT9.out.below HBK.out), HP'.out, (below_more HB9.out HBK.out HB9.out.size)⟩
                        case measure => have hlt9 := HLT.out; simp [intOf]; omega
                  · have hm0 : ((m : Int) == 0) = false := by
                      rw [beq_eq_false_iff_ne]
                      intro h0
                      rcases (hroom.1 (by omega)).2 with h1 | h1
                      · exact c2 h1
                      · exact c3 h1
                    clear hroom
                    go_wp2_with fail
                    refine HW2.out.mono ?_
                    rintro e w' ⟨rfl, hww⟩
                    obtain rfl : w9 = w' := hww.symm
                    go_wp2_with fail
                    refine (HHAS2.out).mono ?_
                    rintro e w' ⟨rfl, hww⟩
                    obtain rfl : w9 = w' := hww.symm
                    go_wp2_with fail
                    refine (HCRD.out).mono ?_
                    rintro e w' ⟨rfl, hww⟩
                    obtain rfl : w9 = w' := hww.symm
                    go_wp2
                    go_loopw [6, 17] (fun v6 v17 wr => ∃ k : Nat, k ≤ m ∧ v6 = .bool false ∧ v17 = .int .i64 (k : Int) ∧ Below w9.heap.size w9 wr) (fun _ v17 _ => m - (intOf v17).toNat)
                    case atStart => exact ⟨0, Nat.zero_le _, rfl, rfl, Below.refl _ w9⟩
                    case round =>
                      obtain ⟨k, hk, rfl, rfl, hBk⟩ := hrel
                      have HBK := Lib.hid hBk
                      clear hBk
                      by_cases hlt : k < m
                      · have HDK := Lib.hid (below_more HBK.out (balDrew wr) HBK.out.size)
                        have HLK := Lib.hid (show k + 1 ≤ m from hlt)
                        have hpo := HPO.out (by omega)
                        subst hpo
                        have hck := HCO.out k hlt
                        have hok : k < outs.length := by rw [HML.out]; exact hlt
                        obtain ⟨gk, hgk⟩ : ∃ g, outs.getD k default = g := ⟨_, rfl⟩
                        have hgm : GDAt w9 w2.heap.size gk := HGO.out gk (by rw [← hgk]; exact getD_mem hok)
                        have hgn := HGN.out k hlt
                        rw [hgk] at hck hgn
                        have HCK := Lib.hid hck
                        have HGK := Lib.hid (show ∀ W, Below w9.heap.size w9 W → GDAt W w2.heap.size gk from fun W h => GrpAt.below hgm h)
                        have HHD := Lib.hid (fun W (h : Below w9.heap.size w9 W) => ghead_any (HGK.out W h))
                        have HHAS := Lib.hid (show ∀ W, Below w9.heap.size w9 W → Calls Try.prog 14 #[.slice pf2 K' cf2, .int .i64 gk.H.frame] W fun e w' => e = .returned (.bool false) ∧ w' = W from fun W h => by
                          have h1 := lawhas_any W _ (framesG gs') gk.H.frame (HF9n.out.below h) (by rw [HK'.out]; omega)
                          rw [decide_eq_false hgn.2] at h1
                          exact h1)
                        have hfr : (gk.H.frame == hF) = false := by simpa using hgn.1
                        clear hck hok hgk hgm hgn
                        go_wp2_with fail
                        refine s_start 20 (fun W => Below w9.heap.size w9 W) (by as_aux_lemma => kernel_rfl) (by as_aux_lemma => kernel_rfl) HDK.out ?_
                        refine s_take 0 (by as_aux_lemma => kernel_rfl) (by as_aux_lemma => kernel_rfl) (by as_aux_lemma => kernel_rfl) (by as_aux_lemma => kernel_rfl) HDK.out (fun oi ho => ?_)
                        simp only [List.getElem?_toArray, List.getElem?_cons_succ, List.getElem?_cons_zero, Option.some.injEq] at ho
                        subst ho
                        refine ⟨?_, Or.inl ⟨by rfl, fun w _ => ?_⟩, ?_⟩
                        rotate_left
                        · (go_simp <;> with_reducible rfl)
                        try simp only [Act.put, List.setIfInBounds_toArray, List.set_cons_zero, List.set_cons_succ]
                        refine s_take 1 (by as_aux_lemma => kernel_rfl) (by as_aux_lemma => kernel_rfl) (by as_aux_lemma => kernel_rfl) (by as_aux_lemma => kernel_rfl) HDK.out (fun oi ho => ?_)
                        simp only [List.getElem?_toArray, List.getElem?_cons_succ, List.getElem?_cons_zero, Option.some.injEq] at ho
                        subst ho
                        refine ⟨?_, Or.inl ⟨by rfl, fun w _ => ?_⟩, ?_⟩
                        rotate_left
                        · (go_simp <;> with_reducible rfl)
                        try simp only [Act.put, List.setIfInBounds_toArray, List.set_cons_zero, List.set_cons_succ]
                        refine s_take 2 (by as_aux_lemma => kernel_rfl) (by as_aux_lemma => kernel_rfl) (by as_aux_lemma => kernel_rfl) (by as_aux_lemma => kernel_rfl) HDK.out (fun oi ho => ?_)
                        simp only [List.getElem?_toArray, List.getElem?_cons_succ, List.getElem?_cons_zero, Option.some.injEq] at ho
                        subst ho
                        refine ⟨?_, Or.inl ⟨by rfl, fun w _ => ?_⟩, ?_⟩
                        rotate_left
                        · (go_simp <;> with_reducible rfl)
                        try simp only [Act.put, List.setIfInBounds_toArray, List.set_cons_zero, List.set_cons_succ]
                        refine s_take 3 (by as_aux_lemma => kernel_rfl) (by as_aux_lemma => kernel_rfl) (by as_aux_lemma => kernel_rfl) (by as_aux_lemma => kernel_rfl) HDK.out (fun oi ho => ?_)
                        simp only [List.getElem?_toArray, List.getElem?_cons_succ, List.getElem?_cons_zero, Option.some.injEq] at ho
                        subst ho
                        refine ⟨.pointer (some ⟨gk.blk, 0, none⟩), Or.inl ⟨by rfl, fun w' hS' => ?_⟩, ?_⟩
                        · have z := (hS'.cell (p := ⟨go, k, none⟩) (blt HCK.out)).trans HCK.out
                          (go_simp <;> with_reducible rfl)
                        try simp only [Act.put, List.setIfInBounds_toArray, List.set_cons_zero, List.set_cons_succ]
                        refine s_take 6 (by as_aux_lemma => kernel_rfl) (by as_aux_lemma => kernel_rfl) (by as_aux_lemma => kernel_rfl) (by as_aux_lemma => kernel_rfl) HDK.out (fun oi ho => ?_)
                        simp only [List.getElem?_toArray, List.getElem?_cons_succ, List.getElem?_cons_zero, Option.some.injEq] at ho
                        subst ho
                        refine ⟨?_, Or.inl ⟨by rfl, fun w _ => ?_⟩, ?_⟩
                        rotate_left
                        · (go_simp <;> with_reducible rfl)
                        try simp only [Act.put, List.setIfInBounds_toArray, List.set_cons_zero, List.set_cons_succ]
                        refine s_take 7 (by as_aux_lemma => kernel_rfl) (by as_aux_lemma => kernel_rfl) (by as_aux_lemma => kernel_rfl) (by as_aux_lemma => kernel_rfl) HDK.out (fun oi ho => ?_)
                        simp only [List.getElem?_toArray, List.getElem?_cons_succ, List.getElem?_cons_zero, Option.some.injEq] at ho
                        subst ho
                        refine ⟨?_, Or.inl ⟨by rfl, fun w _ => ?_⟩, ?_⟩
                        rotate_left
                        · (go_simp <;> with_reducible rfl)
                        try simp only [Act.put, List.setIfInBounds_toArray, List.set_cons_zero, List.set_cons_succ]
                        refine s_take 8 (by as_aux_lemma => kernel_rfl) (by as_aux_lemma => kernel_rfl) (by as_aux_lemma => kernel_rfl) (by as_aux_lemma => kernel_rfl) HDK.out (fun oi ho => ?_)
                        simp only [List.getElem?_toArray, List.getElem?_cons_succ, List.getElem?_cons_zero, Option.some.injEq] at ho
                        subst ho
                        refine ⟨.int .i64 hF, Or.inl ⟨by rfl, fun w' hS' => ?_⟩, ?_⟩
                        · have z := (hS'.cell (p := ⟨bx, 3, none⟩) HBX9.out.lt).trans HBX9.out.c3
                          (go_simp <;> with_reducible rfl)
                        try simp only [Act.put, List.setIfInBounds_toArray, List.set_cons_zero, List.set_cons_succ]
                        refine s_all (rs := [4]) (by as_aux_lemma => kernel_rfl) (by simp) ?_
                        refine s_step 4 (by as_aux_lemma => kernel_rfl) (fun o ho K hK => ?_) AllReadyH.nil
                        simp only [List.getElem?_toArray, List.getElem?_cons_succ, List.getElem?_cons_zero, Option.some.injEq] at ho
                        subst ho
                        go_simp
                        refine (HHD.out _ HDK.out).mono ?_
                        rintro e wa0 ⟨va0, rfl, -, hBa⟩
                        have HBa0 := Lib.hid (below_more HDK.out hBa (HDK.out).size)
                        clear hBa
                        go_wp2_with fail
                        refine hK.out _ _ HBa0.out ?_
                        clear hK K
                        try simp only [Act.put, List.setIfInBounds_toArray, List.set_cons_zero, List.set_cons_succ]
                        refine s_take 5 (by as_aux_lemma => kernel_rfl) (by as_aux_lemma => kernel_rfl) (by as_aux_lemma => kernel_rfl) (by as_aux_lemma => kernel_rfl) HBa0.out (fun oi ho => ?_)
                        simp only [List.getElem?_toArray, List.getElem?_cons_succ, List.getElem?_cons_zero, Option.some.injEq] at ho
                        subst ho
                        refine ⟨.int .i64 gk.H.frame, Or.inl ⟨by rfl, fun w' hS' => ?_⟩, ?_⟩
                        · (go_simp <;> (rw [head_f1]; rfl))
                        try simp only [Act.put, List.setIfInBounds_toArray, List.set_cons_zero, List.set_cons_succ]
                        refine s_take 9 (by as_aux_lemma => kernel_rfl) (by as_aux_lemma => kernel_rfl) (by as_aux_lemma => kernel_rfl) (by as_aux_lemma => kernel_rfl) HBa0.out (fun oi ho => ?_)
                        simp only [List.getElem?_toArray, List.getElem?_cons_succ, List.getElem?_cons_zero, Option.some.injEq] at ho
                        subst ho
                        refine ⟨?_, Or.inl ⟨by rfl, fun w _ => ?_⟩, ?_⟩
                        rotate_left
                        · (go_simp <;> with_reducible rfl)
                        try simp only [Act.put, List.setIfInBounds_toArray, List.set_cons_zero, List.set_cons_succ]
                        refine s_take 10 (by as_aux_lemma => kernel_rfl) (by as_aux_lemma => kernel_rfl) (by as_aux_lemma => kernel_rfl) (by as_aux_lemma => kernel_rfl) HBa0.out (fun oi ho => ?_)
                        simp only [List.getElem?_toArray, List.getElem?_cons_succ, List.getElem?_cons_zero, Option.some.injEq] at ho
                        subst ho
                        refine ⟨?_, Or.inl ⟨by rfl, fun w _ => ?_⟩, ?_⟩
                        rotate_left
                        · (go_simp <;> with_reducible rfl)
                        try simp only [Act.put, List.setIfInBounds_toArray, List.set_cons_zero, List.set_cons_succ]
                        refine s_take 11 (by as_aux_lemma => kernel_rfl) (by as_aux_lemma => kernel_rfl) (by as_aux_lemma => kernel_rfl) (by as_aux_lemma => kernel_rfl) HBa0.out (fun oi ho => ?_)
                        simp only [List.getElem?_toArray, List.getElem?_cons_succ, List.getElem?_cons_zero, Option.some.injEq] at ho
                        subst ho
                        refine ⟨?_, Or.inl ⟨by rfl, fun w _ => ?_⟩, ?_⟩
                        rotate_left
                        · (go_simp <;> with_reducible rfl)
                        try simp only [Act.put, List.setIfInBounds_toArray, List.set_cons_zero, List.set_cons_succ]
                        refine s_take 12 (by as_aux_lemma => kernel_rfl) (by as_aux_lemma => kernel_rfl) (by as_aux_lemma => kernel_rfl) (by as_aux_lemma => kernel_rfl) HBa0.out (fun oi ho => ?_)
                        simp only [List.getElem?_toArray, List.getElem?_cons_succ, List.getElem?_cons_zero, Option.some.injEq] at ho
                        subst ho
                        refine ⟨?_, Or.inl ⟨by rfl, fun w _ => ?_⟩, ?_⟩
                        rotate_left
                        · (go_simp <;> with_reducible rfl)
                        try simp only [Act.put, List.setIfInBounds_toArray, List.set_cons_zero, List.set_cons_succ]
                        refine s_take 13 (by as_aux_lemma => kernel_rfl) (by as_aux_lemma => kernel_rfl) (by as_aux_lemma => kernel_rfl) (by as_aux_lemma => kernel_rfl) HBa0.out (fun oi ho => ?_)
                        simp only [List.getElem?_toArray, List.getElem?_cons_succ, List.getElem?_cons_zero, Option.some.injEq] at ho
                        subst ho
                        refine ⟨?_, Or.inl ⟨by rfl, fun w _ => ?_⟩, ?_⟩
                        rotate_left
                        · (go_simp <;> with_reducible rfl)
                        try simp only [Act.put, List.setIfInBounds_toArray, List.set_cons_zero, List.set_cons_succ]
                        refine s_take 14 (by as_aux_lemma => kernel_rfl) (by as_aux_lemma => kernel_rfl) (by as_aux_lemma => kernel_rfl) (by as_aux_lemma => kernel_rfl) HBa0.out (fun oi ho => ?_)
                        simp only [List.getElem?_toArray, List.getElem?_cons_succ, List.getElem?_cons_zero, Option.some.injEq] at ho
                        subst ho
                        refine ⟨?_, Or.inl ⟨by rfl, fun w _ => ?_⟩, ?_⟩
                        rotate_left
                        · (go_simp <;> with_reducible rfl)
                        try simp only [Act.put, List.setIfInBounds_toArray, List.set_cons_zero, List.set_cons_succ]
                        refine s_take 15 (by as_aux_lemma => kernel_rfl) (by as_aux_lemma => kernel_rfl) (by as_aux_lemma => kernel_rfl) (by as_aux_lemma => kernel_rfl) HBa0.out (fun oi ho => ?_)
                        simp only [List.getElem?_toArray, List.getElem?_cons_succ, List.getElem?_cons_zero, Option.some.injEq] at ho
                        subst ho
                        refine ⟨.pointer (some ⟨gk.blk, 0, none⟩), Or.inl ⟨by rfl, fun w' hS' => ?_⟩, ?_⟩
                        · have z := (hS'.cell (p := ⟨go, k, none⟩) (blt HCK.out)).trans HCK.out
                          (go_simp <;> with_reducible rfl)
                        try simp only [Act.put, List.setIfInBounds_toArray, List.set_cons_zero, List.set_cons_succ]
                        refine s_all (rs := [16]) (by as_aux_lemma => kernel_rfl) (by simp) ?_
                        refine s_step 16 (by as_aux_lemma => kernel_rfl) (fun o ho K hK => ?_) AllReadyH.nil
                        simp only [List.getElem?_toArray, List.getElem?_cons_succ, List.getElem?_cons_zero, Option.some.injEq] at ho
                        subst ho
                        go_simp
                        refine (HHD.out _ HBa0.out).mono ?_
                        rintro e wb1 ⟨vb1, rfl, -, hBb⟩
                        have HBb1 := Lib.hid (below_more HBa0.out hBb (HBa0.out).size)
                        clear hBb
                        go_wp2_with fail
                        refine hK.out _ _ HBb1.out ?_
                        clear hK K
                        try simp only [Act.put, List.setIfInBounds_toArray, List.set_cons_zero, List.set_cons_succ]
                        refine s_take 17 (by as_aux_lemma => kernel_rfl) (by as_aux_lemma => kernel_rfl) (by as_aux_lemma => kernel_rfl) (by as_aux_lemma => kernel_rfl) HBb1.out (fun oi ho => ?_)
                        simp only [List.getElem?_toArray, List.getElem?_cons_succ, List.getElem?_cons_zero, Option.some.injEq] at ho
                        subst ho
                        refine ⟨.int .i64 gk.H.frame, Or.inl ⟨by rfl, fun w' hS' => ?_⟩, ?_⟩
                        · (go_simp <;> (rw [head_f1]; rfl))
                        try simp only [Act.put, List.setIfInBounds_toArray, List.set_cons_zero, List.set_cons_succ]
                        refine s_all (rs := [18]) (by as_aux_lemma => kernel_rfl) (by simp) ?_
                        refine s_step 18 (by as_aux_lemma => kernel_rfl) (fun o ho K hK => ?_) AllReadyH.nil
                        simp only [List.getElem?_toArray, List.getElem?_cons_succ, List.getElem?_cons_zero, Option.some.injEq] at ho
                        subst ho
                        go_simp
                        refine (HHAS.out _ HBb1.out).mono ?_
                        rintro e wc2 ⟨rfl, rfl⟩
                        have HBZ := HBb1.out
                        go_wp2_with fail
                        refine hK.out _ _ HBb1.out ?_
                        clear hK K
                        try simp only [Act.put, List.setIfInBounds_toArray, List.set_cons_zero, List.set_cons_succ]
                        refine s_take 19 (by as_aux_lemma => kernel_rfl) (by as_aux_lemma => kernel_rfl) (by as_aux_lemma => kernel_rfl) (by as_aux_lemma => kernel_rfl) HBb1.out (fun oi ho => ?_)
                        simp only [List.getElem?_toArray, List.getElem?_cons_succ, List.getElem?_cons_zero, Option.some.injEq] at ho
                        subst ho
                        refine ⟨?_, Or.inl ⟨by rfl, fun w _ => ?_⟩, ?_⟩
                        rotate_left
                        · (go_simp <;> with_reducible rfl)
                        try simp only [Act.put, List.setIfInBounds_toArray, List.set_cons_zero, List.set_cons_succ]
                        refine s_done (by as_aux_lemma => kernel_rfl) ?_
                        skip
                        go_wp2
                        go_roundw
                        case rel => exact ⟨k + 1, HLK.out, rfl, by go_num, HBZ⟩
                        case measure =>
                          have hlk9 := HLK.out
                          simp [intOf]; omega
                      · obtain rfl : k = m := by omega
                        go_wp2
                        go_roundw
                        case rel => exact ⟨i + 1, v7, gs', HLT.out, rfl, by go_num, (HT9.out.below HBK.out), HP'.out, (below_more HB9.out HBK.out HB9.out.size)⟩
                        case measure => have hlt9 := HLT.out; simp [intOf]; omega
              · have hm0 : ((m : Int) == 0) = false := by
                  rw [beq_eq_false_iff_ne]
                  intro h0
                  exact c1 (hroom.1 (by omega)).1
                clear hroom
                go_wp2_with fail
                refine (HHAS2.out).mono ?_
                rintro e w' ⟨rfl, hww⟩
                obtain rfl : w9 = w' := hww.symm
                go_wp2_with fail
                refine (HCRD.out).mono ?_
                rintro e w' ⟨rfl, hww⟩
                obtain rfl : w9 = w' := hww.symm
                go_wp2
                go_loopw [6, 17] (fun v6 v17 wr => ∃ k : Nat, k ≤ m ∧ v6 = .bool false ∧ v17 = .int .i64 (k : Int) ∧ Below w9.heap.size w9 wr) (fun _ v17 _ => m - (intOf v17).toNat)
                case atStart => exact ⟨0, Nat.zero_le _, rfl, rfl, Below.refl _ w9⟩
                case round =>
                  obtain ⟨k, hk, rfl, rfl, hBk⟩ := hrel
                  have HBK := Lib.hid hBk
                  clear hBk
                  by_cases hlt : k < m
                  · have HDK := Lib.hid (below_more HBK.out (balDrew wr) HBK.out.size)
                    have HLK := Lib.hid (show k + 1 ≤ m from hlt)
                    have hpo := HPO.out (by omega)
                    subst hpo
                    have hck := HCO.out k hlt
                    have hok : k < outs.length := by rw [HML.out]; exact hlt
                    obtain ⟨gk, hgk⟩ : ∃ g, outs.getD k default = g := ⟨_, rfl⟩
                    have hgm : GDAt w9 w2.heap.size gk := HGO.out gk (by rw [← hgk]; exact getD_mem hok)
                    have hgn := HGN.out k hlt
                    rw [hgk] at hck hgn
                    have HCK := Lib.hid hck
                    have HGK := Lib.hid (show ∀ W, Below w9.heap.size w9 W → GDAt W w2.heap.size gk from fun W h => GrpAt.below hgm h)
                    have HHD := Lib.hid (fun W (h : Below w9.heap.size w9 W) => ghead_any (HGK.out W h))
                    have HHAS := Lib.hid (show ∀ W, Below w9.heap.size w9 W → Calls Try.prog 14 #[.slice pf2 K' cf2, .int .i64 gk.H.frame] W fun e w' => e = .returned (.bool false) ∧ w' = W from fun W h => by
                      have h1 := lawhas_any W _ (framesG gs') gk.H.frame (HF9n.out.below h) (by rw [HK'.out]; omega)
                      rw [decide_eq_false hgn.2] at h1
                      exact h1)
                    have hfr : (gk.H.frame == hF) = false := by simpa using hgn.1
                    clear hck hok hgk hgm hgn
                    go_wp2_with fail
                    refine s_start 20 (fun W => Below w9.heap.size w9 W) (by as_aux_lemma => kernel_rfl) (by as_aux_lemma => kernel_rfl) HDK.out ?_
                    refine s_take 0 (by as_aux_lemma => kernel_rfl) (by as_aux_lemma => kernel_rfl) (by as_aux_lemma => kernel_rfl) (by as_aux_lemma => kernel_rfl) HDK.out (fun oi ho => ?_)
                    simp only [List.getElem?_toArray, List.getElem?_cons_succ, List.getElem?_cons_zero, Option.some.injEq] at ho
                    subst ho
                    refine ⟨?_, Or.inl ⟨by rfl, fun w _ => ?_⟩, ?_⟩
                    rotate_left
                    · (go_simp <;> with_reducible rfl)
                    try simp only [Act.put, List.setIfInBounds_toArray, List.set_cons_zero, List.set_cons_succ]
                    refine s_take 1 (by as_aux_lemma => kernel_rfl) (by as_aux_lemma => kernel_rfl) (by as_aux_lemma => kernel_rfl) (by as_aux_lemma => kernel_rfl) HDK.out (fun oi ho => ?_)
                    simp only [List.getElem?_toArray, List.getElem?_cons_succ, List.getElem?_cons_zero, Option.some.injEq] at ho
                    subst ho
                    refine ⟨?_, Or.inl ⟨by rfl, fun w _ => ?_⟩, ?_⟩
                    rotate_left
                    · (go_simp <;> with_reducible rfl)
                    try simp only [Act.put, List.setIfInBounds_toArray, List.set_cons_zero, List.set_cons_succ]
                    refine s_take 2 (by as_aux_lemma => kernel_rfl) (by as_aux_lemma => kernel_rfl) (by as_aux_lemma => kernel_rfl) (by as_aux_lemma => kernel_rfl) HDK.out (fun oi ho => ?_)
                    simp only [List.getElem?_toArray, List.getElem?_cons_succ, List.getElem?_cons_zero, Option.some.injEq] at ho
                    subst ho
                    refine ⟨?_, Or.inl ⟨by rfl, fun w _ => ?_⟩, ?_⟩
                    rotate_left
                    · (go_simp <;> with_reducible rfl)
                    try simp only [Act.put, List.setIfInBounds_toArray, List.set_cons_zero, List.set_cons_succ]
                    refine s_take 3 (by as_aux_lemma => kernel_rfl) (by as_aux_lemma => kernel_rfl) (by as_aux_lemma => kernel_rfl) (by as_aux_lemma => kernel_rfl) HDK.out (fun oi ho => ?_)
                    simp only [List.getElem?_toArray, List.getElem?_cons_succ, List.getElem?_cons_zero, Option.some.injEq] at ho
                    subst ho
                    refine ⟨.pointer (some ⟨gk.blk, 0, none⟩), Or.inl ⟨by rfl, fun w' hS' => ?_⟩, ?_⟩
                    · have z := (hS'.cell (p := ⟨go, k, none⟩) (blt HCK.out)).trans HCK.out
                      (go_simp <;> with_reducible rfl)
                    try simp only [Act.put, List.setIfInBounds_toArray, List.set_cons_zero, List.set_cons_succ]
                    refine s_take 6 (by as_aux_lemma => kernel_rfl) (by as_aux_lemma => kernel_rfl) (by as_aux_lemma => kernel_rfl) (by as_aux_lemma => kernel_rfl) HDK.out (fun oi ho => ?_)
                    simp only [List.getElem?_toArray, List.getElem?_cons_succ, List.getElem?_cons_zero, Option.some.injEq] at ho
                    subst ho
                    refine ⟨?_, Or.inl ⟨by rfl, fun w _ => ?_⟩, ?_⟩
                    rotate_left
                    · (go_simp <;> with_reducible rfl)
                    try simp only [Act.put, List.setIfInBounds_toArray, List.set_cons_zero, List.set_cons_succ]
                    refine s_take 7 (by as_aux_lemma => kernel_rfl) (by as_aux_lemma => kernel_rfl) (by as_aux_lemma => kernel_rfl) (by as_aux_lemma => kernel_rfl) HDK.out (fun oi ho => ?_)
                    simp only [List.getElem?_toArray, List.getElem?_cons_succ, List.getElem?_cons_zero, Option.some.injEq] at ho
                    subst ho
                    refine ⟨?_, Or.inl ⟨by rfl, fun w _ => ?_⟩, ?_⟩
                    rotate_left
                    · (go_simp <;> with_reducible rfl)
                    try simp only [Act.put, List.setIfInBounds_toArray, List.set_cons_zero, List.set_cons_succ]
                    refine s_take 8 (by as_aux_lemma => kernel_rfl) (by as_aux_lemma => kernel_rfl) (by as_aux_lemma => kernel_rfl) (by as_aux_lemma => kernel_rfl) HDK.out (fun oi ho => ?_)
                    simp only [List.getElem?_toArray, List.getElem?_cons_succ, List.getElem?_cons_zero, Option.some.injEq] at ho
                    subst ho
                    refine ⟨.int .i64 hF, Or.inl ⟨by rfl, fun w' hS' => ?_⟩, ?_⟩
                    · have z := (hS'.cell (p := ⟨bx, 3, none⟩) HBX9.out.lt).trans HBX9.out.c3
                      (go_simp <;> with_reducible rfl)
                    try simp only [Act.put, List.setIfInBounds_toArray, List.set_cons_zero, List.set_cons_succ]
                    refine s_all (rs := [4]) (by as_aux_lemma => kernel_rfl) (by simp) ?_
                    refine s_step 4 (by as_aux_lemma => kernel_rfl) (fun o ho K hK => ?_) AllReadyH.nil
                    simp only [List.getElem?_toArray, List.getElem?_cons_succ, List.getElem?_cons_zero, Option.some.injEq] at ho
                    subst ho
                    go_simp
                    refine (HHD.out _ HDK.out).mono ?_
                    rintro e wa0 ⟨va0, rfl, -, hBa⟩
                    have HBa0 := Lib.hid (below_more HDK.out hBa (HDK.out).size)
                    clear hBa
                    go_wp2_with fail
                    refine hK.out _ _ HBa0.out ?_
                    clear hK K
                    try simp only [Act.put, List.setIfInBounds_toArray, List.set_cons_zero, List.set_cons_succ]
                    refine s_take 5 (by as_aux_lemma => kernel_rfl) (by as_aux_lemma => kernel_rfl) (by as_aux_lemma => kernel_rfl) (by as_aux_lemma => kernel_rfl) HBa0.out (fun oi ho => ?_)
                    simp only [List.getElem?_toArray, List.getElem?_cons_succ, List.getElem?_cons_zero, Option.some.injEq] at ho
                    subst ho
                    refine ⟨.int .i64 gk.H.frame, Or.inl ⟨by rfl, fun w' hS' => ?_⟩, ?_⟩
                    · (go_simp <;> (rw [head_f1]; rfl))
                    try simp only [Act.put, List.setIfInBounds_toArray, List.set_cons_zero, List.set_cons_succ]
                    refine s_take 9 (by as_aux_lemma => kernel_rfl) (by as_aux_lemma => kernel_rfl) (by as_aux_lemma => kernel_rfl) (by as_aux_lemma => kernel_rfl) HBa0.out (fun oi ho => ?_)
                    simp only [List.getElem?_toArray, List.getElem?_cons_succ, List.getElem?_cons_zero, Option.some.injEq] at ho
                    subst ho
                    refine ⟨?_, Or.inl ⟨by rfl, fun w _ => ?_⟩, ?_⟩
                    rotate_left
                    · (go_simp <;> with_reducible rfl)
                    try simp only [Act.put, List.setIfInBounds_toArray, List.set_cons_zero, List.set_cons_succ]
                    refine s_take 10 (by as_aux_lemma => kernel_rfl) (by as_aux_lemma => kernel_rfl) (by as_aux_lemma => kernel_rfl) (by as_aux_lemma => kernel_rfl) HBa0.out (fun oi ho => ?_)
                    simp only [List.getElem?_toArray, List.getElem?_cons_succ, List.getElem?_cons_zero, Option.some.injEq] at ho
                    subst ho
                    refine ⟨?_, Or.inl ⟨by rfl, fun w _ => ?_⟩, ?_⟩
                    rotate_left
                    · (go_simp <;> with_reducible rfl)
                    try simp only [Act.put, List.setIfInBounds_toArray, List.set_cons_zero, List.set_cons_succ]
                    refine s_take 11 (by as_aux_lemma => kernel_rfl) (by as_aux_lemma => kernel_rfl) (by as_aux_lemma => kernel_rfl) (by as_aux_lemma => kernel_rfl) HBa0.out (fun oi ho => ?_)
                    simp only [List.getElem?_toArray, List.getElem?_cons_succ, List.getElem?_cons_zero, Option.some.injEq] at ho
                    subst ho
                    refine ⟨?_, Or.inl ⟨by rfl, fun w _ => ?_⟩, ?_⟩
                    rotate_left
                    · (go_simp <;> with_reducible rfl)
                    try simp only [Act.put, List.setIfInBounds_toArray, List.set_cons_zero, List.set_cons_succ]
                    refine s_take 12 (by as_aux_lemma => kernel_rfl) (by as_aux_lemma => kernel_rfl) (by as_aux_lemma => kernel_rfl) (by as_aux_lemma => kernel_rfl) HBa0.out (fun oi ho => ?_)
                    simp only [List.getElem?_toArray, List.getElem?_cons_succ, List.getElem?_cons_zero, Option.some.injEq] at ho
                    subst ho
                    refine ⟨?_, Or.inl ⟨by rfl, fun w _ => ?_⟩, ?_⟩
                    rotate_left
                    · (go_simp <;> with_reducible rfl)
                    try simp only [Act.put, List.setIfInBounds_toArray, List.set_cons_zero, List.set_cons_succ]
                    refine s_take 13 (by as_aux_lemma => kernel_rfl) (by as_aux_lemma => kernel_rfl) (by as_aux_lemma => kernel_rfl) (by as_aux_lemma => kernel_rfl) HBa0.out (fun oi ho => ?_)
                    simp only [List.getElem?_toArray, List.getElem?_cons_succ, List.getElem?_cons_zero, Option.some.injEq] at ho
                    subst ho
                    refine ⟨?_, Or.inl ⟨by rfl, fun w _ => ?_⟩, ?_⟩
                    rotate_left
                    · (go_simp <;> with_reducible rfl)
                    try simp only [Act.put, List.setIfInBounds_toArray, List.set_cons_zero, List.set_cons_succ]
                    refine s_take 14 (by as_aux_lemma => kernel_rfl) (by as_aux_lemma => kernel_rfl) (by as_aux_lemma => kernel_rfl) (by as_aux_lemma => kernel_rfl) HBa0.out (fun oi ho => ?_)
                    simp only [List.getElem?_toArray, List.getElem?_cons_succ, List.getElem?_cons_zero, Option.some.injEq] at ho
                    subst ho
                    refine ⟨?_, Or.inl ⟨by rfl, fun w _ => ?_⟩, ?_⟩
                    rotate_left
                    · (go_simp <;> with_reducible rfl)
                    try simp only [Act.put, List.setIfInBounds_toArray, List.set_cons_zero, List.set_cons_succ]
                    refine s_take 15 (by as_aux_lemma => kernel_rfl) (by as_aux_lemma => kernel_rfl) (by as_aux_lemma => kernel_rfl) (by as_aux_lemma => kernel_rfl) HBa0.out (fun oi ho => ?_)
                    simp only [List.getElem?_toArray, List.getElem?_cons_succ, List.getElem?_cons_zero, Option.some.injEq] at ho
                    subst ho
                    refine ⟨.pointer (some ⟨gk.blk, 0, none⟩), Or.inl ⟨by rfl, fun w' hS' => ?_⟩, ?_⟩
                    · have z := (hS'.cell (p := ⟨go, k, none⟩) (blt HCK.out)).trans HCK.out
                      (go_simp <;> with_reducible rfl)
                    try simp only [Act.put, List.setIfInBounds_toArray, List.set_cons_zero, List.set_cons_succ]
                    refine s_all (rs := [16]) (by as_aux_lemma => kernel_rfl) (by simp) ?_
                    refine s_step 16 (by as_aux_lemma => kernel_rfl) (fun o ho K hK => ?_) AllReadyH.nil
                    simp only [List.getElem?_toArray, List.getElem?_cons_succ, List.getElem?_cons_zero, Option.some.injEq] at ho
                    subst ho
                    go_simp
                    refine (HHD.out _ HBa0.out).mono ?_
                    rintro e wb1 ⟨vb1, rfl, -, hBb⟩
                    have HBb1 := Lib.hid (below_more HBa0.out hBb (HBa0.out).size)
                    clear hBb
                    go_wp2_with fail
                    refine hK.out _ _ HBb1.out ?_
                    clear hK K
                    try simp only [Act.put, List.setIfInBounds_toArray, List.set_cons_zero, List.set_cons_succ]
                    refine s_take 17 (by as_aux_lemma => kernel_rfl) (by as_aux_lemma => kernel_rfl) (by as_aux_lemma => kernel_rfl) (by as_aux_lemma => kernel_rfl) HBb1.out (fun oi ho => ?_)
                    simp only [List.getElem?_toArray, List.getElem?_cons_succ, List.getElem?_cons_zero, Option.some.injEq] at ho
                    subst ho
                    refine ⟨.int .i64 gk.H.frame, Or.inl ⟨by rfl, fun w' hS' => ?_⟩, ?_⟩
                    · (go_simp <;> (rw [head_f1]; rfl))
                    try simp only [Act.put, List.setIfInBounds_toArray, List.set_cons_zero, List.set_cons_succ]
                    refine s_all (rs := [18]) (by as_aux_lemma => kernel_rfl) (by simp) ?_
                    refine s_step 18 (by as_aux_lemma => kernel_rfl) (fun o ho K hK => ?_) AllReadyH.nil
                    simp only [List.getElem?_toArray, List.getElem?_cons_succ, List.getElem?_cons_zero, Option.some.injEq] at ho
                    subst ho
                    go_simp
                    refine (HHAS.out _ HBb1.out).mono ?_
                    rintro e wc2 ⟨rfl, rfl⟩
                    have HBZ := HBb1.out
                    go_wp2_with fail
                    refine hK.out _ _ HBb1.out ?_
                    clear hK K
                    try simp only [Act.put, List.setIfInBounds_toArray, List.set_cons_zero, List.set_cons_succ]
                    refine s_take 19 (by as_aux_lemma => kernel_rfl) (by as_aux_lemma => kernel_rfl) (by as_aux_lemma => kernel_rfl) (by as_aux_lemma => kernel_rfl) HBb1.out (fun oi ho => ?_)
                    simp only [List.getElem?_toArray, List.getElem?_cons_succ, List.getElem?_cons_zero, Option.some.injEq] at ho
                    subst ho
                    refine ⟨?_, Or.inl ⟨by rfl, fun w _ => ?_⟩, ?_⟩
                    rotate_left
                    · (go_simp <;> with_reducible rfl)
                    try simp only [Act.put, List.setIfInBounds_toArray, List.set_cons_zero, List.set_cons_succ]
                    refine s_done (by as_aux_lemma => kernel_rfl) ?_
                    skip
                    go_wp2
                    go_roundw
                    case rel => exact ⟨k + 1, HLK.out, rfl, by go_num, HBZ⟩
                    case measure =>
                      have hlk9 := HLK.out
                      simp [intOf]; omega
                  · obtain rfl : k = m := by omega
                    go_wp2
                    go_roundw
                    case rel => exact ⟨i + 1, v7, gs', HLT.out, rfl, by go_num, (HT9.out.below HBK.out), HP'.out, (below_more HB9.out HBK.out HB9.out.size)⟩
                    case measure => have hlt9 := HLT.out; simp [intOf]; omega
            · obtain ⟨E, hE⟩ : ∃ E, refE gs ⟨hS, hF, hI, hN, hD, rows⟩ n cn = E := ⟨_, rfl⟩
              rw [hE] at he
              refine (put_bad HT6.out ⟨hS, hF, hI, hN, hD, rows⟩ (.slice pv rn cv) HR6.out pb n cb (by omega) E hE he).mono ?_
              rintro e w7 ⟨rfl, hB7⟩
              have HT7 := Lib.hid (HT6.out.below hB7)
              have HB7 := Lib.hid (below_more HB6.out hB7 HB6.out.size)
              have HF7 := Lib.hid (HF6.out.below hB7)
              clear hB7 hE y2 y3 y4 y5 y6 y7 y8
              go_wp2_with fail
              refine (tframes_own HT7.out).mono ?_
              rintro e w8 ⟨vf2, rfl, hvf, -, hB8⟩
              obtain ⟨pf2, cf2, hvf2, -⟩ := id hvf
              subst hvf2
              have HT8 := Lib.hid (HT7.out.below hB8)
              have HB8 := Lib.hid (below_more HB7.out hB8 HB7.out.size)
              have HF8 := Lib.hid (HF7.out.below hB8)
              have HF8n := Lib.hid hvf
              rw [HKF.out] at HF8n ⊢
              clear hvf hB8
              go_wp2_with fail
              refine (tbytes_any HT8.out).mono ?_
              rintro e w9 ⟨rfl, hB9⟩
              rw [HTT.out]
              have HT9 := Lib.hid (HT8.out.below hB9)
              have HB9 := Lib.hid (below_more HB8.out hB9 HB8.out.size)
              have HF9 := Lib.hid (HF8.out.below hB9)
              have HF9n := Lib.hid (HF8n.out.below hB9)
              clear hB9
              go_wp2_with fail
              refine (sameInts_any w9 _ _ (framesG gs) HF9.out HF9n.out (by rw [HKF.out]; omega)).mono ?_
              rintro e w10 ⟨rfl, q10, h10⟩
              have hB10 : Below w9.heap.size w9 w10 := by rw [h10]; exact balDrewN w9 q10
              have HT10 := Lib.hid (HT9.out.below hB10)
              have HB10 := Lib.hid (below_more HB9.out hB10 HB9.out.size)
              clear h10 hB10
              go_wp2_with fail
              refine (tbytes_any HT10.out).mono ?_
              rintro e w11 ⟨rfl, hB11⟩
              rw [HTT.out]
              have HT11 := Lib.hid (HT10.out.below hB11)
              have HB11 := Lib.hid (below_more HB10.out hB11 HB10.out.size)
              clear hB11
              go_wp2
              go_roundw
              case rel => exact ⟨i + 1, v, gs, HLT.out, rfl, by go_num, HT11.out, HP.out, HB11.out⟩
              case measure => have hlt9 := HLT.out; simp [intOf]; omega
        · obtain rfl : i = M := by omega
          go_wp2
          go_ret
          exact ⟨rfl, below_more HB2.out HB.out HB2.out.size⟩
    · refine (tnew_bad w2 hbd).mono ?_
      rintro e w3 ⟨rfl, rfl⟩
      go_wp2
      go_ret
      exact ⟨rfl, HB2.out⟩
  · have hN2 : (1500 : Int) < (N : Int) := by omega
    go_wp2
    go_ret
    exact ⟨rfl, HB2.out⟩
end Go.Proofs.Ytibelpamolcmcaa
