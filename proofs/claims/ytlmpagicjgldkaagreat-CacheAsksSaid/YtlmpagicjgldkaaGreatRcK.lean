/-
  CacheAsks: the walk.
-/
import Derived.Test.YtlmpagicjgldkaaGreatMxbx
namespace Go.Proofs.YtlmpagicjgldkaaGreat
open Go.RowKit Go.Maps
set_option linter.unusedVariables false
set_option linter.unusedSimpArgs false
set_option maxRecDepth 100000
set_option maxHeartbeats 4000000

theorem asks_any (w : World) (n room : Int) (v : Value) (l : List AskI) (hv : AsksAt w v l) (hl : l.length ≤ 140737488355328) (hr : ∀ i (h : i < l.length), l[i].ix.length ≤ 140737488355328) :
    Calls Tryz.prog 3 #[.int .i64 n, .int .i64 room, v] w fun e w' => e = .returned (.bool true) ∧ Below w.heap.size w w' := by
  have HV := Lib.hid hv
  obtain ⟨p, cap, rfl, hcap, _⟩ := hv
  have HR := Lib.hid hr
  obtain ⟨L, hL⟩ : ∃ L, l.length = L := ⟨_, rfl⟩
  have HL := Lib.hid hL
  have HGR := Lib.hid (great_any w n _ l HV.out hl hr)
  rw [hL] at HV HGR hcap ⊢
  clear hr hL
  go_enter Tryz.func3, Tryz.ntmps3
  go_wp2_with fail
  refine HGR.out.mono ?_
  rintro e w1 ⟨hg, q, rfl⟩
  have HB1 := Lib.hid (drewBelow w q)
  generalize w.drewN q = w1 at *
  rcases hg with rfl | ⟨rfl, g1, g2, g3⟩
  · go_wp2_with fail
    refine (awake_any w1).mono ?_
    rintro e w2 ⟨rfl, hB2⟩
    have HB2 := Lib.hid (below_more HB1.out hB2 HB1.out.size)
    clear hB2
    go_wp2
    go_ret
    exact ⟨rfl, HB2.out⟩
  have hL3 : L ≤ 300 := by rw [← HL.out]; exact g2
  have HG3 := Lib.hid g3
  clear g2 g3
  go_wp2_with fail
  by_cases hb : n < 1 ∨ 255 < n ∨ room < 1 ∨ 64 < room
  · refine (new_bad w1 n room hb).mono ?_
    rintro e w' ⟨rfl, rfl⟩
    have HNB := Lib.hid (rcnew_bad w1 n room hb)
    clear hb
    go_wp2_with fail
    refine HNB.out.mono ?_
    rintro e w' ⟨rfl, rfl⟩
    go_wp2_with fail
    refine (awake_any w1).mono ?_
    rintro e w2 ⟨rfl, hB2⟩
    have HB2 := Lib.hid (below_more HB1.out hB2 HB1.out.size)
    clear hB2
    go_wp2
    go_ret
    exact ⟨rfl, HB2.out⟩
  · obtain ⟨N, rfl⟩ : ∃ N : Nat, n = N := ⟨n.toNat, by omega⟩
    obtain ⟨R, rfl⟩ : ∃ R : Nat, room = R := ⟨room.toNat, by omega⟩
    have hN1 : 1 ≤ N := by omega
    have hN2 : N ≤ 255 := by omega
    have hR1 : 1 ≤ R := by omega
    have hR2 : R ≤ 64 := by omega
    clear hb
    refine (new_any w1 N R hN1 hN2 hR1 hR2).mono ?_
    rintro e w2 ⟨b, bm, rfl, hbb, hbm, hc, hB2⟩
    have HC2 := Lib.hid hc
    have HB2 := Lib.hid (below_more HB1.out hB2 HB1.out.size)
    have hs1 := HB1.out.size
    have HBB := Lib.hid (show w.heap.size ≤ b ∧ w.heap.size ≤ bm from ⟨by omega, by omega⟩)
    have HNA := Lib.hid (rcnew_any w2 N R hN1 hN2 hR1 hR2)
    clear hc hB2 hbb hbm hs1
    go_wp2_with fail
    refine HNA.out.mono ?_
    rintro e w3 ⟨rb, rfl, hrc, hrb, hB3⟩
    have HB3 := Lib.hid (below_more HB2.out hB3 HB2.out.size)
    have HBO3 := Lib.hid (show Both w3 w2.heap.size b bm rb (.slice none 0 0) ⟨N, R, 0, 0, 0, 0, []⟩ from
      ⟨⟨_, (HC2.out (CF b bm rb (.slice none 0 0)) (.inl rfl) (.inr (.inl rfl))).below hB3, rfl⟩, hrc _ (fun h => h.2.2 rfl), (HC2.out (CK b bm) (.inl rfl) (.inr rfl)).lt, (HC2.out (CK b bm) (.inl rfl) (.inr rfl)).map.lt⟩)
    have HBS := Lib.hid (show w.heap.size ≤ w2.heap.size from HB2.out.size)
    clear hrc hrb hB3 HNA
    obtain ⟨base, hbase⟩ : ∃ q, w2.heap.size = q := ⟨_, rfl⟩
    rw [hbase] at HBO3 HBS
    clear hbase
    have HFK := Lib.hid (show ∀ (W : World) (vr : Value) (ps : PS), Both W base b bm rb vr ps → ∀ i, CF b bm rb vr i → w.heap.size ≤ i from fun W vr ps h i hi => by
      have h1 := HBB.out
      have h2 := HBS.out
      rcases hi with rfl | rfl | rfl | hi
      · omega
      · omega
      · have := h.r.le; omega
      · have := (h.r.keys.lt i hi).1; omega)
    go_wp2
    go_loopw [6, 11] (fun v6 v11 wr => ∃ (i M : Nat) (ps : PS) (vr : Value), i ≤ L ∧ M ≤ i ∧ v6 = .bool false ∧ v11 = .int .i64 (i : Int) ∧ PInv N R M ps ∧ Both wr base b bm rb vr ps ∧ Below w.heap.size w wr) (fun _ i _ => L - (intOf i).toNat)
    case atStart => exact ⟨0, 0, _, _, Nat.zero_le _, Nat.le_refl _, rfl, rfl, ⟨rfl, rfl, rfl, rfl, rfl, Nat.zero_le _, List.nodup_nil⟩, HBO3.out, HB3.out⟩
    case round =>
      obtain ⟨wo, rfl⟩ : ∃ wo, wo = wr := ⟨_, rfl⟩
      obtain ⟨i, M, ps, vr, hi, hMi, rfl, rfl, hI, hBo, hB⟩ := hrel
      have HI := Lib.hid hI
      have HBO := Lib.hid hBo
      have HB := Lib.hid hB
      clear hI hBo hB
      by_cases hlt : i < L
      · have hli : i < l.length := by rw [HL.out]; exact hlt
        obtain ⟨p2, cap2, e2, _, hc2⟩ := HV.out
        obtain ⟨g, off, e3, hcc⟩ := hc2 (by omega)
        have e4 := Value.slice.inj e2
        have e5 := e4.1
        clear e4
        subst e5
        subst e3
        obtain ⟨x0, x1, x2, x3, u, x4, x5⟩ := hcc i hli
        have hgl := blt x0
        have x0 := (HB.out.cell (p := ⟨g, off + i * 5, none⟩) hgl).trans x0
        have x1 := (HB.out.cell (p := ⟨g, off + i * 5 + 1, none⟩) hgl).trans x1
        have x2 := (HB.out.cell (p := ⟨g, off + i * 5 + 2, none⟩) hgl).trans x2
        have x3 := (HB.out.cell (p := ⟨g, off + i * 5 + 3, none⟩) hgl).trans x3
        have x4 := (HB.out.cell (p := ⟨g, off + i * 5 + 4, none⟩) hgl).trans x4
        have hix := HG3.out i hli
        obtain ⟨a, ha⟩ : ∃ a, l[i] = a := ⟨_, rfl⟩
        rw [ha] at x0 x1 x2 x3 x5 hix
        have hx5 := x5
        obtain ⟨pu, cu, rfl, _⟩ := hx5
        obtain ⟨lu, hlu⟩ : ∃ lu, a.ix.length = lu := ⟨_, rfl⟩
        have HIX := Lib.hid (show a.ix.length ≤ 1000 by omega)
        rw [hlu] at x4
        have HX0 := Lib.hid x5
        have hba := balC wo (.cells #[.int .i64 a.what, .int .i64 a.k, .int .i64 a.long, .int .u8 ((a.first.v : Nat) : Int), .slice pu a.ix.length cu] 34)
        have HX4 := Lib.hid (x5.below (HB.out.trans (hba.mono HB.out.size)))
        have HBX4 := Lib.hid (BoxAt.made wo a (.slice pu a.ix.length cu))
        have HB4 := Lib.hid (show Below w.heap.size w (wo.alloc (.cells #[.int .i64 a.what, .int .i64 a.k, .int .i64 a.long, .int .u8 ((a.first.v : Nat) : Int), .slice pu a.ix.length cu] 34)) from HB.out.alloc HB.out.size _)
        have HBO4 := Lib.hid (HBO.out.below hba)
        have HNG := Lib.hid (show ¬ CF b bm rb vr wo.heap.size from fun h => by have := HBO.out.flt _ h; omega)
        have HFG := Lib.hid (HBO.out.flt)
        have hgb : wo.heap.size < (wo.alloc (.cells #[.int .i64 a.what, .int .i64 a.k, .int .i64 a.long, .int .u8 ((a.first.v : Nat) : Int), .slice pu a.ix.length cu] 34)).heap.size := by simp
        rw [hlu] at HX0 HX4 HBX4 HB4 HBO4 hgb
        have HLU := Lib.hid hlu
        clear hcc hc2 ha x5 hix hlu e2 hba
        go_wp2_with fail
        generalize wo.alloc (.cells #[.int .i64 a.what, .int .i64 a.k, .int .i64 a.long, .int .u8 ((a.first.v : Nat) : Int), .slice pu lu cu] 34) = w4 at *
        have b4 := HBX4.out.c4
        have HLI := Lib.hid (lentI_any w4 _ a.ix HX4.out (by have := HIX.out; omega))
        refine HLI.out.mono ?_
        clear x0 x1 x2 x3 x4
        rintro e w5 ⟨vi, rfl, hin, hB5⟩
        have HIN := Lib.hid hin
        have HIG := Lib.hid (show ∀ g, vi.ownBlock = some g → ¬ CF b bm rb vr g ∧ g < w5.heap.size from fun g e => ⟨fun h => by
          have h1 := HFG.out g h
          have h2 := (hin.blk g e).1
          omega, (hin.blk g e).2⟩)
        have HBX5 := Lib.hid (HBX4.out.below hB5)
        have HB5 := Lib.hid (below_more HB4.out hB5 HB4.out.size)
        have HBO5 := Lib.hid (HBO4.out.below hB5)
        have hg5 : wo.heap.size < w5.heap.size := by have := hB5.size; omega
        clear hin hB5 b4
        have hM3 : M < 1000000000 := by omega
        have b0 := HBX5.out.c0
        have b1 := HBX5.out.c1
        have b4 := HBX5.out.c4
        have hp3 := pickN_lt a.what (m := 3) (by omega)
        go_wp2_with fail
        obtain hpw | hpw | hpw : pickN a.what 3 = 0 ∨ pickN a.what 3 = 1 ∨ pickN a.what 3 = 2 := by omega
        · have HPK := Lib.hid (by have h := pick_ex w5 a.what 3 (by omega) (by omega); rw [hpw] at h; exact h : Calls Tryz.prog 10 #[.int .i64 a.what, .int .i64 ((3 : Nat) : Int)] w5 fun e w' => e = .returned (.int .i64 ((0 : Nat) : Int)) ∧ w5 = w')
          refine HPK.out.mono ?_
          rintro e w' ⟨rfl, rfl⟩
          clear hpw hp3
          obtain ⟨M', hM', hPI⟩ := HI.out.stepE hR1 a.k a.ix
          have HPI := Lib.hid hPI
          clear hPI
          have HCT := Lib.hid (ct_any w5 HBO5.out HI.out hM3 a.k vi a.ix HIN.out.ints HIX.out)
          have HFW := Lib.hid (few_rr (fun h => few_turn a.k N a.ix h hN2))
          obtain ⟨er, her⟩ : ∃ q, askErr N a.k a.ix = q := ⟨_, rfl⟩
          have HER := Lib.hid her
          obtain ⟨Rw, hRw⟩ : ∃ q, RR (askErr N a.k a.ix) (turnL a.k.toNat (idxB (a.ix.take a.k.toNat))) = q := ⟨_, rfl⟩
          rw [hRw] at HFW HCT
          rw [her] at HCT
          have HRW := Lib.hid hRw
          clear her hRw
          go_wp2_with fail
          refine HCT.out.mono ?_
          rintro e w6 ⟨pa, la, ca, lo, rfl, hmid, hlone⟩
          obtain ⟨us, hus⟩ := hlone.us
          have hla : Rw.length = la := by
            obtain ⟨px, cx, ex⟩ := hlone.rows.shape
            exact ((Value.slice.inj ex).2.1).symm
          have HLA := Lib.hid hla
          have hla9 : la ≤ 900000 := by rw [← hla]; exact HFW.out.1
          have HMID := Lib.hid hmid
          have HUS := Lib.hid hus
          have HBX6 := Lib.hid (HBX5.out.kept hmid.k (fun h => HNG.out (by rcases h with h | h; exact .inl h; exact .inr (.inl h))))
          have HB6 := Lib.hid (HB5.out.trans (hmid.k.toBelow HB5.out.size (fun i hi => HFK.out _ _ _ HBO5.out i (by rcases hi with h | h; exact .inl h; exact .inr (.inl h)))))
          have HX6 := Lib.hid (HX0.out.below HB6.out)
          have HIN6 := Lib.hid (HIN.out.kept hmid.k (fun g e h => (HIG.out g e).1 (by rcases h with h | h; exact .inl h; exact .inr (.inl h))))
          have b1' := HBX6.out.c1
          have b4' := HBX6.out.c4
          have HRT := Lib.hid (rt_any hmid HI.out hN2 hR1 hR2 hM3 _ HX6.out HIX.out)
          rw [HRW.out, HER.out] at HRT
          clear hus hla hmid hlone b0 b1 b4
          go_wp2_with fail
          refine HRT.out.mono ?_
          rintro e w7 ⟨pr, lr, cr, v', rfl, hrows, haft⟩
          have HROW := Lib.hid hrows
          have HAF := Lib.hid haft.1
          have HBX7 := Lib.hid (HBX6.out.kept haft.2 (fun h => HNG.out (by rcases h with h | h; exact .inr (.inr (.inl h)); exact .inr (.inr (.inr h)))))
          have HB7 := Lib.hid (HB6.out.trans (haft.2.toBelow HB6.out.size (fun i hi => HFK.out _ _ _ HBO5.out i (by rcases hi with h | h; exact .inr (.inr (.inl h)); exact .inr (.inr (.inr h))))))
          have HIN7 := Lib.hid (HIN6.out.kept haft.2 (fun g e h => (HIG.out g e).1 (by rcases h with h | h; exact .inr (.inr (.inl h)); exact .inr (.inr (.inr h)))))
          have HUS7 := Lib.hid (HUS.out.kept haft.2 (fun i h => by
            have h1 := HMID.out.fl i (by rcases h with h | h; exact .inr (.inr (.inl h)); exact .inr (.inr (.inr h)))
            have h2 := HMID.out.l1
            omega))
          clear hrows haft b1' b4'
          have HSR := Lib.hid (sameRows_any w7 _ _ Rw HUS7.out.rows HROW.out (by have := HFW.out.1; omega) (fun i h => by have := HFW.out.2 i h; omega))
          go_wp2_with fail
          refine HSR.out.mono ?_
          rintro e w8 ⟨rfl, q8, rfl⟩
          have hd8 := drewBelow w7 q8
          have HB8 := Lib.hid (below_more HB7.out hd8 HB7.out.size)
          have HBX8 := Lib.hid (HBX7.out.below hd8)
          have HIN8 := Lib.hid (HIN7.out.below hd8)
          have HUS8 := Lib.hid (HUS7.out.below hd8)
          have HAF8 := Lib.hid (show ∀ (S : Nat → Prop) w3, Kept S (w7.drewN q8) w3 → (∀ i, S i → lo ≤ i ∧ i < w6.heap.size) → Both w3 base b bm rb v' (ps.step a.k a.ix) from fun S w3 hk hS => HAF.out S w3 (((Kept.below hd8).mono (fun _ _ h => h.elim)).trans hk (fun _ _ h => h)) hS)
          clear hd8
          generalize w7.drewN q8 = w8 at *
          go_wp2
          go_loopw [18] (fun i wr => ∃ m : Nat, m ≤ la ∧ i = .int .i64 (m : Int) ∧ Kept (RowsDone us m) w8 wr) (fun i _ => la - (intOf i).toNat)
          case atStart => exact ⟨0, Nat.zero_le _, rfl, Kept.refl _ _⟩
          case round =>
            obtain ⟨m, hm, rfl, hkr⟩ := hrel
            have HKR := Lib.hid hkr
            by_cases hltm : m < la
            · obtain ⟨gr, cr2, x, e1, x1, x2, x3⟩ := HUS8.out.next hkr (by rw [HLA.out]; exact hltm)
              have e2 := (Value.slice.inj e1).1
              subst e2
              have HOV := Lib.hid (overB_any wr x _ x3 (HFW.out.2 m (by rw [HLA.out]; exact hltm)))
              have HU := Lib.hid x2
              clear e1 x2 x3 hkr
              go_wp2_with fail
              refine HOV.out.mono ?_
              rintro e wx ⟨rfl, hkx⟩
              have HKX := Lib.hid hkx
              clear hkx
              go_wp2
              go_roundw
              case rel => exact ⟨m + 1, by omega, by go_num, RowsDone.step HKR.out HU.out HKX.out⟩
              case measure => simp [intOf]; omega
            · obtain rfl : m = la := by omega
              have HBO9 := Lib.hid (HAF8.out _ wr hkr (fun i hi => HUS8.out.done _ i hi))
              have hlo := HMID.out.l1
              have HBX9 := Lib.hid (HBX8.out.kept hkr (fun hd => by have := (HUS8.out.done _ _ hd).1; omega))
              have HIN9 := Lib.hid (HIN8.out.kept hkr (fun g e hd => by have := (HUS8.out.done _ _ hd).1; have := (HIG.out g e).2; omega))
              have HB9 := Lib.hid (HB8.out.trans (hkr.toBelow HB8.out.size (fun i hd => by have := (HUS8.out.done _ _ hd).1; have := HB5.out.size; omega)))
              clear hkr hlo
              go_wp2_with fail
              refine (same_any wr HBO9.out).mono ?_
              rintro e wy ⟨rfl, hBy⟩
              have HBOY := Lib.hid ((HBO9.out).below hBy)
              have HBXY := Lib.hid ((HBX9.out).below hBy)
              have HINY := Lib.hid ((HIN9.out).below hBy)
              have HBY := Lib.hid (below_more HB9.out hBy (HB9.out).size)
              have HXY := Lib.hid (HX0.out.below HBY.out)
              have b4y := HBXY.out.c4
              have HKY := Lib.hid (keptI_any wy vi _ a.ix _ HINY.out HXY.out (by have := HIX.out; omega))
              clear hBy
              go_wp2_with fail
              refine HKY.out.mono ?_
              rintro e wz ⟨rfl, qz, rfl⟩
              have HBZ := Lib.hid (below_more HBY.out (drewBelow wy qz) HBY.out.size)
              have HBOZ := Lib.hid (HBOY.out.below (drewBelow wy qz))
              clear b4y
              generalize wy.drewN qz = wz at *
              go_wp2
              go_roundw
              case rel => exact ⟨i + 1, M', _, _, by omega, by omega, rfl, by go_num, HPI.out, HBOZ.out, HBZ.out⟩
              case measure => simp [intOf]; omega
        · have HPK := Lib.hid (by have h := pick_ex w5 a.what 3 (by omega) (by omega); rw [hpw] at h; exact h : Calls Tryz.prog 10 #[.int .i64 a.what, .int .i64 ((3 : Nat) : Int)] w5 fun e w' => e = .returned (.int .i64 ((1 : Nat) : Int)) ∧ w5 = w')
          refine HPK.out.mono ?_
          rintro e w' ⟨rfl, rfl⟩
          clear hpw hp3
          obtain ⟨M', hM', hPI⟩ := HI.out.stepE hR1 a.k a.ix
          have HPI := Lib.hid hPI
          clear hPI
          have HX5 := Lib.hid (HX0.out.below HB5.out)
          have HFW := Lib.hid (few_rr (fun h => few_dec a.k N a.ix h hN2 (idxB (a.ix.take a.k.toNat)) (hRow (heldL a)) (heldL_w0 a)))
          obtain ⟨er, her⟩ : ∃ q, askErr N a.k a.ix = q := ⟨_, rfl⟩
          have HER := Lib.hid her
          obtain ⟨Rw, hRw⟩ : ∃ q, RR (askErr N a.k a.ix) (decL a.k.toNat (idxB (a.ix.take a.k.toNat)) (hRow (heldL a)) ((heldL a).getD 0 (0, [])).2.length) = q := ⟨_, rfl⟩
          rw [hRw] at HFW
          have HRW := Lib.hid hRw
          clear her hRw b0 b1 b4
          have HKD := Lib.hid (show Kept (CK b bm) w5 w5.drew from ⟨rfl, rfl, rfl, Nat.le_refl _, fun _ _ _ => rfl⟩)
          go_wp2_with fail
          refine s_start 11 (fun w' => Kept (CK b bm) w5 w') (by as_aux_lemma => kernel_rfl) (by as_aux_lemma => kernel_rfl) HKD.out ?_
          refine s_take 0 (by as_aux_lemma => kernel_rfl) (by as_aux_lemma => kernel_rfl) (by as_aux_lemma => kernel_rfl) (by as_aux_lemma => kernel_rfl) HKD.out (fun oi ho => ?_)
          simp only [List.getElem?_toArray, List.getElem?_cons_succ, List.getElem?_cons_zero, Option.some.injEq] at ho
          subst ho
          refine ⟨?_, Or.inl ⟨by rfl, fun w _ => ?_⟩, ?_⟩
          rotate_left
          · (go_simp <;> with_reducible rfl)
          try simp only [Act.put, List.setIfInBounds_toArray, List.set_cons_zero, List.set_cons_succ]
          refine s_take 1 (by as_aux_lemma => kernel_rfl) (by as_aux_lemma => kernel_rfl) (by as_aux_lemma => kernel_rfl) (by as_aux_lemma => kernel_rfl) HKD.out (fun oi ho => ?_)
          simp only [List.getElem?_toArray, List.getElem?_cons_succ, List.getElem?_cons_zero, Option.some.injEq] at ho
          subst ho
          refine ⟨?_, Or.inl ⟨by rfl, fun w _ => ?_⟩, ?_⟩
          rotate_left
          · (go_simp <;> with_reducible rfl)
          try simp only [Act.put, List.setIfInBounds_toArray, List.set_cons_zero, List.set_cons_succ]
          refine s_take 2 (by as_aux_lemma => kernel_rfl) (by as_aux_lemma => kernel_rfl) (by as_aux_lemma => kernel_rfl) (by as_aux_lemma => kernel_rfl) HKD.out (fun oi ho => ?_)
          simp only [List.getElem?_toArray, List.getElem?_cons_succ, List.getElem?_cons_zero, Option.some.injEq] at ho
          subst ho
          refine ⟨.int .i64 a.k, Or.inl ⟨by rfl, fun w' hS' => ?_⟩, ?_⟩
          · have hb' := HBX5.out.kept hS' (fun h => HNG.out (by rcases h with h | h; exact .inl h; exact .inr (.inl h)))
            have q0 := hb'.c0
            have q1 := hb'.c1
            have q2 := hb'.c2
            have q3 := hb'.c3
            have q4 := hb'.c4
            unfold bv at q3
            clear hb'
            (go_simp <;> with_reducible rfl)
          try simp only [Act.put, List.setIfInBounds_toArray, List.set_cons_zero, List.set_cons_succ]
          refine s_take 3 (by as_aux_lemma => kernel_rfl) (by as_aux_lemma => kernel_rfl) (by as_aux_lemma => kernel_rfl) (by as_aux_lemma => kernel_rfl) HKD.out (fun oi ho => ?_)
          simp only [List.getElem?_toArray, List.getElem?_cons_succ, List.getElem?_cons_zero, Option.some.injEq] at ho
          subst ho
          refine ⟨.agg #[.int .i64 a.what, .int .i64 a.k, .int .i64 a.long, .int .u8 ((a.first.v : Nat) : Int), .slice pu lu cu], Or.inl ⟨by rfl, fun w' hS' => ?_⟩, ?_⟩
          · have hb' := HBX5.out.kept hS' (fun h => HNG.out (by rcases h with h | h; exact .inl h; exact .inr (.inl h)))
            have q0 := hb'.c0
            have q1 := hb'.c1
            have q2 := hb'.c2
            have q3 := hb'.c3
            have q4 := hb'.c4
            unfold bv at q3
            clear hb'
            (go_simp <;> with_reducible rfl)
          try simp only [Act.put, List.setIfInBounds_toArray, List.set_cons_zero, List.set_cons_succ]
          refine s_all (rs := [4]) (by as_aux_lemma => kernel_rfl) (by simp) ?_
          refine s_step 4 (by as_aux_lemma => kernel_rfl) (fun o ho K hK => ?_) AllReadyH.nil
          simp only [List.getElem?_toArray, List.getElem?_cons_succ, List.getElem?_cons_zero, Option.some.injEq] at ho
          subst ho
          go_simp
          refine (held_any w5.drew a _ (HX5.out.below (show Below w5.heap.size w5 w5.drew from drewBelow w5 1)) HIX.out).mono ?_
          rintro e wa ⟨hvv, rfl, hnew, hba⟩
          have HNW := Lib.hid hnew
          have HBA := Lib.hid (show Below w5.heap.size w5 wa from ⟨hba.os, hba.tape, hba.output, hba.size, hba.block⟩)
          have HKA := Lib.hid (show Kept (CK b bm) w5 wa from (Kept.below HBA.out).mono (fun _ _ h => h.elim))
          clear hnew hba
          go_wp2_with fail
          refine hK.out _ _ HKA.out ?_
          clear hK K
          try simp only [Act.put, List.setIfInBounds_toArray, List.set_cons_zero, List.set_cons_succ]
          refine s_all (rs := [5]) (by as_aux_lemma => kernel_rfl) (by simp) ?_
          refine s_step 5 (by as_aux_lemma => kernel_rfl) (fun o ho K hK => ?_) AllReadyH.nil
          simp only [List.getElem?_toArray, List.getElem?_cons_succ, List.getElem?_cons_zero, Option.some.injEq] at ho
          subst ho
          go_simp
          have HBOA := Lib.hid (HBO5.out.below HBA.out)
          have HD := Lib.hid (cd_any wa HBOA.out HI.out hM3 a.k hvv a (HNW.out.far (F := CF b bm rb vr) HBO5.out.flt) HIX.out)
          rw [HRW.out, HER.out] at HD
          refine HD.out.mono ?_
          rintro e w6 ⟨pa, la, ca, lo, rfl, hmid, hlone⟩
          have HMID := Lib.hid hmid
          have HLONE := Lib.hid hlone
          have HK6 := Lib.hid (HKA.out.trans hmid.k (fun _ _ h => h))
          clear hmid hlone
          go_wp2_with fail
          refine hK.out _ _ HK6.out ?_
          clear hK K
          try simp only [Act.put, List.setIfInBounds_toArray, List.set_cons_zero, List.set_cons_succ]
          refine s_take 6 (by as_aux_lemma => kernel_rfl) (by as_aux_lemma => kernel_rfl) (by as_aux_lemma => kernel_rfl) (by as_aux_lemma => kernel_rfl) HK6.out (fun oi ho => ?_)
          simp only [List.getElem?_toArray, List.getElem?_cons_succ, List.getElem?_cons_zero, Option.some.injEq] at ho
          subst ho
          refine ⟨?_, Or.inl ⟨by rfl, fun w _ => ?_⟩, ?_⟩
          rotate_left
          · (go_simp <;> with_reducible rfl)
          try simp only [Act.put, List.setIfInBounds_toArray, List.set_cons_zero, List.set_cons_succ]
          refine s_take 7 (by as_aux_lemma => kernel_rfl) (by as_aux_lemma => kernel_rfl) (by as_aux_lemma => kernel_rfl) (by as_aux_lemma => kernel_rfl) HK6.out (fun oi ho => ?_)
          simp only [List.getElem?_toArray, List.getElem?_cons_succ, List.getElem?_cons_zero, Option.some.injEq] at ho
          subst ho
          refine ⟨?_, Or.inl ⟨by rfl, fun w _ => ?_⟩, ?_⟩
          rotate_left
          · (go_simp <;> with_reducible rfl)
          try simp only [Act.put, List.setIfInBounds_toArray, List.set_cons_zero, List.set_cons_succ]
          refine s_take 8 (by as_aux_lemma => kernel_rfl) (by as_aux_lemma => kernel_rfl) (by as_aux_lemma => kernel_rfl) (by as_aux_lemma => kernel_rfl) HK6.out (fun oi ho => ?_)
          simp only [List.getElem?_toArray, List.getElem?_cons_succ, List.getElem?_cons_zero, Option.some.injEq] at ho
          subst ho
          refine ⟨?_, Or.inl ⟨by rfl, fun w _ => ?_⟩, ?_⟩
          rotate_left
          · (go_simp <;> with_reducible rfl)
          try simp only [Act.put, List.setIfInBounds_toArray, List.set_cons_zero, List.set_cons_succ]
          refine s_take 9 (by as_aux_lemma => kernel_rfl) (by as_aux_lemma => kernel_rfl) (by as_aux_lemma => kernel_rfl) (by as_aux_lemma => kernel_rfl) HK6.out (fun oi ho => ?_)
          simp only [List.getElem?_toArray, List.getElem?_cons_succ, List.getElem?_cons_zero, Option.some.injEq] at ho
          subst ho
          refine ⟨?_, Or.inl ⟨by rfl, fun w _ => ?_⟩, ?_⟩
          rotate_left
          · (go_simp <;> with_reducible rfl)
          try simp only [Act.put, List.setIfInBounds_toArray, List.set_cons_zero, List.set_cons_succ]
          refine s_take 10 (by as_aux_lemma => kernel_rfl) (by as_aux_lemma => kernel_rfl) (by as_aux_lemma => kernel_rfl) (by as_aux_lemma => kernel_rfl) HK6.out (fun oi ho => ?_)
          simp only [List.getElem?_toArray, List.getElem?_cons_succ, List.getElem?_cons_zero, Option.some.injEq] at ho
          subst ho
          refine ⟨?_, Or.inl ⟨by rfl, fun w _ => ?_⟩, ?_⟩
          rotate_left
          · (go_simp <;> with_reducible rfl)
          try simp only [Act.put, List.setIfInBounds_toArray, List.set_cons_zero, List.set_cons_succ]
          refine s_done (by as_aux_lemma => kernel_rfl) ?_
          have HBX6 := Lib.hid (HBX5.out.kept HK6.out (fun h => HNG.out (by rcases h with h | h; exact .inl h; exact .inr (.inl h))))
          have HB6 := Lib.hid (HB5.out.trans (HK6.out.toBelow HB5.out.size (fun i hi => HFK.out _ _ _ HBO5.out i (by rcases hi with h | h; exact .inl h; exact .inr (.inl h)))))
          have HX6 := Lib.hid (HX0.out.below HB6.out)
          have HIN6 := Lib.hid (HIN.out.kept HK6.out (fun g e h => (HIG.out g e).1 (by rcases h with h | h; exact .inl h; exact .inr (.inl h))))
          have HKC := Lib.hid (show Kept (CF b bm rb vr) w6 w6.drew from ⟨rfl, rfl, rfl, Nat.le_refl _, fun _ _ _ => rfl⟩)
          go_wp2_with fail
          refine s_start 12 (fun w' => Kept (CF b bm rb vr) w6 w') (by as_aux_lemma => kernel_rfl) (by as_aux_lemma => kernel_rfl) HKC.out ?_
          refine s_take 0 (by as_aux_lemma => kernel_rfl) (by as_aux_lemma => kernel_rfl) (by as_aux_lemma => kernel_rfl) (by as_aux_lemma => kernel_rfl) HKC.out (fun oi ho => ?_)
          simp only [List.getElem?_toArray, List.getElem?_cons_succ, List.getElem?_cons_zero, Option.some.injEq] at ho
          subst ho
          refine ⟨?_, Or.inl ⟨by rfl, fun w _ => ?_⟩, ?_⟩
          rotate_left
          · (go_simp <;> with_reducible rfl)
          try simp only [Act.put, List.setIfInBounds_toArray, List.set_cons_zero, List.set_cons_succ]
          refine s_take 1 (by as_aux_lemma => kernel_rfl) (by as_aux_lemma => kernel_rfl) (by as_aux_lemma => kernel_rfl) (by as_aux_lemma => kernel_rfl) HKC.out (fun oi ho => ?_)
          simp only [List.getElem?_toArray, List.getElem?_cons_succ, List.getElem?_cons_zero, Option.some.injEq] at ho
          subst ho
          refine ⟨?_, Or.inl ⟨by rfl, fun w _ => ?_⟩, ?_⟩
          rotate_left
          · (go_simp <;> with_reducible rfl)
          try simp only [Act.put, List.setIfInBounds_toArray, List.set_cons_zero, List.set_cons_succ]
          refine s_take 2 (by as_aux_lemma => kernel_rfl) (by as_aux_lemma => kernel_rfl) (by as_aux_lemma => kernel_rfl) (by as_aux_lemma => kernel_rfl) HKC.out (fun oi ho => ?_)
          simp only [List.getElem?_toArray, List.getElem?_cons_succ, List.getElem?_cons_zero, Option.some.injEq] at ho
          subst ho
          refine ⟨.int .i64 a.k, Or.inl ⟨by rfl, fun w' hS' => ?_⟩, ?_⟩
          · have hb' := HBX6.out.kept hS' HNG.out
            have q0 := hb'.c0
            have q1 := hb'.c1
            have q2 := hb'.c2
            have q3 := hb'.c3
            have q4 := hb'.c4
            unfold bv at q3
            clear hb'
            (go_simp <;> with_reducible rfl)
          try simp only [Act.put, List.setIfInBounds_toArray, List.set_cons_zero, List.set_cons_succ]
          refine s_take 3 (by as_aux_lemma => kernel_rfl) (by as_aux_lemma => kernel_rfl) (by as_aux_lemma => kernel_rfl) (by as_aux_lemma => kernel_rfl) HKC.out (fun oi ho => ?_)
          simp only [List.getElem?_toArray, List.getElem?_cons_succ, List.getElem?_cons_zero, Option.some.injEq] at ho
          subst ho
          refine ⟨.agg #[.int .i64 a.what, .int .i64 a.k, .int .i64 a.long, .int .u8 ((a.first.v : Nat) : Int), .slice pu lu cu], Or.inl ⟨by rfl, fun w' hS' => ?_⟩, ?_⟩
          · have hb' := HBX6.out.kept hS' HNG.out
            have q0 := hb'.c0
            have q1 := hb'.c1
            have q2 := hb'.c2
            have q3 := hb'.c3
            have q4 := hb'.c4
            unfold bv at q3
            clear hb'
            (go_simp <;> with_reducible rfl)
          try simp only [Act.put, List.setIfInBounds_toArray, List.set_cons_zero, List.set_cons_succ]
          refine s_all (rs := [4]) (by as_aux_lemma => kernel_rfl) (by simp) ?_
          refine s_step 4 (by as_aux_lemma => kernel_rfl) (fun o ho K hK => ?_) AllReadyH.nil
          simp only [List.getElem?_toArray, List.getElem?_cons_succ, List.getElem?_cons_zero, Option.some.injEq] at ho
          subst ho
          go_simp
          refine (held_any w6.drew a _ (HX6.out.below (show Below w6.heap.size w6 w6.drew from drewBelow w6 1)) HIX.out).mono ?_
          rintro e wb ⟨hv6, rfl, hn6, hb6⟩
          have HNW6 := Lib.hid hn6
          have HBB6 := Lib.hid (show Below w6.heap.size w6 wb from ⟨hb6.os, hb6.tape, hb6.output, hb6.size, hb6.block⟩)
          have HKB := Lib.hid (show Kept (CF b bm rb vr) w6 wb from (Kept.below HBB6.out).mono (fun _ _ h => h.elim))
          clear hn6 hb6
          go_wp2_with fail
          refine hK.out _ _ HKB.out ?_
          clear hK K
          try simp only [Act.put, List.setIfInBounds_toArray, List.set_cons_zero, List.set_cons_succ]
          refine s_all (rs := [5]) (by as_aux_lemma => kernel_rfl) (by simp) ?_
          refine s_step 5 (by as_aux_lemma => kernel_rfl) (fun o ho K hK => ?_) AllReadyH.nil
          simp only [List.getElem?_toArray, List.getElem?_cons_succ, List.getElem?_cons_zero, Option.some.injEq] at ho
          subst ho
          go_simp
          refine (theirs_any wb hv6 (heldL a) (HNW6.out.far (F := fun _ => False) (fun _ h => h.elim)).held (by rw [heldL_len]; exact HIX.out)).mono ?_
          rintro e wc ⟨hv7, rfl, hh7, hb7⟩
          have HH7 := Lib.hid hh7
          have HBC6 := Lib.hid (below_more HBB6.out hb7 HBB6.out.size)
          have HKCC := Lib.hid (show Kept (CF b bm rb vr) w6 wc from (Kept.below HBC6.out).mono (fun _ _ h => h.elim))
          clear hh7 hb7
          go_wp2_with fail
          refine hK.out _ _ HKCC.out ?_
          clear hK K
          try simp only [Act.put, List.setIfInBounds_toArray, List.set_cons_zero, List.set_cons_succ]
          refine s_all (rs := [6]) (by as_aux_lemma => kernel_rfl) (by simp) ?_
          refine s_step 6 (by as_aux_lemma => kernel_rfl) (fun o ho K hK => ?_) AllReadyH.nil
          simp only [List.getElem?_toArray, List.getElem?_cons_succ, List.getElem?_cons_zero, Option.some.injEq] at ho
          subst ho
          go_simp
          have HRD := Lib.hid (rd_any HMID.out HI.out hN2 hR1 hR2 hM3 wc HBC6.out hv7 HH7.out HIX.out)
          rw [HRW.out, HER.out] at HRD
          refine HRD.out.mono ?_
          rintro e w7 ⟨pr, lr, cr, v', rfl, hrows, haft⟩
          have HROW := Lib.hid hrows
          have HAFT := Lib.hid haft
          have HK7 := Lib.hid (show Kept (CF b bm rb vr) w6 w7 from haft.2.mono (fun i _ h => by rcases h with h | h; exact .inr (.inr (.inl h)); exact .inr (.inr (.inr h))))
          clear hrows haft
          go_wp2_with fail
          refine hK.out _ _ HK7.out ?_
          clear hK K
          try simp only [Act.put, List.setIfInBounds_toArray, List.set_cons_zero, List.set_cons_succ]
          refine s_take 7 (by as_aux_lemma => kernel_rfl) (by as_aux_lemma => kernel_rfl) (by as_aux_lemma => kernel_rfl) (by as_aux_lemma => kernel_rfl) HK7.out (fun oi ho => ?_)
          simp only [List.getElem?_toArray, List.getElem?_cons_succ, List.getElem?_cons_zero, Option.some.injEq] at ho
          subst ho
          refine ⟨?_, Or.inl ⟨by rfl, fun w _ => ?_⟩, ?_⟩
          rotate_left
          · (go_simp <;> with_reducible rfl)
          try simp only [Act.put, List.setIfInBounds_toArray, List.set_cons_zero, List.set_cons_succ]
          refine s_take 8 (by as_aux_lemma => kernel_rfl) (by as_aux_lemma => kernel_rfl) (by as_aux_lemma => kernel_rfl) (by as_aux_lemma => kernel_rfl) HK7.out (fun oi ho => ?_)
          simp only [List.getElem?_toArray, List.getElem?_cons_succ, List.getElem?_cons_zero, Option.some.injEq] at ho
          subst ho
          refine ⟨?_, Or.inl ⟨by rfl, fun w _ => ?_⟩, ?_⟩
          rotate_left
          · (go_simp <;> with_reducible rfl)
          try simp only [Act.put, List.setIfInBounds_toArray, List.set_cons_zero, List.set_cons_succ]
          refine s_take 9 (by as_aux_lemma => kernel_rfl) (by as_aux_lemma => kernel_rfl) (by as_aux_lemma => kernel_rfl) (by as_aux_lemma => kernel_rfl) HK7.out (fun oi ho => ?_)
          simp only [List.getElem?_toArray, List.getElem?_cons_succ, List.getElem?_cons_zero, Option.some.injEq] at ho
          subst ho
          refine ⟨?_, Or.inl ⟨by rfl, fun w _ => ?_⟩, ?_⟩
          rotate_left
          · (go_simp <;> with_reducible rfl)
          try simp only [Act.put, List.setIfInBounds_toArray, List.set_cons_zero, List.set_cons_succ]
          refine s_take 10 (by as_aux_lemma => kernel_rfl) (by as_aux_lemma => kernel_rfl) (by as_aux_lemma => kernel_rfl) (by as_aux_lemma => kernel_rfl) HK7.out (fun oi ho => ?_)
          simp only [List.getElem?_toArray, List.getElem?_cons_succ, List.getElem?_cons_zero, Option.some.injEq] at ho
          subst ho
          refine ⟨?_, Or.inl ⟨by rfl, fun w _ => ?_⟩, ?_⟩
          rotate_left
          · (go_simp <;> with_reducible rfl)
          try simp only [Act.put, List.setIfInBounds_toArray, List.set_cons_zero, List.set_cons_succ]
          refine s_take 11 (by as_aux_lemma => kernel_rfl) (by as_aux_lemma => kernel_rfl) (by as_aux_lemma => kernel_rfl) (by as_aux_lemma => kernel_rfl) HK7.out (fun oi ho => ?_)
          simp only [List.getElem?_toArray, List.getElem?_cons_succ, List.getElem?_cons_zero, Option.some.injEq] at ho
          subst ho
          refine ⟨?_, Or.inl ⟨by rfl, fun w _ => ?_⟩, ?_⟩
          rotate_left
          · (go_simp <;> with_reducible rfl)
          try simp only [Act.put, List.setIfInBounds_toArray, List.set_cons_zero, List.set_cons_succ]
          refine s_done (by as_aux_lemma => kernel_rfl) ?_
          have HBX7 := Lib.hid (HBX6.out.kept HK7.out HNG.out)
          have HB7 := Lib.hid (HB6.out.trans (HK7.out.toBelow HB6.out.size (fun i hi => HFK.out _ _ _ HBO5.out i hi)))
          have HIN7 := Lib.hid (HIN6.out.kept HK7.out (fun g e h => (HIG.out g e).1 h))
          have HLN7 := Lib.hid (HLONE.out.kept HK7.out (fun i _ hlo h => by
            have h1 := HMID.out.fl i h
            have h2 := HMID.out.l1
            omega))
          have HSR := Lib.hid (sameRows_any w7 _ _ Rw HLN7.out.rows HROW.out (by have := HFW.out.1; omega) (fun i h => by have := HFW.out.2 i h; omega))
          go_wp2_with fail
          refine HSR.out.mono ?_
          rintro e w8 ⟨rfl, q8, rfl⟩
          have hd8 := drewBelow w7 q8
          have HB8 := Lib.hid (below_more HB7.out hd8 HB7.out.size)
          have HBX8 := Lib.hid (HBX7.out.below hd8)
          have HIN8 := Lib.hid (HIN7.out.below hd8)
          have HBO8 := Lib.hid (HAFT.out.1 (fun _ => False) (w7.drewN q8) (Kept.below hd8) (fun _ h => h.elim))
          clear hd8
          generalize w7.drewN q8 = w8 at *
          go_wp2_with fail
          refine (same_any w8 HBO8.out).mono ?_
          rintro e wy ⟨rfl, hBy⟩
          have HBOY := Lib.hid ((HBO8.out).below hBy)
          have HBXY := Lib.hid ((HBX8.out).below hBy)
          have HINY := Lib.hid ((HIN8.out).below hBy)
          have HBY := Lib.hid (below_more HB8.out hBy (HB8.out).size)
          have HXY := Lib.hid (HX0.out.below HBY.out)
          have b4y := HBXY.out.c4
          have HKY := Lib.hid (keptI_any wy vi _ a.ix _ HINY.out HXY.out (by have := HIX.out; omega))
          clear hBy
          go_wp2_with fail
          refine HKY.out.mono ?_
          rintro e wz ⟨rfl, qz, rfl⟩
          have HBZ := Lib.hid (below_more HBY.out (drewBelow wy qz) HBY.out.size)
          have HBOZ := Lib.hid (HBOY.out.below (drewBelow wy qz))
          clear b4y
          generalize wy.drewN qz = wz at *
          go_wp2
          go_roundw
          case rel => exact ⟨i + 1, M', _, _, by omega, by omega, rfl, by go_num, HPI.out, HBOZ.out, HBZ.out⟩
          case measure => simp [intOf]; omega
        · have HPK := Lib.hid (by have h := pick_ex w5 a.what 3 (by omega) (by omega); rw [hpw] at h; exact h : Calls Tryz.prog 10 #[.int .i64 a.what, .int .i64 ((3 : Nat) : Int)] w5 fun e w' => e = .returned (.int .i64 ((2 : Nat) : Int)) ∧ w5 = w')
          refine HPK.out.mono ?_
          rintro e w' ⟨rfl, rfl⟩
          clear hpw hp3
          obtain ⟨M', hM', hPI⟩ : ∃ M', M' ≤ M + 1 ∧ PInv N R M' ps := ⟨M, by omega, HI.out⟩
          have HPI := Lib.hid hPI
          clear hPI
          have HX5 := Lib.hid (HX0.out.below HB5.out)
          obtain ⟨hr, hhr⟩ : ∃ q, rhasB ps a.k a.ix = q := ⟨_, rfl⟩
          have HRR := Lib.hid hhr
          have HHC := Lib.hid (show Calls Tryz.prog 19 #[.pointer (some ⟨b, 0, none⟩), .int .i64 a.k, vi] w5.drew fun e w' => e = .returned (.bool hr) ∧ Below w5.drew.heap.size w5.drew w' from by
            have hb5 := HBO5.out.below (drewBelow w5 1)
            obtain ⟨s, hc, hp⟩ := hb5.c
            have h := has_any w5.drew hc a.k vi a.ix (HIN.out.below (drewBelow w5 1)).ints (by have := HIX.out; omega)
            rw [has_same hc, hp, HRR.out] at h
            exact h)
          clear hhr b0 b1 b4
          have HKD := Lib.hid (show Below w5.heap.size w5 w5.drew from drewBelow w5 1)
          go_wp2_with fail
          refine s_start 12 (fun w' => Below w5.heap.size w5 w') (by as_aux_lemma => kernel_rfl) (by as_aux_lemma => kernel_rfl) HKD.out ?_
          refine s_take 0 (by as_aux_lemma => kernel_rfl) (by as_aux_lemma => kernel_rfl) (by as_aux_lemma => kernel_rfl) (by as_aux_lemma => kernel_rfl) HKD.out (fun oi ho => ?_)
          simp only [List.getElem?_toArray, List.getElem?_cons_succ, List.getElem?_cons_zero, Option.some.injEq] at ho
          subst ho
          refine ⟨?_, Or.inl ⟨by rfl, fun w _ => ?_⟩, ?_⟩
          rotate_left
          · (go_simp <;> with_reducible rfl)
          try simp only [Act.put, List.setIfInBounds_toArray, List.set_cons_zero, List.set_cons_succ]
          refine s_take 1 (by as_aux_lemma => kernel_rfl) (by as_aux_lemma => kernel_rfl) (by as_aux_lemma => kernel_rfl) (by as_aux_lemma => kernel_rfl) HKD.out (fun oi ho => ?_)
          simp only [List.getElem?_toArray, List.getElem?_cons_succ, List.getElem?_cons_zero, Option.some.injEq] at ho
          subst ho
          refine ⟨?_, Or.inl ⟨by rfl, fun w _ => ?_⟩, ?_⟩
          rotate_left
          · (go_simp <;> with_reducible rfl)
          try simp only [Act.put, List.setIfInBounds_toArray, List.set_cons_zero, List.set_cons_succ]
          refine s_take 2 (by as_aux_lemma => kernel_rfl) (by as_aux_lemma => kernel_rfl) (by as_aux_lemma => kernel_rfl) (by as_aux_lemma => kernel_rfl) HKD.out (fun oi ho => ?_)
          simp only [List.getElem?_toArray, List.getElem?_cons_succ, List.getElem?_cons_zero, Option.some.injEq] at ho
          subst ho
          refine ⟨.int .i64 a.k, Or.inl ⟨by rfl, fun w' hS' => ?_⟩, ?_⟩
          · have hb' := HBX5.out.below hS'
            have q0 := hb'.c0
            have q1 := hb'.c1
            have q2 := hb'.c2
            have q3 := hb'.c3
            have q4 := hb'.c4
            unfold bv at q3
            clear hb'
            (go_simp <;> with_reducible rfl)
          try simp only [Act.put, List.setIfInBounds_toArray, List.set_cons_zero, List.set_cons_succ]
          refine s_take 3 (by as_aux_lemma => kernel_rfl) (by as_aux_lemma => kernel_rfl) (by as_aux_lemma => kernel_rfl) (by as_aux_lemma => kernel_rfl) HKD.out (fun oi ho => ?_)
          simp only [List.getElem?_toArray, List.getElem?_cons_succ, List.getElem?_cons_zero, Option.some.injEq] at ho
          subst ho
          refine ⟨?_, Or.inl ⟨by rfl, fun w _ => ?_⟩, ?_⟩
          rotate_left
          · (go_simp <;> with_reducible rfl)
          try simp only [Act.put, List.setIfInBounds_toArray, List.set_cons_zero, List.set_cons_succ]
          refine s_take 5 (by as_aux_lemma => kernel_rfl) (by as_aux_lemma => kernel_rfl) (by as_aux_lemma => kernel_rfl) (by as_aux_lemma => kernel_rfl) HKD.out (fun oi ho => ?_)
          simp only [List.getElem?_toArray, List.getElem?_cons_succ, List.getElem?_cons_zero, Option.some.injEq] at ho
          subst ho
          refine ⟨?_, Or.inl ⟨by rfl, fun w _ => ?_⟩, ?_⟩
          rotate_left
          · (go_simp <;> with_reducible rfl)
          try simp only [Act.put, List.setIfInBounds_toArray, List.set_cons_zero, List.set_cons_succ]
          refine s_take 6 (by as_aux_lemma => kernel_rfl) (by as_aux_lemma => kernel_rfl) (by as_aux_lemma => kernel_rfl) (by as_aux_lemma => kernel_rfl) HKD.out (fun oi ho => ?_)
          simp only [List.getElem?_toArray, List.getElem?_cons_succ, List.getElem?_cons_zero, Option.some.injEq] at ho
          subst ho
          refine ⟨?_, Or.inl ⟨by rfl, fun w _ => ?_⟩, ?_⟩
          rotate_left
          · (go_simp <;> with_reducible rfl)
          try simp only [Act.put, List.setIfInBounds_toArray, List.set_cons_zero, List.set_cons_succ]
          refine s_take 7 (by as_aux_lemma => kernel_rfl) (by as_aux_lemma => kernel_rfl) (by as_aux_lemma => kernel_rfl) (by as_aux_lemma => kernel_rfl) HKD.out (fun oi ho => ?_)
          simp only [List.getElem?_toArray, List.getElem?_cons_succ, List.getElem?_cons_zero, Option.some.injEq] at ho
          subst ho
          refine ⟨.int .i64 a.k, Or.inl ⟨by rfl, fun w' hS' => ?_⟩, ?_⟩
          · have hb' := HBX5.out.below hS'
            have q0 := hb'.c0
            have q1 := hb'.c1
            have q2 := hb'.c2
            have q3 := hb'.c3
            have q4 := hb'.c4
            unfold bv at q3
            clear hb'
            (go_simp <;> with_reducible rfl)
          try simp only [Act.put, List.setIfInBounds_toArray, List.set_cons_zero, List.set_cons_succ]
          refine s_take 8 (by as_aux_lemma => kernel_rfl) (by as_aux_lemma => kernel_rfl) (by as_aux_lemma => kernel_rfl) (by as_aux_lemma => kernel_rfl) HKD.out (fun oi ho => ?_)
          simp only [List.getElem?_toArray, List.getElem?_cons_succ, List.getElem?_cons_zero, Option.some.injEq] at ho
          subst ho
          refine ⟨?_, Or.inl ⟨by rfl, fun w _ => ?_⟩, ?_⟩
          rotate_left
          · (go_simp <;> with_reducible rfl)
          try simp only [Act.put, List.setIfInBounds_toArray, List.set_cons_zero, List.set_cons_succ]
          refine s_take 9 (by as_aux_lemma => kernel_rfl) (by as_aux_lemma => kernel_rfl) (by as_aux_lemma => kernel_rfl) (by as_aux_lemma => kernel_rfl) HKD.out (fun oi ho => ?_)
          simp only [List.getElem?_toArray, List.getElem?_cons_succ, List.getElem?_cons_zero, Option.some.injEq] at ho
          subst ho
          refine ⟨.slice pu lu cu, Or.inl ⟨by rfl, fun w' hS' => ?_⟩, ?_⟩
          · have hb' := HBX5.out.below hS'
            have q0 := hb'.c0
            have q1 := hb'.c1
            have q2 := hb'.c2
            have q3 := hb'.c3
            have q4 := hb'.c4
            unfold bv at q3
            clear hb'
            (go_simp <;> with_reducible rfl)
          try simp only [Act.put, List.setIfInBounds_toArray, List.set_cons_zero, List.set_cons_succ]
          refine s_all (rs := [4]) (by as_aux_lemma => kernel_rfl) (by simp) ?_
          refine s_step 4 (by as_aux_lemma => kernel_rfl) (fun o ho K hK => ?_) AllReadyH.nil
          simp only [List.getElem?_toArray, List.getElem?_cons_succ, List.getElem?_cons_zero, Option.some.injEq] at ho
          subst ho
          go_simp
          refine HHC.out.mono ?_
          rintro e w6 ⟨rfl, hb6⟩
          have HBA := Lib.hid (show Below w5.heap.size w5 w6 from ⟨hb6.os, hb6.tape, hb6.output, hb6.size, hb6.block⟩)
          clear hb6
          go_wp2_with fail
          refine hK.out _ _ HBA.out ?_
          clear hK K
          try simp only [Act.put, List.setIfInBounds_toArray, List.set_cons_zero, List.set_cons_succ]
          refine s_all (rs := [10]) (by as_aux_lemma => kernel_rfl) (by simp) ?_
          refine s_step 10 (by as_aux_lemma => kernel_rfl) (fun o ho K hK => ?_) AllReadyH.nil
          simp only [List.getElem?_toArray, List.getElem?_cons_succ, List.getElem?_cons_zero, Option.some.injEq] at ho
          subst ho
          go_simp
          refine (rchas_any w6 (HBO5.out.r.below HBA.out) (by have := HI.out.full; omega) a.k _ a.ix (HX5.out.below HBA.out) (by have := HIX.out; omega)).mono ?_
          rw [HRR.out]
          rintro e w7 ⟨rfl, hb7⟩
          have HBC := Lib.hid (below_more HBA.out hb7 HBA.out.size)
          clear hb7
          go_wp2_with fail
          refine hK.out _ _ HBC.out ?_
          clear hK K
          try simp only [Act.put, List.setIfInBounds_toArray, List.set_cons_zero, List.set_cons_succ]
          refine s_take 11 (by as_aux_lemma => kernel_rfl) (by as_aux_lemma => kernel_rfl) (by as_aux_lemma => kernel_rfl) (by as_aux_lemma => kernel_rfl) HBC.out (fun oi ho => ?_)
          simp only [List.getElem?_toArray, List.getElem?_cons_succ, List.getElem?_cons_zero, Option.some.injEq] at ho
          subst ho
          refine ⟨?_, Or.inl ⟨by rfl, fun w _ => ?_⟩, ?_⟩
          rotate_left
          · (go_simp <;> with_reducible rfl)
          try simp only [Act.put, List.setIfInBounds_toArray, List.set_cons_zero, List.set_cons_succ]
          refine s_done (by as_aux_lemma => kernel_rfl) ?_
          have HBX7 := Lib.hid (HBX5.out.below HBC.out)
          have HB7 := Lib.hid (below_more HB5.out HBC.out HB5.out.size)
          have HIN7 := Lib.hid (HIN.out.below HBC.out)
          have HBO7 := Lib.hid (HBO5.out.below HBC.out)
          go_wp2_with fail
          refine (same_any w7 HBO7.out).mono ?_
          rintro e wy ⟨rfl, hBy⟩
          have HBOY := Lib.hid ((HBO7.out).below hBy)
          have HBXY := Lib.hid ((HBX7.out).below hBy)
          have HINY := Lib.hid ((HIN7.out).below hBy)
          have HBY := Lib.hid (below_more HB7.out hBy (HB7.out).size)
          have HXY := Lib.hid (HX0.out.below HBY.out)
          have b4y := HBXY.out.c4
          have HKY := Lib.hid (keptI_any wy vi _ a.ix _ HINY.out HXY.out (by have := HIX.out; omega))
          clear hBy
          go_wp2_with fail
          refine HKY.out.mono ?_
          rintro e wz ⟨rfl, qz, rfl⟩
          have HBZ := Lib.hid (below_more HBY.out (drewBelow wy qz) HBY.out.size)
          have HBOZ := Lib.hid (HBOY.out.below (drewBelow wy qz))
          clear b4y
          generalize wy.drewN qz = wz at *
          go_wp2
          go_roundw
          case rel => exact ⟨i + 1, M', _, _, by omega, by omega, rfl, by go_num, HPI.out, HBOZ.out, HBZ.out⟩
          case measure => simp [intOf]; omega
      · obtain rfl : i = L := by omega
        go_wp2_with fail
        refine (awake_any wo).mono ?_
        rintro e w2 ⟨rfl, hB2⟩
        have HB2 := Lib.hid (below_more HB.out hB2 HB.out.size)
        clear hB2
        go_wp2
        go_ret
        exact ⟨rfl, HB2.out⟩
end Go.Proofs.YtlmpagicjgldkaaGreat
