/-
  CacheTells: the walk.
-/
import Derived.Test.YtlmpagicjgldkaaCaV
namespace Go.Proofs.Ytlmpagicjgldkaa
open Go.RowKit Go.Maps
set_option linter.unusedVariables false
set_option linter.unusedSimpArgs false
set_option maxRecDepth 100000
set_option maxHeartbeats 4000000

theorem rows_nilC (w : World) : RowsAt w (.slice none 0 0) [] := ⟨none, 0, rfl, fun h => absurd h (by simp)⟩
theorem drewBelow (w : World) (q : Nat) : Below w.heap.size w (w.drewN q) := ⟨rfl, rfl, rfl, Nat.le_refl _, fun _ _ => rfl⟩

theorem heldL_w0 (a : AskI) : ((heldL a).getD 0 (0, [])).2.length ≤ 1000000 := by
  by_cases h : 0 < a.ix.length
  · rw [heldL_wide a h]
    have := pickN_lt a.long (m := 6) (by omega)
    omega
  · have : heldL a = [] := by
      apply List.eq_nil_of_length_eq_zero
      rw [heldL_len]
      omega
    rw [this]
    simp
theorem cdec_ask (n : Nat) (k : Int) (a : AskI) : cdecErr n k (heldL a) = askErr n k a.ix := by
  unfold cdecErr
  rw [if_pos (heldL_even a), heldL_idx]
theorem dec_ask (n k : Nat) (a : AskI) : decE n k (heldL a) = askE n k a.ix := by
  unfold decE
  rw [if_pos (heldL_even a), heldL_idx]
theorem decL_lenC (k : Nat) (ys : List B) (l : List (List B)) (wide : Nat) : (decL k ys l wide).length = k := by
  unfold decL
  rw [List.length_map, turnL_lenC]
theorem decL_wideC (k : Nat) (ys : List B) (l : List (List B)) {wide : Nat} (hw : wide ≤ 1000000) : ∀ i, i < (decL k ys l wide).length → ((decL k ys l wide).getD i []).length ≤ 1000000000000 := by
  intro i hi
  have hm : (decL k ys l wide).getD i [] ∈ decL k ys l wide := by
    rw [List.getD_eq_getElem?_getD, List.getElem?_eq_getElem hi]
    exact List.getElem_mem hi
  unfold decL at hm
  obtain ⟨ws, _, e⟩ := List.mem_map.1 hm
  unfold decL
  rw [← e, mixL_len]
  omega
theorem dec_c_err (w : World) {F : Nat → Prop} {b bm : Nat} {s : CS} (hc : CacheAt w F b bm s) (hF : ∀ i, F i → i < w.heap.size) (k : Int) (v : Value) (a : AskI) (hv : HeldFar F w v (heldL a)) (hl : a.ix.length ≤ 1000) {ev : Int} (hev : askErr s.n k a.ix = ev) (h0 : ev ≠ 0)
    (h : s.now < 1000000000 ∧ s.hits < 1000000000 ∧ s.misses < 1000000000 ∧ s.dropped < 1000000000) :
    Calls Try.prog 15 #[.pointer (some ⟨b, 0, none⟩), .int .i64 k, v] w fun e w' => e = .returned (.tuple #[.slice none 0 0, .int .i64 ev]) ∧ Below w.heap.size w w' := by
  refine (dec_c w hc hF k v (heldL a) _ hv (by rw [heldL_len]; omega) rfl (heldL_w0 a) h.1 h.2.1 h.2.2.1 h.2.2.2).mono ?_
  unfold DecC
  rw [cdec_ask, hev]
  rintro e w' (⟨_, h2, h3⟩ | ⟨h1, _⟩)
  · exact ⟨h2, h3⟩
  · exact absurd h1 h0
theorem dec_c_ok (w : World) {F : Nat → Prop} {b bm : Nat} {s : CS} (hc : CacheAt w F b bm s) (hF : ∀ i, F i → i < w.heap.size) (k : Int) (v : Value) (a : AskI) (hv : HeldFar F w v (heldL a)) (hl : a.ix.length ≤ 1000) (hev : askErr s.n k a.ix = 0)
    (h : s.now < 1000000000 ∧ s.hits < 1000000000 ∧ s.misses < 1000000000 ∧ s.dropped < 1000000000) :
    Calls Try.prog 15 #[.pointer (some ⟨b, 0, none⟩), .int .i64 k, v] w (Told w F b bm s (k.toNat, a.ix.take k.toNat) (decL k.toNat (idxB (a.ix.take k.toNat)) (hRow (heldL a)) ((heldL a).getD 0 (0, [])).2.length)) := by
  refine (dec_c w hc hF k v (heldL a) _ hv (by rw [heldL_len]; omega) rfl (heldL_w0 a) h.1 h.2.1 h.2.2.1 h.2.2.2).mono ?_
  unfold DecC
  rw [cdec_ask, hev, heldL_idx]
  rintro e w' (⟨h1, _⟩ | ⟨_, h1⟩)
  · exact absurd rfl h1
  · exact h1

theorem tells_any (w : World) (n room : Int) (v : Value) (l : List AskI) (hv : AsksAt w v l) (hl : l.length ≤ 140737488355328) (hr : ∀ i (h : i < l.length), l[i].ix.length ≤ 140737488355328) :
    Calls Try.prog 4 #[.int .i64 n, .int .i64 room, v] w fun e w' => e = .returned (.bool true) ∧ Below w.heap.size w w' := by
  have HV := Lib.hid hv
  obtain ⟨p, cap, rfl, hcap, _⟩ := hv
  have HR := Lib.hid hr
  obtain ⟨L, hL⟩ : ∃ L, l.length = L := ⟨_, rfl⟩
  have HL := Lib.hid hL
  have HGR := Lib.hid (fun (W : World) (h : Below w.heap.size w W) => great_any W n _ l (HV.out.below h) hl hr)
  rw [hL] at HV HGR hcap ⊢
  clear hr hL
  go_enter Try.func4, Try.ntmps4
  go_wp2_with fail
  refine (awake_any w).mono ?_
  rintro e w1 ⟨rfl, hB1⟩
  have HB1 := Lib.hid hB1
  clear hB1
  go_wp2_with fail
  by_cases hb : n < 1 ∨ 255 < n ∨ room < 1 ∨ 64 < room
  · refine (new_bad w1 n room hb).mono ?_
    rintro e w' ⟨rfl, rfl⟩
    clear hb
    go_wp2_with fail
    refine (HGR.out w1 HB1.out).mono ?_
    rintro e w2 ⟨hg, q, rfl⟩
    have HB2 := Lib.hid (show Below w.heap.size w (w1.drewN q) from ⟨HB1.out.os, HB1.out.tape, HB1.out.output, HB1.out.size, HB1.out.block⟩)
    rcases hg with rfl | ⟨rfl, _⟩
    all_goals
      go_wp2
      go_ret
      exact ⟨rfl, HB2.out⟩
  · obtain ⟨N, rfl⟩ : ∃ N : Nat, n = N := ⟨n.toNat, by omega⟩
    obtain ⟨R, rfl⟩ : ∃ R : Nat, room = R := ⟨room.toNat, by omega⟩
    have hN1 : 1 ≤ N := by omega
    have hN2 : N ≤ 255 := by omega
    have hR1 : 1 ≤ R := by omega
    have hR2 : R ≤ 64 := by omega
    clear hb
    refine (new_any w1 N R hN1 hN2 hR1 hR2).mono ?_
    rintro e w2 ⟨b, bm, rfl, hbb, hbm, hc, hB2⟩
    have HL0 := Lib.hid (show Live w2 b bm ⟨N, R, 0, 0, 0, 0, []⟩ from ⟨_, hc (CK b bm) (.inl rfl) (.inr rfl), rfl⟩)
    have HB2 := Lib.hid (below_more HB1.out hB2 HB1.out.size)
    have HCK := Lib.hid (show ∀ i, CK b bm i → w.heap.size ≤ i from fun i hi => by have := HB1.out.size; rcases hi with rfl | rfl <;> omega)
    clear hc hB2 hbb hbm
    go_wp2_with fail
    refine (HGR.out w2 HB2.out).mono ?_
    rintro e w3 ⟨hg, q, rfl⟩
    have HB3 := Lib.hid (show Below w.heap.size w (w2.drewN q) from ⟨HB2.out.os, HB2.out.tape, HB2.out.output, HB2.out.size, HB2.out.block⟩)
    have HL3 := Lib.hid (HL0.out.below (show Below w2.heap.size w2 (w2.drewN q) from ⟨rfl, rfl, rfl, Nat.le_refl _, fun _ _ => rfl⟩))
    generalize w2.drewN q = w3 at *
    rcases hg with rfl | ⟨rfl, g1, g2, g3⟩
    · go_wp2
      go_ret
      exact ⟨rfl, HB3.out⟩
    have hL3 : L ≤ 300 := by rw [← HL.out]; exact g2
    have HG3 := Lib.hid g3
    clear g2 g3
    go_wp2
    go_loopw [6, 9, 10] (fun v6 v9 v10 wr => ∃ i M : Nat, ∃ p, i ≤ L ∧ M ≤ i ∧ v6 = .bool false ∧ v9 = .int .i64 (M : Int) ∧ v10 = .int .i64 (i : Int) ∧ PInv N R M p ∧ Live wr b bm p ∧ Below w.heap.size w wr) (fun _ _ i _ => L - (intOf i).toNat)
    case atStart => exact ⟨0, 0, _, Nat.zero_le _, Nat.le_refl _, rfl, rfl, rfl, ⟨rfl, rfl, rfl, rfl, rfl, Nat.zero_le _, List.nodup_nil⟩, HL3.out, HB3.out⟩
    case round =>
      obtain ⟨wo, rfl⟩ : ∃ wo, wo = wr := ⟨_, rfl⟩
      obtain ⟨i, M, ps, hi, hMi, rfl, rfl, rfl, hI, hLv, hB⟩ := hrel
      have HI := Lib.hid hI
      have HLV := Lib.hid hLv
      have HB := Lib.hid hB
      clear hI hLv hB
      by_cases hlt : i < L
      · have hli : i < l.length := by rw [HL.out]; exact hlt
        obtain ⟨p2, cap2, e2, _, hc2⟩ := HV.out
        obtain ⟨g, off, e3, hcc⟩ := hc2 (by omega)
        have e4 := Value.slice.inj e2
        have e5 := e4.1
        clear e4
        subst e5
        subst e3
        obtain ⟨x0, x1, x2, x3, u, x4, x5⟩ := hcc i hli
        have hgl := blt x0
        have x0 := (HB.out.cell (p := ⟨g, off + i * 5, none⟩) hgl).trans x0
        have x1 := (HB.out.cell (p := ⟨g, off + i * 5 + 1, none⟩) hgl).trans x1
        have x2 := (HB.out.cell (p := ⟨g, off + i * 5 + 2, none⟩) hgl).trans x2
        have x3 := (HB.out.cell (p := ⟨g, off + i * 5 + 3, none⟩) hgl).trans x3
        have x4 := (HB.out.cell (p := ⟨g, off + i * 5 + 4, none⟩) hgl).trans x4
        have hix := HG3.out i hli
        obtain ⟨a, ha⟩ : ∃ a, l[i] = a := ⟨_, rfl⟩
        rw [ha] at x0 x1 x2 x3 x5 hix
        have hx5 := x5
        obtain ⟨pu, cu, rfl, _⟩ := hx5
        obtain ⟨lu, hlu⟩ : ∃ lu, a.ix.length = lu := ⟨_, rfl⟩
        have HIX := Lib.hid (show a.ix.length ≤ 300 from hix)
        rw [hlu] at x4
        have HX0 := Lib.hid x5
        have HX5 := Lib.hid (x5.below (HB.out.trans ((balC wo (.cells #[.int .i64 a.what, .int .i64 a.k, .int .i64 a.long, .int .u8 ((a.first.v : Nat) : Int), .slice pu a.ix.length cu] 32)).mono HB.out.size)))
        have HBX := Lib.hid (BoxAt.made wo a (.slice pu a.ix.length cu))
        have HB4 := Lib.hid (show Below w.heap.size w (wo.alloc (.cells #[.int .i64 a.what, .int .i64 a.k, .int .i64 a.long, .int .u8 ((a.first.v : Nat) : Int), .slice pu a.ix.length cu] 32)) from HB.out.alloc HB.out.size _)
        have HLV4 := Lib.hid (HLV.out.below (balC wo (.cells #[.int .i64 a.what, .int .i64 a.k, .int .i64 a.long, .int .u8 ((a.first.v : Nat) : Int), .slice pu a.ix.length cu] 32)))
        have hgb : wo.heap.size < (wo.alloc (.cells #[.int .i64 a.what, .int .i64 a.k, .int .i64 a.long, .int .u8 ((a.first.v : Nat) : Int), .slice pu a.ix.length cu] 32)).heap.size := by simp
        have HNG := Lib.hid (show ¬ CK b bm wo.heap.size from by
          obtain ⟨s, hc, _⟩ := HLV.out
          intro h
          rcases h with h | h
          · have := hc.lt; omega
          · have := hc.map.lt; omega)
        rw [hlu] at HX0 HX5 HBX HB4 HLV4 hgb
        have HLU := Lib.hid hlu
        clear hcc hc2 ha x5 hix hlu e2
        go_wp2_with fail
        generalize wo.alloc (.cells #[.int .i64 a.what, .int .i64 a.k, .int .i64 a.long, .int .u8 ((a.first.v : Nat) : Int), .slice pu lu cu] 32) = w4 at *
        have hp3 := pickN_lt a.what (m := 3) (by omega)
        have b0 := HBX.out.c0
        have b1 := HBX.out.c1
        have b2 := HBX.out.c2
        have b4 := HBX.out.c4
        have hM3 : M ≤ 300 := by omega
        by_cases hk : a.k < 1 ∨ N < a.k
        · refine (cnew_bad w4 N a.k (by omega)).mono ?_
          rintro e w' ⟨rfl, rfl⟩
          obtain hpw | hpw | hpw : pickN a.what 3 = 0 ∨ pickN a.what 3 = 1 ∨ pickN a.what 3 = 2 := by omega
          · go_wp2_with fail
            have HPK := Lib.hid (by have h := pick_ex w4 a.what 3 (by omega) (by omega); rw [hpw] at h; exact h : Calls Try.prog 7 #[.int .i64 a.what, .int .i64 ((3 : Nat) : Int)] w4 fun e w' => e = .returned (.int .i64 ((0 : Nat) : Int)) ∧ w4 = w')
            refine HPK.out.mono ?_
            rintro e w' ⟨rfl, rfl⟩
            obtain ⟨sx, hcx, hpx⟩ := HLV4.out
            have hsn : sx.n = N := by have := HI.out.n; rw [← hpx] at this; exact this
            have hev : askErr sx.n a.k a.ix = 2 := by unfold askErr; rw [if_pos (by rw [hsn]; exact hk)]
            have HT := Lib.hid (turn_c_bad w4 hcx a.k _ a.ix HX5.out (by have := HIX.out; omega) (by rw [hev]; decide))
            rw [hev] at HT
            have b1' := HBX.out.c1
            have b4' := HBX.out.c4
            clear hcx hpx hsn hev
            go_wp2_with fail
            refine HT.out.mono ?_
            rintro e w6 ⟨rfl, hB6⟩
            have HBX6 := Lib.hid (HBX.out.below hB6)
            have HB6 := Lib.hid (below_more HB4.out hB6 HB4.out.size)
            have HL6 := Lib.hid ((HLV4.out).below hB6)
            have HB66 := Lib.hid hB6
            have b4'' := HBX6.out.c4
            clear hB6
            go_wp2_with fail
            refine (turn_no w6 _ _ (.inl rfl)).mono ?_
            rintro e w7 ⟨rfl, rfl⟩
            have HB7 := HB6
            have HL7 := HL6
            go_wp2_with fail
            refine (sameRows_any _ _ _ [] (rows_nilC _) (rows_nilC _) (by simp) (fun i h => absurd h (by simp))).mono ?_
            rintro e w8 ⟨rfl, q8, rfl⟩
            have HBT := Lib.hid (below_more HB7.out (drewBelow w6 q8) HB7.out.size)
            have HLT := Lib.hid (HL7.out.below (drewBelow w6 q8))
            go_wp2_with fail
            generalize w6.drewN q8 = w8 at *
            obtain ⟨sx, hcx, hpx⟩ := HLT.out
            have hpi := HI.out
            rw [← hpx] at hpi
            obtain ⟨kp, hkp⟩ : ∃ q, sx.es.length = q := ⟨_, rfl⟩
            obtain ⟨ht, hht⟩ : ∃ q, sx.hits = q := ⟨_, rfl⟩
            obtain ⟨ms, hms⟩ : ∃ q, sx.misses = q := ⟨_, rfl⟩
            obtain ⟨dr, hdr⟩ : ∃ q, sx.dropped = q := ⟨_, rfl⟩
            have HSX := Lib.hid (stat_any w8 hcx)
            rw [hkp, hht, hms, hdr] at HSX
            have q1 : ht + ms = M := by rw [← hht, ← hms]; exact hpi.hm
            have q2 : ms = kp + dr := by
              have := hpi.md
              rw [← hms, ← hkp, ← hdr]
              simpa [CS.plain] using this
            have q3 : kp ≤ R := by
              have := hpi.full
              rw [← hkp]
              simpa [CS.plain] using this
            have r1 : ((ht : Int) + (ms : Int) != (M : Int)) = false := by rw [bne_eq_false_iff_eq]; omega
            have r2 : ((ms : Int) != (kp : Int) + (dr : Int)) = false := by rw [bne_eq_false_iff_eq]; omega
            have r3 : decide ((R : Int) < (kp : Int)) = false := by simp; omega
            have r3' : decide (R < kp) = false := by simp; omega
            have hb1 : ht ≤ 1000 := by omega
            have hb2 : ms ≤ 1000 := by omega
            have hb3 : kp ≤ 1000 := by omega
            have hb4 : dr ≤ 1000 := by omega
            clear hcx hpx hpi hkp hht hms hdr q1 q2 q3
            refine HSX.out.mono ?_
            rintro e wz ⟨rfl, hBz⟩
            have HBZ := Lib.hid (below_more HBT.out hBz HBT.out.size)
            have HLZ := Lib.hid ((HLT.out).below (hBz.trans ((balC wz (.cells #[.int .i64 (kp : Int), .int .i64 (ht : Int), .int .i64 (ms : Int), .int .i64 (dr : Int)] 38)).mono hBz.size)))
            clear hBz
            go_wp2
            go_roundw
            case rel => exact ⟨i + 1, M, _, by omega, by omega, rfl, by go_num, by go_num, HI.out, HLZ.out, HBZ.out.alloc HBZ.out.size _⟩
            case measure => simp [intOf]; omega
          · have HCW := Lib.hid (show ∀ i, CK b bm i → i < w4.heap.size from by
              obtain ⟨s, hc, _⟩ := HLV4.out
              intro i h
              rcases h with rfl | rfl
              · exact hc.lt
              · exact hc.map.lt)
            go_wp2_with fail
            have HPK := Lib.hid (by have h := pick_ex w4 a.what 3 (by omega) (by omega); rw [hpw] at h; exact h : Calls Try.prog 7 #[.int .i64 a.what, .int .i64 ((3 : Nat) : Int)] w4 fun e w' => e = .returned (.int .i64 ((1 : Nat) : Int)) ∧ w4 = w')
            refine HPK.out.mono ?_
            rintro e w' ⟨rfl, rfl⟩
            have HKD := Lib.hid (show Kept (CK b bm) w4 w4.drew from ⟨rfl, rfl, rfl, Nat.le_refl _, fun _ _ _ => rfl⟩)
            go_wp2_with fail
            refine s_start 11 (fun w' => Kept (CK b bm) w4 w') (by as_aux_lemma => kernel_rfl) (by as_aux_lemma => kernel_rfl) HKD.out ?_
            refine s_take 0 (by as_aux_lemma => kernel_rfl) (by as_aux_lemma => kernel_rfl) (by as_aux_lemma => kernel_rfl) (by as_aux_lemma => kernel_rfl) HKD.out (fun oi ho => ?_)
            simp only [List.getElem?_toArray, List.getElem?_cons_succ, List.getElem?_cons_zero, Option.some.injEq] at ho
            subst ho
            refine ⟨?_, Or.inl ⟨by rfl, fun w _ => ?_⟩, ?_⟩
            rotate_left
            · (go_simp <;> with_reducible rfl)
            try simp only [Act.put, List.setIfInBounds_toArray, List.set_cons_zero, List.set_cons_succ]
            refine s_take 1 (by as_aux_lemma => kernel_rfl) (by as_aux_lemma => kernel_rfl) (by as_aux_lemma => kernel_rfl) (by as_aux_lemma => kernel_rfl) HKD.out (fun oi ho => ?_)
            simp only [List.getElem?_toArray, List.getElem?_cons_succ, List.getElem?_cons_zero, Option.some.injEq] at ho
            subst ho
            refine ⟨?_, Or.inl ⟨by rfl, fun w _ => ?_⟩, ?_⟩
            rotate_left
            · (go_simp <;> with_reducible rfl)
            try simp only [Act.put, List.setIfInBounds_toArray, List.set_cons_zero, List.set_cons_succ]
            refine s_take 2 (by as_aux_lemma => kernel_rfl) (by as_aux_lemma => kernel_rfl) (by as_aux_lemma => kernel_rfl) (by as_aux_lemma => kernel_rfl) HKD.out (fun oi ho => ?_)
            simp only [List.getElem?_toArray, List.getElem?_cons_succ, List.getElem?_cons_zero, Option.some.injEq] at ho
            subst ho
            refine ⟨.int .i64 a.k, Or.inl ⟨by rfl, fun w' hS' => ?_⟩, ?_⟩
            · have hb' := HBX.out.kept hS' HNG.out
              have q0 := hb'.c0
              have q1 := hb'.c1
              have q2 := hb'.c2
              have q3 := hb'.c3
              have q4 := hb'.c4
              unfold bv at q3
              clear hb'
              (go_simp <;> with_reducible rfl)
            try simp only [Act.put, List.setIfInBounds_toArray, List.set_cons_zero, List.set_cons_succ]
            refine s_take 3 (by as_aux_lemma => kernel_rfl) (by as_aux_lemma => kernel_rfl) (by as_aux_lemma => kernel_rfl) (by as_aux_lemma => kernel_rfl) HKD.out (fun oi ho => ?_)
            simp only [List.getElem?_toArray, List.getElem?_cons_succ, List.getElem?_cons_zero, Option.some.injEq] at ho
            subst ho
            refine ⟨.agg #[.int .i64 a.what, .int .i64 a.k, .int .i64 a.long, .int .u8 ((a.first.v : Nat) : Int), .slice pu lu cu], Or.inl ⟨by rfl, fun w' hS' => ?_⟩, ?_⟩
            · have hb' := HBX.out.kept hS' HNG.out
              have q0 := hb'.c0
              have q1 := hb'.c1
              have q2 := hb'.c2
              have q3 := hb'.c3
              have q4 := hb'.c4
              unfold bv at q3
              clear hb'
              (go_simp <;> with_reducible rfl)
            try simp only [Act.put, List.setIfInBounds_toArray, List.set_cons_zero, List.set_cons_succ]
            refine s_all (rs := [4]) (by as_aux_lemma => kernel_rfl) (by simp) ?_
            refine s_step 4 (by as_aux_lemma => kernel_rfl) (fun o ho K hK => ?_) AllReadyH.nil
            simp only [List.getElem?_toArray, List.getElem?_cons_succ, List.getElem?_cons_zero, Option.some.injEq] at ho
            subst ho
            go_simp
            refine (held_any w4.drew a _ (HX5.out.below (show Below w4.heap.size w4 w4.drew from drewBelow w4 1)) (by rw [HLU.out]; have := HIX.out; have := HLU.out; omega)).mono ?_
            rintro e wa ⟨hvv, rfl, hnew, hba⟩
            have HNW := Lib.hid hnew
            have HBA := Lib.hid (show Below w4.heap.size w4 wa from ⟨hba.os, hba.tape, hba.output, hba.size, hba.block⟩)
            have HKA := Lib.hid (show Kept (CK b bm) w4 wa from (Kept.below HBA.out).mono (fun _ _ h => h.elim))
            clear hnew hba
            go_wp2_with fail
            refine hK.out _ _ HKA.out ?_
            clear hK K
            try simp only [Act.put, List.setIfInBounds_toArray, List.set_cons_zero, List.set_cons_succ]
            refine s_all (rs := [5]) (by as_aux_lemma => kernel_rfl) (by simp) ?_
            refine s_step 5 (by as_aux_lemma => kernel_rfl) (fun o ho K hK => ?_) AllReadyH.nil
            simp only [List.getElem?_toArray, List.getElem?_cons_succ, List.getElem?_cons_zero, Option.some.injEq] at ho
            subst ho
            go_simp
            obtain ⟨sx, hcx, hpx⟩ := (HLV4.out).below HBA.out
            have hsn : sx.n = N := by have := HI.out.n; rw [← hpx] at this; exact this
            have hsm := HI.out.small (by omega)
            rw [← hpx] at hsm
            have hev : askErr sx.n a.k a.ix = 2 := by unfold askErr; rw [if_pos (by rw [hsn]; exact hk)]
            have HD := Lib.hid (dec_c_err wa hcx (fun i hi => Nat.lt_of_lt_of_le (HCW.out i hi) HBA.out.size) a.k hvv a (HNW.out.far (F := CK b bm) HCW.out) (by rw [HLU.out]; have := HIX.out; have := HLU.out; omega) hev (by decide) hsm)
            clear hcx hpx hsn hsm hev
            refine HD.out.mono ?_
            rintro e w6 ⟨rfl, hB6⟩
            have HW6 := Lib.hid (below_more HBA.out hB6 HBA.out.size)
            have HK6 := Lib.hid (show Kept (CK b bm) w4 w6 from (Kept.below HW6.out).mono (fun _ _ h => h.elim))
            clear hB6
            go_wp2_with fail
            refine hK.out _ _ HK6.out ?_
            clear hK K
            try simp only [Act.put, List.setIfInBounds_toArray, List.set_cons_zero, List.set_cons_succ]
            refine s_take 6 (by as_aux_lemma => kernel_rfl) (by as_aux_lemma => kernel_rfl) (by as_aux_lemma => kernel_rfl) (by as_aux_lemma => kernel_rfl) HK6.out (fun oi ho => ?_)
            simp only [List.getElem?_toArray, List.getElem?_cons_succ, List.getElem?_cons_zero, Option.some.injEq] at ho
            subst ho
            refine ⟨?_, Or.inl ⟨by rfl, fun w _ => ?_⟩, ?_⟩
            rotate_left
            · (go_simp <;> with_reducible rfl)
            try simp only [Act.put, List.setIfInBounds_toArray, List.set_cons_zero, List.set_cons_succ]
            refine s_take 7 (by as_aux_lemma => kernel_rfl) (by as_aux_lemma => kernel_rfl) (by as_aux_lemma => kernel_rfl) (by as_aux_lemma => kernel_rfl) HK6.out (fun oi ho => ?_)
            simp only [List.getElem?_toArray, List.getElem?_cons_succ, List.getElem?_cons_zero, Option.some.injEq] at ho
            subst ho
            refine ⟨?_, Or.inl ⟨by rfl, fun w _ => ?_⟩, ?_⟩
            rotate_left
            · (go_simp <;> with_reducible rfl)
            try simp only [Act.put, List.setIfInBounds_toArray, List.set_cons_zero, List.set_cons_succ]
            refine s_take 8 (by as_aux_lemma => kernel_rfl) (by as_aux_lemma => kernel_rfl) (by as_aux_lemma => kernel_rfl) (by as_aux_lemma => kernel_rfl) HK6.out (fun oi ho => ?_)
            simp only [List.getElem?_toArray, List.getElem?_cons_succ, List.getElem?_cons_zero, Option.some.injEq] at ho
            subst ho
            refine ⟨?_, Or.inl ⟨by rfl, fun w _ => ?_⟩, ?_⟩
            rotate_left
            · (go_simp <;> with_reducible rfl)
            try simp only [Act.put, List.setIfInBounds_toArray, List.set_cons_zero, List.set_cons_succ]
            refine s_take 9 (by as_aux_lemma => kernel_rfl) (by as_aux_lemma => kernel_rfl) (by as_aux_lemma => kernel_rfl) (by as_aux_lemma => kernel_rfl) HK6.out (fun oi ho => ?_)
            simp only [List.getElem?_toArray, List.getElem?_cons_succ, List.getElem?_cons_zero, Option.some.injEq] at ho
            subst ho
            refine ⟨?_, Or.inl ⟨by rfl, fun w _ => ?_⟩, ?_⟩
            rotate_left
            · (go_simp <;> with_reducible rfl)
            try simp only [Act.put, List.setIfInBounds_toArray, List.set_cons_zero, List.set_cons_succ]
            refine s_take 10 (by as_aux_lemma => kernel_rfl) (by as_aux_lemma => kernel_rfl) (by as_aux_lemma => kernel_rfl) (by as_aux_lemma => kernel_rfl) HK6.out (fun oi ho => ?_)
            simp only [List.getElem?_toArray, List.getElem?_cons_succ, List.getElem?_cons_zero, Option.some.injEq] at ho
            subst ho
            refine ⟨?_, Or.inl ⟨by rfl, fun w _ => ?_⟩, ?_⟩
            rotate_left
            · (go_simp <;> with_reducible rfl)
            try simp only [Act.put, List.setIfInBounds_toArray, List.set_cons_zero, List.set_cons_succ]
            refine s_done (by as_aux_lemma => kernel_rfl) ?_
            have HBX6 := Lib.hid (HBX.out.below HW6.out)
            have HX6 := Lib.hid (HX5.out.below HW6.out)
            have HB6 := Lib.hid (below_more HB4.out HW6.out HB4.out.size)
            have HL6 := Lib.hid ((HLV4.out).below HW6.out)
            have c0' := HBX6.out.c0
            have c1' := HBX6.out.c1
            have c2' := HBX6.out.c2
            have c3' := HBX6.out.c3
            have c4' := HBX6.out.c4
            unfold bv at c3'
            go_wp2_with fail
            refine (held_any w6 a _ HX6.out (by rw [HLU.out]; have := HIX.out; have := HLU.out; omega)).mono ?_
            rintro e w6b ⟨hv6, rfl, hn6, hb6⟩
            have HNW6 := Lib.hid hn6
            have HB6b := Lib.hid (below_more HB6.out hb6 HB6.out.size)
            have HL6b := Lib.hid (HL6.out.below hb6)
            have HW6b := Lib.hid (below_more HW6.out hb6 HW6.out.size)
            clear hn6 hb6
            clear c0' c1' c2' c3' c4'
            go_wp2_with fail
            refine (decode_no w6b _ _ (.inl rfl)).mono ?_
            rintro e w7 ⟨rfl, rfl⟩
            have HB7 := HB6b
            have HL7 := HL6b
            go_wp2_with fail
            refine (sameRows_any _ _ _ [] (rows_nilC _) (rows_nilC _) (by simp) (fun i h => absurd h (by simp))).mono ?_
            rintro e w8 ⟨rfl, q8, rfl⟩
            have HBT := Lib.hid (below_more HB7.out (drewBelow w6b q8) HB7.out.size)
            have HLT := Lib.hid (HL7.out.below (drewBelow w6b q8))
            go_wp2_with fail
            generalize w6b.drewN q8 = w8 at *
            obtain ⟨sx, hcx, hpx⟩ := HLT.out
            have hpi := HI.out
            rw [← hpx] at hpi
            obtain ⟨kp, hkp⟩ : ∃ q, sx.es.length = q := ⟨_, rfl⟩
            obtain ⟨ht, hht⟩ : ∃ q, sx.hits = q := ⟨_, rfl⟩
            obtain ⟨ms, hms⟩ : ∃ q, sx.misses = q := ⟨_, rfl⟩
            obtain ⟨dr, hdr⟩ : ∃ q, sx.dropped = q := ⟨_, rfl⟩
            have HSX := Lib.hid (stat_any w8 hcx)
            rw [hkp, hht, hms, hdr] at HSX
            have q1 : ht + ms = M := by rw [← hht, ← hms]; exact hpi.hm
            have q2 : ms = kp + dr := by
              have := hpi.md
              rw [← hms, ← hkp, ← hdr]
              simpa [CS.plain] using this
            have q3 : kp ≤ R := by
              have := hpi.full
              rw [← hkp]
              simpa [CS.plain] using this
            have r1 : ((ht : Int) + (ms : Int) != (M : Int)) = false := by rw [bne_eq_false_iff_eq]; omega
            have r2 : ((ms : Int) != (kp : Int) + (dr : Int)) = false := by rw [bne_eq_false_iff_eq]; omega
            have r3 : decide ((R : Int) < (kp : Int)) = false := by simp; omega
            have r3' : decide (R < kp) = false := by simp; omega
            have hb1 : ht ≤ 1000 := by omega
            have hb2 : ms ≤ 1000 := by omega
            have hb3 : kp ≤ 1000 := by omega
            have hb4 : dr ≤ 1000 := by omega
            clear hcx hpx hpi hkp hht hms hdr q1 q2 q3
            refine HSX.out.mono ?_
            rintro e wz ⟨rfl, hBz⟩
            have HBZ := Lib.hid (below_more HBT.out hBz HBT.out.size)
            have HLZ := Lib.hid ((HLT.out).below (hBz.trans ((balC wz (.cells #[.int .i64 (kp : Int), .int .i64 (ht : Int), .int .i64 (ms : Int), .int .i64 (dr : Int)] 38)).mono hBz.size)))
            clear hBz
            go_wp2
            go_roundw
            case rel => exact ⟨i + 1, M, _, by omega, by omega, rfl, by go_num, by go_num, HI.out, HLZ.out, HBZ.out.alloc HBZ.out.size _⟩
            case measure => simp [intOf]; omega
          · go_wp2_with fail
            have HPK := Lib.hid (by have h := pick_ex w4 a.what 3 (by omega) (by omega); rw [hpw] at h; exact h : Calls Try.prog 7 #[.int .i64 a.what, .int .i64 ((3 : Nat) : Int)] w4 fun e w' => e = .returned (.int .i64 ((2 : Nat) : Int)) ∧ w4 = w')
            refine HPK.out.mono ?_
            rintro e w' ⟨rfl, rfl⟩
            go_wp2_with fail
            obtain ⟨sx, hcx, hpx⟩ := HLV4.out
            have hpi := HI.out
            rw [← hpx] at hpi
            obtain ⟨kp, hkp⟩ : ∃ q, sx.es.length = q := ⟨_, rfl⟩
            obtain ⟨ht, hht⟩ : ∃ q, sx.hits = q := ⟨_, rfl⟩
            obtain ⟨ms, hms⟩ : ∃ q, sx.misses = q := ⟨_, rfl⟩
            obtain ⟨dr, hdr⟩ : ∃ q, sx.dropped = q := ⟨_, rfl⟩
            have HSX := Lib.hid (stat_any w4 hcx)
            rw [hkp, hht, hms, hdr] at HSX
            have q1 : ht + ms = M := by rw [← hht, ← hms]; exact hpi.hm
            have q2 : ms = kp + dr := by
              have := hpi.md
              rw [← hms, ← hkp, ← hdr]
              simpa [CS.plain] using this
            have q3 : kp ≤ R := by
              have := hpi.full
              rw [← hkp]
              simpa [CS.plain] using this
            have r1 : ((ht : Int) + (ms : Int) != (M : Int)) = false := by rw [bne_eq_false_iff_eq]; omega
            have r2 : ((ms : Int) != (kp : Int) + (dr : Int)) = false := by rw [bne_eq_false_iff_eq]; omega
            have r3 : decide ((R : Int) < (kp : Int)) = false := by simp; omega
            have r3' : decide (R < kp) = false := by simp; omega
            have hb1 : ht ≤ 1000 := by omega
            have hb2 : ms ≤ 1000 := by omega
            have hb3 : kp ≤ 1000 := by omega
            have hb4 : dr ≤ 1000 := by omega
            clear hcx hpx hpi hkp hht hms hdr q1 q2 q3
            refine HSX.out.mono ?_
            rintro e wz ⟨rfl, hBz⟩
            have HBZ := Lib.hid (below_more HB4.out hBz HB4.out.size)
            have HLZ := Lib.hid ((HLV4.out).below (hBz.trans ((balC wz (.cells #[.int .i64 (kp : Int), .int .i64 (ht : Int), .int .i64 (ms : Int), .int .i64 (dr : Int)] 38)).mono hBz.size)))
            clear hBz
            go_wp2
            go_roundw
            case rel => exact ⟨i + 1, M, _, by omega, by omega, rfl, by go_num, by go_num, HI.out, HLZ.out, HBZ.out.alloc HBZ.out.size _⟩
            case measure => simp [intOf]; omega
        · obtain ⟨K, hK⟩ : ∃ K : Nat, a.k = K := ⟨a.k.toNat, by omega⟩
          have hK1 : 1 ≤ K := by omega
          have hK2 : K ≤ N := by omega
          have HCN := Lib.hid (cnew_far w4 N K hK1 hK2 hN2)
          rw [← hK] at HCN
          have HKK := Lib.hid hK
          have HCB := Lib.hid (show ∀ i, CK b bm i → i < w4.heap.size from by
            obtain ⟨s, hc, _⟩ := HLV4.out
            intro i h
            rcases h with rfl | rfl
            · exact hc.lt
            · exact hc.map.lt)
          refine HCN.out.mono ?_
          clear hK hk b0 b1 b2 b4
          rintro e w5 ⟨bc, bf, vt, rfl, hcf, hb5⟩
          have HCF := Lib.hid hcf
          have HBX5 := Lib.hid (HBX.out.below hb5)
          have HX55 := Lib.hid (HX5.out.below hb5)
          have HB5 := Lib.hid (below_more HB4.out hb5 HB4.out.size)
          have HLV5 := Lib.hid (HLV4.out.below hb5)
          have hg5 : wo.heap.size < w5.heap.size := by have := hb5.size; omega
          have HS5 := Lib.hid hb5.size
          clear hcf hb5
          have b0 := HBX5.out.c0
          obtain hpw | hpw | hpw : pickN a.what 3 = 0 ∨ pickN a.what 3 = 1 ∨ pickN a.what 3 = 2 := by omega
          · by_cases hask : askE N K a.ix = 0
            · go_wp2_with fail
              have HPK := Lib.hid (by have h := pick_ex w5 a.what 3 (by omega) (by omega); rw [hpw] at h; exact h : Calls Try.prog 7 #[.int .i64 a.what, .int .i64 ((3 : Nat) : Int)] w5 fun e w' => e = .returned (.int .i64 ((0 : Nat) : Int)) ∧ w5 = w')
              refine HPK.out.mono ?_
              rintro e w' ⟨rfl, rfl⟩
              obtain ⟨sx, hcx, hpx⟩ := HLV5.out
              have hsn : sx.n = N := by have := HI.out.n; rw [← hpx] at this; exact this
              have hsm := HI.out.small (by omega)
              rw [← hpx] at hsm
              have ho := askE_zero hask
              have HT := Lib.hid (turn_c_any w5 hcx (fun i hi => Nat.lt_of_lt_of_le (HCB.out i hi) HS5.out) K _ a.ix HX55.out (by have := HIX.out; omega) hK1 (by rw [hsn]; exact hK2) (by rw [hsn]; exact ho) hsm.1 hsm.2.1 hsm.2.2.1 hsm.2.2.2)
              rw [← HKK.out] at HT
              have HOK := Lib.hid ho
              have HPX := Lib.hid hpx
              have b1' := HBX5.out.c1
              have b4' := HBX5.out.c4
              clear hcx hpx hsn hsm ho hask
              go_wp2_with fail
              refine HT.out.mono ?_
              rintro e w6 ⟨s', base, vv, rfl, hlone, hbs, hbw, hca, hpp, hk6⟩
              have HLN := Lib.hid hlone
              have HCA := Lib.hid hca
              have HPP := Lib.hid hpp
              have HBX6 := Lib.hid (HBX5.out.kept hk6 HNG.out)
              have HB6 := Lib.hid (HB5.out.trans (hk6.toBelow HB5.out.size (fun i hi => HCK.out i hi)))
              have HCF6 := Lib.hid (HCF.out.kept hk6 HCB.out)
              have HX6 := Lib.hid (HX0.out.below HB6.out)
              have b4'' := HBX6.out.c4
              obtain ⟨pv, cv, hvv⟩ := hlone.rows.shape
              have hs6 := hk6.size
              clear hlone hca hpp hk6
              subst hvv
              go_wp2_with fail
              refine (turn_any w6 HCF6.out.at0 _ a.ix HX6.out (by have := HIX.out; omega) HOK.out).mono ?_
              rintro e w7 ⟨gm, U, rfl, hM, hU, hB7⟩
              have hyl : (idxB (a.ix.take K)).length = K := by rw [idxB_len, List.length_take]; have := HOK.out.len; omega
              have HR1 := Lib.hid (HLN.out.rows.below hB7)
              have HR2 := Lib.hid (matW_lone hM hyl (by omega) hU).rows
              have HB7 := Lib.hid (below_more HB6.out hB7 HB6.out.size)
              have HL7 := Lib.hid (show Live w7 b bm (ps.ask (K, a.ix.take K)) from ⟨s', HCA.out w7 (hB7.mono hbw), by rw [HPP.out, HPX.out]⟩)
              have HTL := Lib.hid (turnL_lenC K (idxB (a.ix.take K)))
              have HTW := Lib.hid (show ∀ i, i < (turnL K (idxB (a.ix.take K))).length → ((turnL K (idxB (a.ix.take K))).getD i []).length ≤ 1000000000000 from fun i hi => by
                rw [turnL_lenC] at hi
                unfold turnL
                rw [getD_range _ _ hi, wtsL_len, hyl]
                omega)
              have HIA := Lib.hid (HI.out.ask hR1 (K, a.ix.take K))
              clear hM hU hyl hB7
              go_wp2_with fail
              refine (sameRows_any _ _ _ _ HR1.out HR2.out (by rw [HTL.out]; omega) HTW.out).mono ?_
              rintro e w8 ⟨rfl, q8, rfl⟩
              have HBT := Lib.hid (below_more HB7.out (drewBelow w7 q8) HB7.out.size)
              have HLT := Lib.hid (HL7.out.below (drewBelow w7 q8))
              go_wp2_with fail
              generalize w7.drewN q8 = w8 at *
              obtain ⟨sx, hcx, hpx⟩ := HLT.out
              have hpi := HIA.out
              rw [← hpx] at hpi
              obtain ⟨kp, hkp⟩ : ∃ q, sx.es.length = q := ⟨_, rfl⟩
              obtain ⟨ht, hht⟩ : ∃ q, sx.hits = q := ⟨_, rfl⟩
              obtain ⟨ms, hms⟩ : ∃ q, sx.misses = q := ⟨_, rfl⟩
              obtain ⟨dr, hdr⟩ : ∃ q, sx.dropped = q := ⟨_, rfl⟩
              have HSX := Lib.hid (stat_any w8 hcx)
              rw [hkp, hht, hms, hdr] at HSX
              have q1 : ht + ms = (M + 1) := by rw [← hht, ← hms]; exact hpi.hm
              have q2 : ms = kp + dr := by
                have := hpi.md
                rw [← hms, ← hkp, ← hdr]
                simpa [CS.plain] using this
              have q3 : kp ≤ R := by
                have := hpi.full
                rw [← hkp]
                simpa [CS.plain] using this
              have r1 : ((ht : Int) + (ms : Int) != ((M : Int) + 1)) = false := by rw [bne_eq_false_iff_eq]; omega
              have r2 : ((ms : Int) != (kp : Int) + (dr : Int)) = false := by rw [bne_eq_false_iff_eq]; omega
              have r3 : decide ((R : Int) < (kp : Int)) = false := by simp; omega
              have r3' : decide (R < kp) = false := by simp; omega
              have hb1 : ht ≤ 1000 := by omega
              have hb2 : ms ≤ 1000 := by omega
              have hb3 : kp ≤ 1000 := by omega
              have hb4 : dr ≤ 1000 := by omega
              clear hcx hpx hpi hkp hht hms hdr q1 q2 q3
              refine HSX.out.mono ?_
              rintro e wz ⟨rfl, hBz⟩
              have HBZ := Lib.hid (below_more HBT.out hBz HBT.out.size)
              have HLZ := Lib.hid ((HLT.out).below (hBz.trans ((balC wz (.cells #[.int .i64 (kp : Int), .int .i64 (ht : Int), .int .i64 (ms : Int), .int .i64 (dr : Int)] 38)).mono hBz.size)))
              clear hBz
              go_wp2
              go_roundw
              case rel => exact ⟨i + 1, (M + 1), _, by omega, by omega, rfl, by go_num, by go_num, HIA.out, HLZ.out, HBZ.out.alloc HBZ.out.size _⟩
              case measure => simp [intOf]; omega
            · have HASK := Lib.hid hask
              obtain ⟨ae, hae⟩ : ∃ ae, askE N K a.ix = ae := ⟨_, rfl⟩
              have HAE := Lib.hid hae
              have hae0 : (ae == 0) = false := by rw [beq_eq_false_iff_ne, ← hae]; exact hask
              clear hask hae
              go_wp2_with fail
              have HPK := Lib.hid (by have h := pick_ex w5 a.what 3 (by omega) (by omega); rw [hpw] at h; exact h : Calls Try.prog 7 #[.int .i64 a.what, .int .i64 ((3 : Nat) : Int)] w5 fun e w' => e = .returned (.int .i64 ((0 : Nat) : Int)) ∧ w5 = w')
              refine HPK.out.mono ?_
              rintro e w' ⟨rfl, rfl⟩
              obtain ⟨sx, hcx, hpx⟩ := HLV5.out
              have hsn : sx.n = N := by have := HI.out.n; rw [← hpx] at this; exact this
              have hev : askErr sx.n a.k a.ix = ae := by unfold askErr; rw [if_neg (by rw [hsn, HKK.out]; omega), hsn, HKK.out, Int.toNat_natCast]; exact HAE.out
              have HT := Lib.hid (turn_c_bad w5 hcx a.k _ a.ix HX55.out (by have := HIX.out; omega) (by rw [hev]; rw [← HAE.out]; exact HASK.out))
              rw [hev] at HT
              have b1' := HBX5.out.c1
              have b4' := HBX5.out.c4
              clear hcx hpx hsn hev
              go_wp2_with fail
              refine HT.out.mono ?_
              rintro e w6 ⟨rfl, hB6⟩
              have HBX6 := Lib.hid (HBX5.out.below hB6)
              have HB6 := Lib.hid (below_more HB5.out hB6 HB5.out.size)
              have HL6 := Lib.hid ((HLV5.out).below hB6)
              have HB66 := Lib.hid hB6
              have b4'' := HBX6.out.c4
              clear hB6
              go_wp2_with fail
              have HTB := Lib.hid (turn_bad w6 (HCF.out.below HB66.out).at0 _ a.ix (HX55.out.below HB66.out) (by have := HIX.out; omega) HASK.out)
              rw [HAE.out] at HTB
              refine HTB.out.mono ?_
              rintro e w7 ⟨rfl, hB7⟩
              have HB7 := Lib.hid (below_more HB6.out hB7 HB6.out.size)
              have HL7 := Lib.hid (HL6.out.below hB7)
              clear hB7
              go_wp2_with fail
              refine (sameRows_any _ _ _ [] (rows_nilC _) (rows_nilC _) (by simp) (fun i h => absurd h (by simp))).mono ?_
              rintro e w8 ⟨rfl, q8, rfl⟩
              have HBT := Lib.hid (below_more HB7.out (drewBelow w7 q8) HB7.out.size)
              have HLT := Lib.hid (HL7.out.below (drewBelow w7 q8))
              go_wp2_with fail
              generalize w7.drewN q8 = w8 at *
              obtain ⟨sx, hcx, hpx⟩ := HLT.out
              have hpi := HI.out
              rw [← hpx] at hpi
              obtain ⟨kp, hkp⟩ : ∃ q, sx.es.length = q := ⟨_, rfl⟩
              obtain ⟨ht, hht⟩ : ∃ q, sx.hits = q := ⟨_, rfl⟩
              obtain ⟨ms, hms⟩ : ∃ q, sx.misses = q := ⟨_, rfl⟩
              obtain ⟨dr, hdr⟩ : ∃ q, sx.dropped = q := ⟨_, rfl⟩
              have HSX := Lib.hid (stat_any w8 hcx)
              rw [hkp, hht, hms, hdr] at HSX
              have q1 : ht + ms = M := by rw [← hht, ← hms]; exact hpi.hm
              have q2 : ms = kp + dr := by
                have := hpi.md
                rw [← hms, ← hkp, ← hdr]
                simpa [CS.plain] using this
              have q3 : kp ≤ R := by
                have := hpi.full
                rw [← hkp]
                simpa [CS.plain] using this
              have r1 : ((ht : Int) + (ms : Int) != (M : Int)) = false := by rw [bne_eq_false_iff_eq]; omega
              have r2 : ((ms : Int) != (kp : Int) + (dr : Int)) = false := by rw [bne_eq_false_iff_eq]; omega
              have r3 : decide ((R : Int) < (kp : Int)) = false := by simp; omega
              have r3' : decide (R < kp) = false := by simp; omega
              have hb1 : ht ≤ 1000 := by omega
              have hb2 : ms ≤ 1000 := by omega
              have hb3 : kp ≤ 1000 := by omega
              have hb4 : dr ≤ 1000 := by omega
              clear hcx hpx hpi hkp hht hms hdr q1 q2 q3
              refine HSX.out.mono ?_
              rintro e wz ⟨rfl, hBz⟩
              have HBZ := Lib.hid (below_more HBT.out hBz HBT.out.size)
              have HLZ := Lib.hid ((HLT.out).below (hBz.trans ((balC wz (.cells #[.int .i64 (kp : Int), .int .i64 (ht : Int), .int .i64 (ms : Int), .int .i64 (dr : Int)] 38)).mono hBz.size)))
              clear hBz
              go_wp2
              go_roundw
              case rel => exact ⟨i + 1, M, _, by omega, by omega, rfl, by go_num, by go_num, HI.out, HLZ.out, HBZ.out.alloc HBZ.out.size _⟩
              case measure => simp [intOf]; omega
          · by_cases hask : askE N K a.ix = 0
            · have HASK := Lib.hid hask
              clear hask
              obtain ⟨Kn, hKn⟩ : ∃ q : Nat, q = K := ⟨_, rfl⟩
              subst hKn
              have HCW := Lib.hid (show ∀ i, CK b bm i → i < w5.heap.size from by
                obtain ⟨s, hc, _⟩ := HLV5.out
                intro i h
                rcases h with rfl | rfl
                · exact hc.lt
                · exact hc.map.lt)
              go_wp2_with fail
              have HPK := Lib.hid (by have h := pick_ex w5 a.what 3 (by omega) (by omega); rw [hpw] at h; exact h : Calls Try.prog 7 #[.int .i64 a.what, .int .i64 ((3 : Nat) : Int)] w5 fun e w' => e = .returned (.int .i64 ((1 : Nat) : Int)) ∧ w5 = w')
              refine HPK.out.mono ?_
              rintro e w' ⟨rfl, rfl⟩
              have HKD := Lib.hid (show Kept (CK b bm) w5 w5.drew from ⟨rfl, rfl, rfl, Nat.le_refl _, fun _ _ _ => rfl⟩)
              go_wp2_with fail
              refine s_start 11 (fun w' => Kept (CK b bm) w5 w') (by as_aux_lemma => kernel_rfl) (by as_aux_lemma => kernel_rfl) HKD.out ?_
              refine s_take 0 (by as_aux_lemma => kernel_rfl) (by as_aux_lemma => kernel_rfl) (by as_aux_lemma => kernel_rfl) (by as_aux_lemma => kernel_rfl) HKD.out (fun oi ho => ?_)
              simp only [List.getElem?_toArray, List.getElem?_cons_succ, List.getElem?_cons_zero, Option.some.injEq] at ho
              subst ho
              refine ⟨?_, Or.inl ⟨by rfl, fun w _ => ?_⟩, ?_⟩
              rotate_left
              · (go_simp <;> with_reducible rfl)
              try simp only [Act.put, List.setIfInBounds_toArray, List.set_cons_zero, List.set_cons_succ]
              refine s_take 1 (by as_aux_lemma => kernel_rfl) (by as_aux_lemma => kernel_rfl) (by as_aux_lemma => kernel_rfl) (by as_aux_lemma => kernel_rfl) HKD.out (fun oi ho => ?_)
              simp only [List.getElem?_toArray, List.getElem?_cons_succ, List.getElem?_cons_zero, Option.some.injEq] at ho
              subst ho
              refine ⟨?_, Or.inl ⟨by rfl, fun w _ => ?_⟩, ?_⟩
              rotate_left
              · (go_simp <;> with_reducible rfl)
              try simp only [Act.put, List.setIfInBounds_toArray, List.set_cons_zero, List.set_cons_succ]
              refine s_take 2 (by as_aux_lemma => kernel_rfl) (by as_aux_lemma => kernel_rfl) (by as_aux_lemma => kernel_rfl) (by as_aux_lemma => kernel_rfl) HKD.out (fun oi ho => ?_)
              simp only [List.getElem?_toArray, List.getElem?_cons_succ, List.getElem?_cons_zero, Option.some.injEq] at ho
              subst ho
              refine ⟨.int .i64 a.k, Or.inl ⟨by rfl, fun w' hS' => ?_⟩, ?_⟩
              · have hb' := HBX5.out.kept hS' HNG.out
                have q0 := hb'.c0
                have q1 := hb'.c1
                have q2 := hb'.c2
                have q3 := hb'.c3
                have q4 := hb'.c4
                unfold bv at q3
                clear hb'
                (go_simp <;> with_reducible rfl)
              try simp only [Act.put, List.setIfInBounds_toArray, List.set_cons_zero, List.set_cons_succ]
              refine s_take 3 (by as_aux_lemma => kernel_rfl) (by as_aux_lemma => kernel_rfl) (by as_aux_lemma => kernel_rfl) (by as_aux_lemma => kernel_rfl) HKD.out (fun oi ho => ?_)
              simp only [List.getElem?_toArray, List.getElem?_cons_succ, List.getElem?_cons_zero, Option.some.injEq] at ho
              subst ho
              refine ⟨.agg #[.int .i64 a.what, .int .i64 a.k, .int .i64 a.long, .int .u8 ((a.first.v : Nat) : Int), .slice pu lu cu], Or.inl ⟨by rfl, fun w' hS' => ?_⟩, ?_⟩
              · have hb' := HBX5.out.kept hS' HNG.out
                have q0 := hb'.c0
                have q1 := hb'.c1
                have q2 := hb'.c2
                have q3 := hb'.c3
                have q4 := hb'.c4
                unfold bv at q3
                clear hb'
                (go_simp <;> with_reducible rfl)
              try simp only [Act.put, List.setIfInBounds_toArray, List.set_cons_zero, List.set_cons_succ]
              refine s_all (rs := [4]) (by as_aux_lemma => kernel_rfl) (by simp) ?_
              refine s_step 4 (by as_aux_lemma => kernel_rfl) (fun o ho K hK => ?_) AllReadyH.nil
              simp only [List.getElem?_toArray, List.getElem?_cons_succ, List.getElem?_cons_zero, Option.some.injEq] at ho
              subst ho
              go_simp
              refine (held_any w5.drew a _ (HX55.out.below (show Below w5.heap.size w5 w5.drew from drewBelow w5 1)) (by rw [HLU.out]; have := HIX.out; have := HLU.out; omega)).mono ?_
              rintro e wa ⟨hvv, rfl, hnew, hba⟩
              have HNW := Lib.hid hnew
              have HBA := Lib.hid (show Below w5.heap.size w5 wa from ⟨hba.os, hba.tape, hba.output, hba.size, hba.block⟩)
              have HKA := Lib.hid (show Kept (CK b bm) w5 wa from (Kept.below HBA.out).mono (fun _ _ h => h.elim))
              clear hnew hba
              go_wp2_with fail
              refine hK.out _ _ HKA.out ?_
              clear hK K
              try simp only [Act.put, List.setIfInBounds_toArray, List.set_cons_zero, List.set_cons_succ]
              refine s_all (rs := [5]) (by as_aux_lemma => kernel_rfl) (by simp) ?_
              refine s_step 5 (by as_aux_lemma => kernel_rfl) (fun o ho K hK => ?_) AllReadyH.nil
              simp only [List.getElem?_toArray, List.getElem?_cons_succ, List.getElem?_cons_zero, Option.some.injEq] at ho
              subst ho
              go_simp
              obtain ⟨sx, hcx, hpx⟩ := HLV5.out.below HBA.out
              have hsn : sx.n = N := by have := HI.out.n; rw [← hpx] at this; exact this
              have hsm := HI.out.small (by omega)
              rw [← hpx] at hsm
              have hev : askErr sx.n (Kn : Int) a.ix = 0 := by unfold askErr; rw [if_neg (by rw [hsn]; omega), hsn, Int.toNat_natCast]; exact HASK.out
              have HD := Lib.hid (dec_c_ok wa hcx (fun i hi => Nat.lt_of_lt_of_le (HCW.out i hi) HBA.out.size) (Kn : Int) hvv a (HNW.out.far (F := CK b bm) HCW.out) (by rw [HLU.out]; have := HIX.out; have := HLU.out; omega) hev hsm)
              rw [← HKK.out] at HD
              have HPX := Lib.hid hpx
              clear hcx hpx hsn hsm hev
              refine HD.out.mono ?_
              rintro e w6 ⟨s', base, vv, rfl, hlone, hbs, hbw, hca, hpp, hk6⟩
              rw [HKK.out, Int.toNat_natCast] at hlone hpp
              have HK6 := Lib.hid (HKA.out.trans hk6 (fun _ _ h => h))
              have HLN := Lib.hid hlone
              have HCA := Lib.hid hca
              have HPP := Lib.hid hpp
              have HBW := Lib.hid hbw
              obtain ⟨pv, cv, hvw⟩ := hlone.rows.shape
              clear hlone hca hpp hk6 hbs hbw
              subst hvw
              go_wp2_with fail
              refine hK.out _ _ HK6.out ?_
              clear hK K
              try simp only [Act.put, List.setIfInBounds_toArray, List.set_cons_zero, List.set_cons_succ]
              refine s_take 6 (by as_aux_lemma => kernel_rfl) (by as_aux_lemma => kernel_rfl) (by as_aux_lemma => kernel_rfl) (by as_aux_lemma => kernel_rfl) HK6.out (fun oi ho => ?_)
              simp only [List.getElem?_toArray, List.getElem?_cons_succ, List.getElem?_cons_zero, Option.some.injEq] at ho
              subst ho
              refine ⟨?_, Or.inl ⟨by rfl, fun w _ => ?_⟩, ?_⟩
              rotate_left
              · (go_simp <;> with_reducible rfl)
              try simp only [Act.put, List.setIfInBounds_toArray, List.set_cons_zero, List.set_cons_succ]
              refine s_take 7 (by as_aux_lemma => kernel_rfl) (by as_aux_lemma => kernel_rfl) (by as_aux_lemma => kernel_rfl) (by as_aux_lemma => kernel_rfl) HK6.out (fun oi ho => ?_)
              simp only [List.getElem?_toArray, List.getElem?_cons_succ, List.getElem?_cons_zero, Option.some.injEq] at ho
              subst ho
              refine ⟨?_, Or.inl ⟨by rfl, fun w _ => ?_⟩, ?_⟩
              rotate_left
              · (go_simp <;> with_reducible rfl)
              try simp only [Act.put, List.setIfInBounds_toArray, List.set_cons_zero, List.set_cons_succ]
              refine s_take 8 (by as_aux_lemma => kernel_rfl) (by as_aux_lemma => kernel_rfl) (by as_aux_lemma => kernel_rfl) (by as_aux_lemma => kernel_rfl) HK6.out (fun oi ho => ?_)
              simp only [List.getElem?_toArray, List.getElem?_cons_succ, List.getElem?_cons_zero, Option.some.injEq] at ho
              subst ho
              refine ⟨?_, Or.inl ⟨by rfl, fun w _ => ?_⟩, ?_⟩
              rotate_left
              · (go_simp <;> with_reducible rfl)
              try simp only [Act.put, List.setIfInBounds_toArray, List.set_cons_zero, List.set_cons_succ]
              refine s_take 9 (by as_aux_lemma => kernel_rfl) (by as_aux_lemma => kernel_rfl) (by as_aux_lemma => kernel_rfl) (by as_aux_lemma => kernel_rfl) HK6.out (fun oi ho => ?_)
              simp only [List.getElem?_toArray, List.getElem?_cons_succ, List.getElem?_cons_zero, Option.some.injEq] at ho
              subst ho
              refine ⟨?_, Or.inl ⟨by rfl, fun w _ => ?_⟩, ?_⟩
              rotate_left
              · (go_simp <;> with_reducible rfl)
              try simp only [Act.put, List.setIfInBounds_toArray, List.set_cons_zero, List.set_cons_succ]
              refine s_take 10 (by as_aux_lemma => kernel_rfl) (by as_aux_lemma => kernel_rfl) (by as_aux_lemma => kernel_rfl) (by as_aux_lemma => kernel_rfl) HK6.out (fun oi ho => ?_)
              simp only [List.getElem?_toArray, List.getElem?_cons_succ, List.getElem?_cons_zero, Option.some.injEq] at ho
              subst ho
              refine ⟨?_, Or.inl ⟨by rfl, fun w _ => ?_⟩, ?_⟩
              rotate_left
              · (go_simp <;> with_reducible rfl)
              try simp only [Act.put, List.setIfInBounds_toArray, List.set_cons_zero, List.set_cons_succ]
              refine s_done (by as_aux_lemma => kernel_rfl) ?_
              have HBX6 := Lib.hid (HBX5.out.kept HK6.out HNG.out)
              have HB6 := Lib.hid (HB5.out.trans (HK6.out.toBelow HB5.out.size (fun i hi => HCK.out i hi)))
              have HCF6 := Lib.hid (HCF.out.kept HK6.out HCB.out)
              have HX6 := Lib.hid (HX0.out.below HB6.out)
              have c0' := HBX6.out.c0
              have c1' := HBX6.out.c1
              have c2' := HBX6.out.c2
              have c3' := HBX6.out.c3
              have c4' := HBX6.out.c4
              unfold bv at c3'
              go_wp2_with fail
              refine (held_any w6 a _ HX6.out (by rw [HLU.out]; have := HIX.out; have := HLU.out; omega)).mono ?_
              rintro e w6b ⟨hv6, rfl, hn6, hb6⟩
              have HNW6 := Lib.hid hn6
              have HB6b := Lib.hid (below_more HB6.out hb6 HB6.out.size)
              have HBB6 := Lib.hid hb6
              clear hn6 hb6
              clear c0' c1' c2' c3' c4'
              have HCD := Lib.hid (decode_any w6b (HCF6.out.below HBB6.out).at0 hv6 (heldL a) _ (HNW6.out.far (F := fun _ => False) (fun _ h => h.elim)).held (by rw [heldL_len, HLU.out]; have := HIX.out; have := HLU.out; omega) rfl (Nat.le_trans (heldL_w0 a) (by omega)))
              rw [dec_ask, HASK.out] at HCD
              go_wp2_with fail
              refine HCD.out.mono ?_
              rintro e w7 ⟨v7, rfl, hr7, _, hB7⟩
              have hr7 := hr7 trivial
              rw [heldL_idx] at hr7
              obtain ⟨pv7, cv7, hvw7⟩ := hr7.rows.shape
              have HR1 := Lib.hid ((HLN.out.rows.below HBB6.out).below hB7)
              have HR2 := Lib.hid hr7.rows
              have HB7 := Lib.hid (below_more HB6b.out hB7 HB6b.out.size)
              have HL7 := Lib.hid (show Live w7 b bm (ps.ask (Kn, a.ix.take Kn)) from ⟨s', HCA.out w7 ((below_more HBB6.out hB7 HBB6.out.size).mono HBW.out), by rw [HPP.out, HPX.out]⟩)
              have HTL := Lib.hid (decL_lenC Kn (idxB (a.ix.take Kn)) (hRow (heldL a)) ((heldL a).getD 0 (0, [])).2.length)
              have HTW := Lib.hid (decL_wideC Kn (idxB (a.ix.take Kn)) (hRow (heldL a)) (heldL_w0 a))
              have HIA := Lib.hid (HI.out.ask hR1 (Kn, a.ix.take Kn))
              clear hr7 hB7
              subst hvw7
              go_wp2_with fail
              refine (sameRows_any _ _ _ _ HR1.out HR2.out (by rw [HTL.out]; omega) HTW.out).mono ?_
              rintro e w8 ⟨rfl, q8, rfl⟩
              have HBT := Lib.hid (below_more HB7.out (drewBelow w7 q8) HB7.out.size)
              have HLT := Lib.hid (HL7.out.below (drewBelow w7 q8))
              go_wp2_with fail
              generalize w7.drewN q8 = w8 at *
              obtain ⟨sx, hcx, hpx⟩ := HLT.out
              have hpi := HIA.out
              rw [← hpx] at hpi
              obtain ⟨kp, hkp⟩ : ∃ q, sx.es.length = q := ⟨_, rfl⟩
              obtain ⟨ht, hht⟩ : ∃ q, sx.hits = q := ⟨_, rfl⟩
              obtain ⟨ms, hms⟩ : ∃ q, sx.misses = q := ⟨_, rfl⟩
              obtain ⟨dr, hdr⟩ : ∃ q, sx.dropped = q := ⟨_, rfl⟩
              have HSX := Lib.hid (stat_any w8 hcx)
              rw [hkp, hht, hms, hdr] at HSX
              have q1 : ht + ms = (M + 1) := by rw [← hht, ← hms]; exact hpi.hm
              have q2 : ms = kp + dr := by
                have := hpi.md
                rw [← hms, ← hkp, ← hdr]
                simpa [CS.plain] using this
              have q3 : kp ≤ R := by
                have := hpi.full
                rw [← hkp]
                simpa [CS.plain] using this
              have r1 : ((ht : Int) + (ms : Int) != ((M : Int) + 1)) = false := by rw [bne_eq_false_iff_eq]; omega
              have r2 : ((ms : Int) != (kp : Int) + (dr : Int)) = false := by rw [bne_eq_false_iff_eq]; omega
              have r3 : decide ((R : Int) < (kp : Int)) = false := by simp; omega
              have r3' : decide (R < kp) = false := by simp; omega
              have hb1 : ht ≤ 1000 := by omega
              have hb2 : ms ≤ 1000 := by omega
              have hb3 : kp ≤ 1000 := by omega
              have hb4 : dr ≤ 1000 := by omega
              clear hcx hpx hpi hkp hht hms hdr q1 q2 q3
              refine HSX.out.mono ?_
              rintro e wz ⟨rfl, hBz⟩
              have HBZ := Lib.hid (below_more HBT.out hBz HBT.out.size)
              have HLZ := Lib.hid ((HLT.out).below (hBz.trans ((balC wz (.cells #[.int .i64 (kp : Int), .int .i64 (ht : Int), .int .i64 (ms : Int), .int .i64 (dr : Int)] 38)).mono hBz.size)))
              clear hBz
              go_wp2
              go_roundw
              case rel => exact ⟨i + 1, (M + 1), _, by omega, by omega, rfl, by go_num, by go_num, HIA.out, HLZ.out, HBZ.out.alloc HBZ.out.size _⟩
              case measure => simp [intOf]; omega
            · have HASK := Lib.hid hask
              obtain ⟨ae, hae⟩ : ∃ ae, askE N K a.ix = ae := ⟨_, rfl⟩
              have HAE := Lib.hid hae
              have hae0 : (ae == 0) = false := by rw [beq_eq_false_iff_ne, ← hae]; exact hask
              have HAN := Lib.hid (show ae ≠ 0 from by rw [← hae]; exact hask)
              clear hask hae
              have HCW := Lib.hid (show ∀ i, CK b bm i → i < w5.heap.size from by
                obtain ⟨s, hc, _⟩ := HLV5.out
                intro i h
                rcases h with rfl | rfl
                · exact hc.lt
                · exact hc.map.lt)
              go_wp2_with fail
              have HPK := Lib.hid (by have h := pick_ex w5 a.what 3 (by omega) (by omega); rw [hpw] at h; exact h : Calls Try.prog 7 #[.int .i64 a.what, .int .i64 ((3 : Nat) : Int)] w5 fun e w' => e = .returned (.int .i64 ((1 : Nat) : Int)) ∧ w5 = w')
              refine HPK.out.mono ?_
              rintro e w' ⟨rfl, rfl⟩
              have HKD := Lib.hid (show Kept (CK b bm) w5 w5.drew from ⟨rfl, rfl, rfl, Nat.le_refl _, fun _ _ _ => rfl⟩)
              go_wp2_with fail
              refine s_start 11 (fun w' => Kept (CK b bm) w5 w') (by as_aux_lemma => kernel_rfl) (by as_aux_lemma => kernel_rfl) HKD.out ?_
              refine s_take 0 (by as_aux_lemma => kernel_rfl) (by as_aux_lemma => kernel_rfl) (by as_aux_lemma => kernel_rfl) (by as_aux_lemma => kernel_rfl) HKD.out (fun oi ho => ?_)
              simp only [List.getElem?_toArray, List.getElem?_cons_succ, List.getElem?_cons_zero, Option.some.injEq] at ho
              subst ho
              refine ⟨?_, Or.inl ⟨by rfl, fun w _ => ?_⟩, ?_⟩
              rotate_left
              · (go_simp <;> with_reducible rfl)
              try simp only [Act.put, List.setIfInBounds_toArray, List.set_cons_zero, List.set_cons_succ]
              refine s_take 1 (by as_aux_lemma => kernel_rfl) (by as_aux_lemma => kernel_rfl) (by as_aux_lemma => kernel_rfl) (by as_aux_lemma => kernel_rfl) HKD.out (fun oi ho => ?_)
              simp only [List.getElem?_toArray, List.getElem?_cons_succ, List.getElem?_cons_zero, Option.some.injEq] at ho
              subst ho
              refine ⟨?_, Or.inl ⟨by rfl, fun w _ => ?_⟩, ?_⟩
              rotate_left
              · (go_simp <;> with_reducible rfl)
              try simp only [Act.put, List.setIfInBounds_toArray, List.set_cons_zero, List.set_cons_succ]
              refine s_take 2 (by as_aux_lemma => kernel_rfl) (by as_aux_lemma => kernel_rfl) (by as_aux_lemma => kernel_rfl) (by as_aux_lemma => kernel_rfl) HKD.out (fun oi ho => ?_)
              simp only [List.getElem?_toArray, List.getElem?_cons_succ, List.getElem?_cons_zero, Option.some.injEq] at ho
              subst ho
              refine ⟨.int .i64 a.k, Or.inl ⟨by rfl, fun w' hS' => ?_⟩, ?_⟩
              · have hb' := HBX5.out.kept hS' HNG.out
                have q0 := hb'.c0
                have q1 := hb'.c1
                have q2 := hb'.c2
                have q3 := hb'.c3
                have q4 := hb'.c4
                unfold bv at q3
                clear hb'
                (go_simp <;> with_reducible rfl)
              try simp only [Act.put, List.setIfInBounds_toArray, List.set_cons_zero, List.set_cons_succ]
              refine s_take 3 (by as_aux_lemma => kernel_rfl) (by as_aux_lemma => kernel_rfl) (by as_aux_lemma => kernel_rfl) (by as_aux_lemma => kernel_rfl) HKD.out (fun oi ho => ?_)
              simp only [List.getElem?_toArray, List.getElem?_cons_succ, List.getElem?_cons_zero, Option.some.injEq] at ho
              subst ho
              refine ⟨.agg #[.int .i64 a.what, .int .i64 a.k, .int .i64 a.long, .int .u8 ((a.first.v : Nat) : Int), .slice pu lu cu], Or.inl ⟨by rfl, fun w' hS' => ?_⟩, ?_⟩
              · have hb' := HBX5.out.kept hS' HNG.out
                have q0 := hb'.c0
                have q1 := hb'.c1
                have q2 := hb'.c2
                have q3 := hb'.c3
                have q4 := hb'.c4
                unfold bv at q3
                clear hb'
                (go_simp <;> with_reducible rfl)
              try simp only [Act.put, List.setIfInBounds_toArray, List.set_cons_zero, List.set_cons_succ]
              refine s_all (rs := [4]) (by as_aux_lemma => kernel_rfl) (by simp) ?_
              refine s_step 4 (by as_aux_lemma => kernel_rfl) (fun o ho K hK => ?_) AllReadyH.nil
              simp only [List.getElem?_toArray, List.getElem?_cons_succ, List.getElem?_cons_zero, Option.some.injEq] at ho
              subst ho
              go_simp
              refine (held_any w5.drew a _ (HX55.out.below (show Below w5.heap.size w5 w5.drew from drewBelow w5 1)) (by rw [HLU.out]; have := HIX.out; have := HLU.out; omega)).mono ?_
              rintro e wa ⟨hvv, rfl, hnew, hba⟩
              have HNW := Lib.hid hnew
              have HBA := Lib.hid (show Below w5.heap.size w5 wa from ⟨hba.os, hba.tape, hba.output, hba.size, hba.block⟩)
              have HKA := Lib.hid (show Kept (CK b bm) w5 wa from (Kept.below HBA.out).mono (fun _ _ h => h.elim))
              clear hnew hba
              go_wp2_with fail
              refine hK.out _ _ HKA.out ?_
              clear hK K
              try simp only [Act.put, List.setIfInBounds_toArray, List.set_cons_zero, List.set_cons_succ]
              refine s_all (rs := [5]) (by as_aux_lemma => kernel_rfl) (by simp) ?_
              refine s_step 5 (by as_aux_lemma => kernel_rfl) (fun o ho K hK => ?_) AllReadyH.nil
              simp only [List.getElem?_toArray, List.getElem?_cons_succ, List.getElem?_cons_zero, Option.some.injEq] at ho
              subst ho
              go_simp
              obtain ⟨sx, hcx, hpx⟩ := (HLV5.out).below HBA.out
              have hsn : sx.n = N := by have := HI.out.n; rw [← hpx] at this; exact this
              have hsm := HI.out.small (by omega)
              rw [← hpx] at hsm
              have hev : askErr sx.n a.k a.ix = ae := by unfold askErr; rw [if_neg (by rw [hsn, HKK.out]; omega), hsn, HKK.out, Int.toNat_natCast]; exact HAE.out
              have HD := Lib.hid (dec_c_err wa hcx (fun i hi => Nat.lt_of_lt_of_le (HCW.out i hi) HBA.out.size) a.k hvv a (HNW.out.far (F := CK b bm) HCW.out) (by rw [HLU.out]; have := HIX.out; have := HLU.out; omega) hev (HAN.out) hsm)
              clear hcx hpx hsn hsm hev
              refine HD.out.mono ?_
              rintro e w6 ⟨rfl, hB6⟩
              have HW6 := Lib.hid (below_more HBA.out hB6 HBA.out.size)
              have HK6 := Lib.hid (show Kept (CK b bm) w5 w6 from (Kept.below HW6.out).mono (fun _ _ h => h.elim))
              clear hB6
              go_wp2_with fail
              refine hK.out _ _ HK6.out ?_
              clear hK K
              try simp only [Act.put, List.setIfInBounds_toArray, List.set_cons_zero, List.set_cons_succ]
              refine s_take 6 (by as_aux_lemma => kernel_rfl) (by as_aux_lemma => kernel_rfl) (by as_aux_lemma => kernel_rfl) (by as_aux_lemma => kernel_rfl) HK6.out (fun oi ho => ?_)
              simp only [List.getElem?_toArray, List.getElem?_cons_succ, List.getElem?_cons_zero, Option.some.injEq] at ho
              subst ho
              refine ⟨?_, Or.inl ⟨by rfl, fun w _ => ?_⟩, ?_⟩
              rotate_left
              · (go_simp <;> with_reducible rfl)
              try simp only [Act.put, List.setIfInBounds_toArray, List.set_cons_zero, List.set_cons_succ]
              refine s_take 7 (by as_aux_lemma => kernel_rfl) (by as_aux_lemma => kernel_rfl) (by as_aux_lemma => kernel_rfl) (by as_aux_lemma => kernel_rfl) HK6.out (fun oi ho => ?_)
              simp only [List.getElem?_toArray, List.getElem?_cons_succ, List.getElem?_cons_zero, Option.some.injEq] at ho
              subst ho
              refine ⟨?_, Or.inl ⟨by rfl, fun w _ => ?_⟩, ?_⟩
              rotate_left
              · (go_simp <;> with_reducible rfl)
              try simp only [Act.put, List.setIfInBounds_toArray, List.set_cons_zero, List.set_cons_succ]
              refine s_take 8 (by as_aux_lemma => kernel_rfl) (by as_aux_lemma => kernel_rfl) (by as_aux_lemma => kernel_rfl) (by as_aux_lemma => kernel_rfl) HK6.out (fun oi ho => ?_)
              simp only [List.getElem?_toArray, List.getElem?_cons_succ, List.getElem?_cons_zero, Option.some.injEq] at ho
              subst ho
              refine ⟨?_, Or.inl ⟨by rfl, fun w _ => ?_⟩, ?_⟩
              rotate_left
              · (go_simp <;> with_reducible rfl)
              try simp only [Act.put, List.setIfInBounds_toArray, List.set_cons_zero, List.set_cons_succ]
              refine s_take 9 (by as_aux_lemma => kernel_rfl) (by as_aux_lemma => kernel_rfl) (by as_aux_lemma => kernel_rfl) (by as_aux_lemma => kernel_rfl) HK6.out (fun oi ho => ?_)
              simp only [List.getElem?_toArray, List.getElem?_cons_succ, List.getElem?_cons_zero, Option.some.injEq] at ho
              subst ho
              refine ⟨?_, Or.inl ⟨by rfl, fun w _ => ?_⟩, ?_⟩
              rotate_left
              · (go_simp <;> with_reducible rfl)
              try simp only [Act.put, List.setIfInBounds_toArray, List.set_cons_zero, List.set_cons_succ]
              refine s_take 10 (by as_aux_lemma => kernel_rfl) (by as_aux_lemma => kernel_rfl) (by as_aux_lemma => kernel_rfl) (by as_aux_lemma => kernel_rfl) HK6.out (fun oi ho => ?_)
              simp only [List.getElem?_toArray, List.getElem?_cons_succ, List.getElem?_cons_zero, Option.some.injEq] at ho
              subst ho
              refine ⟨?_, Or.inl ⟨by rfl, fun w _ => ?_⟩, ?_⟩
              rotate_left
              · (go_simp <;> with_reducible rfl)
              try simp only [Act.put, List.setIfInBounds_toArray, List.set_cons_zero, List.set_cons_succ]
              refine s_done (by as_aux_lemma => kernel_rfl) ?_
              have HBX6 := Lib.hid (HBX5.out.below HW6.out)
              have HX6 := Lib.hid (HX55.out.below HW6.out)
              have HB6 := Lib.hid (below_more HB5.out HW6.out HB5.out.size)
              have HL6 := Lib.hid ((HLV5.out).below HW6.out)
              have c0' := HBX6.out.c0
              have c1' := HBX6.out.c1
              have c2' := HBX6.out.c2
              have c3' := HBX6.out.c3
              have c4' := HBX6.out.c4
              unfold bv at c3'
              go_wp2_with fail
              refine (held_any w6 a _ HX6.out (by rw [HLU.out]; have := HIX.out; have := HLU.out; omega)).mono ?_
              rintro e w6b ⟨hv6, rfl, hn6, hb6⟩
              have HNW6 := Lib.hid hn6
              have HB6b := Lib.hid (below_more HB6.out hb6 HB6.out.size)
              have HL6b := Lib.hid (HL6.out.below hb6)
              have HW6b := Lib.hid (below_more HW6.out hb6 HW6.out.size)
              clear hn6 hb6
              clear c0' c1' c2' c3' c4'
              go_wp2_with fail
              have HCD := Lib.hid (decode_any w6b (HCF.out.below HW6b.out).at0 hv6 (heldL a) _ (HNW6.out.far (F := fun _ => False) (fun _ h => h.elim)).held (by rw [heldL_len, HLU.out]; have := HIX.out; have := HLU.out; omega) rfl (Nat.le_trans (heldL_w0 a) (by omega)))
              rw [dec_ask, HAE.out] at HCD
              refine HCD.out.mono ?_
              rintro e w7 ⟨v7, rfl, _, hv7, hB7⟩
              obtain rfl := hv7 HAN.out
              have HB7 := Lib.hid (below_more HB6b.out hB7 HB6b.out.size)
              have HL7 := Lib.hid (HL6b.out.below hB7)
              clear hB7
              go_wp2_with fail
              refine (sameRows_any _ _ _ [] (rows_nilC _) (rows_nilC _) (by simp) (fun i h => absurd h (by simp))).mono ?_
              rintro e w8 ⟨rfl, q8, rfl⟩
              have HBT := Lib.hid (below_more HB7.out (drewBelow w7 q8) HB7.out.size)
              have HLT := Lib.hid (HL7.out.below (drewBelow w7 q8))
              go_wp2_with fail
              generalize w7.drewN q8 = w8 at *
              obtain ⟨sx, hcx, hpx⟩ := HLT.out
              have hpi := HI.out
              rw [← hpx] at hpi
              obtain ⟨kp, hkp⟩ : ∃ q, sx.es.length = q := ⟨_, rfl⟩
              obtain ⟨ht, hht⟩ : ∃ q, sx.hits = q := ⟨_, rfl⟩
              obtain ⟨ms, hms⟩ : ∃ q, sx.misses = q := ⟨_, rfl⟩
              obtain ⟨dr, hdr⟩ : ∃ q, sx.dropped = q := ⟨_, rfl⟩
              have HSX := Lib.hid (stat_any w8 hcx)
              rw [hkp, hht, hms, hdr] at HSX
              have q1 : ht + ms = M := by rw [← hht, ← hms]; exact hpi.hm
              have q2 : ms = kp + dr := by
                have := hpi.md
                rw [← hms, ← hkp, ← hdr]
                simpa [CS.plain] using this
              have q3 : kp ≤ R := by
                have := hpi.full
                rw [← hkp]
                simpa [CS.plain] using this
              have r1 : ((ht : Int) + (ms : Int) != (M : Int)) = false := by rw [bne_eq_false_iff_eq]; omega
              have r2 : ((ms : Int) != (kp : Int) + (dr : Int)) = false := by rw [bne_eq_false_iff_eq]; omega
              have r3 : decide ((R : Int) < (kp : Int)) = false := by simp; omega
              have r3' : decide (R < kp) = false := by simp; omega
              have hb1 : ht ≤ 1000 := by omega
              have hb2 : ms ≤ 1000 := by omega
              have hb3 : kp ≤ 1000 := by omega
              have hb4 : dr ≤ 1000 := by omega
              clear hcx hpx hpi hkp hht hms hdr q1 q2 q3
              refine HSX.out.mono ?_
              rintro e wz ⟨rfl, hBz⟩
              have HBZ := Lib.hid (below_more HBT.out hBz HBT.out.size)
              have HLZ := Lib.hid ((HLT.out).below (hBz.trans ((balC wz (.cells #[.int .i64 (kp : Int), .int .i64 (ht : Int), .int .i64 (ms : Int), .int .i64 (dr : Int)] 38)).mono hBz.size)))
              clear hBz
              go_wp2
              go_roundw
              case rel => exact ⟨i + 1, M, _, by omega, by omega, rfl, by go_num, by go_num, HI.out, HLZ.out, HBZ.out.alloc HBZ.out.size _⟩
              case measure => simp [intOf]; omega
          · go_wp2_with fail
            have HPK := Lib.hid (by have h := pick_ex w5 a.what 3 (by omega) (by omega); rw [hpw] at h; exact h : Calls Try.prog 7 #[.int .i64 a.what, .int .i64 ((3 : Nat) : Int)] w5 fun e w' => e = .returned (.int .i64 ((2 : Nat) : Int)) ∧ w5 = w')
            refine HPK.out.mono ?_
            rintro e w' ⟨rfl, rfl⟩
            go_wp2_with fail
            obtain ⟨sx, hcx, hpx⟩ := HLV5.out
            have hpi := HI.out
            rw [← hpx] at hpi
            obtain ⟨kp, hkp⟩ : ∃ q, sx.es.length = q := ⟨_, rfl⟩
            obtain ⟨ht, hht⟩ : ∃ q, sx.hits = q := ⟨_, rfl⟩
            obtain ⟨ms, hms⟩ : ∃ q, sx.misses = q := ⟨_, rfl⟩
            obtain ⟨dr, hdr⟩ : ∃ q, sx.dropped = q := ⟨_, rfl⟩
            have HSX := Lib.hid (stat_any w5 hcx)
            rw [hkp, hht, hms, hdr] at HSX
            have q1 : ht + ms = M := by rw [← hht, ← hms]; exact hpi.hm
            have q2 : ms = kp + dr := by
              have := hpi.md
              rw [← hms, ← hkp, ← hdr]
              simpa [CS.plain] using this
            have q3 : kp ≤ R := by
              have := hpi.full
              rw [← hkp]
              simpa [CS.plain] using this
            have r1 : ((ht : Int) + (ms : Int) != (M : Int)) = false := by rw [bne_eq_false_iff_eq]; omega
            have r2 : ((ms : Int) != (kp : Int) + (dr : Int)) = false := by rw [bne_eq_false_iff_eq]; omega
            have r3 : decide ((R : Int) < (kp : Int)) = false := by simp; omega
            have r3' : decide (R < kp) = false := by simp; omega
            have hb1 : ht ≤ 1000 := by omega
            have hb2 : ms ≤ 1000 := by omega
            have hb3 : kp ≤ 1000 := by omega
            have hb4 : dr ≤ 1000 := by omega
            clear hcx hpx hpi hkp hht hms hdr q1 q2 q3
            refine HSX.out.mono ?_
            rintro e wz ⟨rfl, hBz⟩
            have HBZ := Lib.hid (below_more HB5.out hBz HB5.out.size)
            have HLZ := Lib.hid ((HLV5.out).below (hBz.trans ((balC wz (.cells #[.int .i64 (kp : Int), .int .i64 (ht : Int), .int .i64 (ms : Int), .int .i64 (dr : Int)] 38)).mono hBz.size)))
            clear hBz
            go_wp2
            go_roundw
            case rel => exact ⟨i + 1, M, _, by omega, by omega, rfl, by go_num, by go_num, HI.out, HLZ.out, HBZ.out.alloc HBZ.out.size _⟩
            case measure => simp [intOf]; omega
      · obtain rfl : i = L := by omega
        go_wp2
        go_ret
        exact ⟨rfl, HB.out⟩
end Go.Proofs.Ytlmpagicjgldkaa
