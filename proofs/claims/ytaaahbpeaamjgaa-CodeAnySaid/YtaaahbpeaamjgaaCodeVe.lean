/-
  The walk of CodeAny.
-/
import Derived.Test.YtaaahbpeaamjgaaCodeVf
import Derived.OwnWalk
namespace Go.Proofs.Ytaaahbpeaamjgaa
open Go.RowKit Go.Maps
set_option linter.unusedVariables false
set_option maxRecDepth 100000
set_option maxHeartbeats 8000000

theorem infoH : (Try.prog.info? 38).map (fun i => (i.zero, i.size, i.bytes)) = some (some (.agg #[.int .i64 0, .slice none 0 0]), 2, 32) := by kernel_rfl

theorem own_shape {W : World} {base size n : Nat} {e : TypeId} {v : Value} {us : List Value} (h : W.ownsRow base e size v n us) : ∃ p c, v = .slice p n c := by
  rcases h.2 with ⟨rfl, h0⟩ | ⟨g, cap, cur, rfl, _⟩
  · exact ⟨none, 0, by rw [h0]⟩
  · exact ⟨_, _, rfl⟩

theorem own_cap {W : World} {base size n c : Nat} {p : Option Addr} {e : TypeId} {us : List Value} (h : W.ownsRow base e size (.slice p n c) n us) : n ≤ c := by
  rcases h.2 with ⟨h1, h0⟩ | ⟨g, cap, cur, h1, _, _, hnc, _⟩
  · omega
  · simp only [Value.slice.injEq] at h1
    omega

theorem codeAny_any (w : World) (n : Int) (vo vw : Value) (ls : List (List B)) (ws : List Int) (ho : RowsAt w vo ls) (hw : IntsAt w vw ws)
    (hll : ls.length ≤ 140737488355328) (hlr : ∀ i, i < ls.length → (ls.getD i []).length ≤ 140737488355328) :
    Calls Try.prog 4 #[.int .i64 n, vo, vw] w fun e w' => e = .returned (.bool true) ∧ Below w.heap.size w w' := by
  have HO := Lib.hid ho
  have HI := Lib.hid hw
  have HLR := Lib.hid hlr
  clear ho hw hlr
  obtain ⟨po, co, hvo⟩ := HO.out.shape
  subst hvo
  obtain ⟨pw, cw, hvw⟩ : ∃ p c, vw = .slice p ws.length c := by
    obtain ⟨p, c, e, _⟩ := HI.out
    exact ⟨p, c, e⟩
  subst hvw
  go_enter Try.func4, Try.ntmps4
  go_wp2_with fail
  refine (awake_any w).mono ?_
  rintro e w1 ⟨rfl, hB1⟩
  have HB1 := Lib.hid hB1
  have HO1 := Lib.hid (HO.out.below hB1)
  have HI1 := Lib.hid (HI.out.below hB1)
  clear hB1
  go_wp2_with fail
  refine (size_any _ _ ls (by exact HO1.out) hll HLR.out).mono ?_
  rintro e w2' ⟨y, rfl, hy, hyb, rfl⟩
  have HY := Lib.hid hy
  clear hy
  by_cases hy : (y : Int) > 160
  · go_wp2
    go_ret
    exact ⟨rfl, HB1.out⟩
  have hy1 := HY.out (by omega)
  have HLW := Lib.hid hy1.2
  have hls := hy1.1
  clear hy1
  by_cases hw6 : (ws.length : Int) > 600
  · go_wp2
    go_ret
    exact ⟨rfl, HB1.out⟩
  by_cases hk0 : ls.length = 0
  · have e0 : ((ls.length : Int) == 0) = true := by rw [beq_iff_eq]; omega
    go_wp2
    go_ret
    exact ⟨rfl, HB1.out⟩
  have e0 : ((ls.length : Int) == 0) = false := by rw [beq_eq_false_iff_ne]; omega
  obtain ⟨k, hk⟩ : ∃ k, ls.length = k := ⟨_, rfl⟩
  rw [hk] at hls hk0 e0 hll
  have HK := Lib.hid hk
  clear hk
  rw [HK.out]
  go_wp2_with fail
  refine (show Calls Try.prog 15 #[.int .i64 n, .int .i64 (256 - (k : Int))] w1 _ from by
    rw [show (256 - (k : Int)) = ((256 - k : Nat) : Int) by omega]
    exact pick_any w1 n (256 - k) (by omega) (by omega)).mono ?_
  rintro e w2 ⟨⟨p, rfl, hp⟩, rfl⟩
  obtain ⟨all, hall⟩ : ∃ all, k + p = all := ⟨_, rfl⟩
  have hall2 : (k : Int) + (p : Int) = (all : Int) := by omega
  go_wp2_with fail
  have a1 : k ≤ all := by omega
  have a2 : all ≤ 255 := by omega
  have a3 : 1 ≤ k := by omega
  clear hall hall2 hp
  refine (cnew_any _ all k a3 a1 a2).mono ?_
  rintro e w3 ⟨bc, bf, vt, rfl, hc, hB3⟩
  have HC3 := Lib.hid hc
  have HB3 := Lib.hid (bb HB1.out hB3)
  have HO3 := Lib.hid (HO1.out.below hB3)
  have HI3 := Lib.hid (HI1.out.below hB3)
  clear hc hB3
  by_cases hev : evenB ls = true
  rotate_left
  · have HEV := Lib.hid (show evenB ls = false by simpa using hev)
    clear hev
    go_wp2_with fail
    refine (encode_bad _ (by exact HC3.out) _ ls (by rw [← HK.out]; exact HO3.out) (by rw [HK.out]; omega) (by rw [HEV.out]; simp)).mono ?_
    rintro e w4 ⟨rfl, hB4⟩
    have HB4 := Lib.hid (bb HB3.out hB4)
    have HO4 := Lib.hid (HO3.out.below hB4)
    clear hB4
    go_wp2_with fail
    refine (unlike_any _ _ ls (by rw [← HK.out]; exact HO4.out) (by rw [HK.out]; omega) (fun i hi => by have := HLW.out i hi; omega)).mono ?_
    rw [HEV.out]
    rintro e w5 ⟨rfl, hB5⟩
    have HB5 := Lib.hid (bb HB4.out hB5)
    clear hB5
    go_wp2
    go_ret
    exact ⟨rfl, HB5.out⟩
  obtain ⟨wide, hwide⟩ : ∃ wide, (ls.getD 0 []).length = wide := ⟨_, rfl⟩
  have HWD := Lib.hid (show ∀ i, i < ls.length → (ls.getD i []).length = wide from fun i hi => by rw [evenB_get hev hi, hwide])
  have hwb : wide ≤ 160 := by rw [← hwide]; exact HLW.out 0 (by rw [HK.out]; omega)
  clear hwide hev
  go_wp2_with fail
  refine (encode_any _ (by exact HC3.out) _ ls wide (by rw [← HK.out]; exact HO3.out) HK.out HWD.out (by omega)).mono ?_
  rintro e w4 ⟨vl, rfl, hlo, hB4⟩
  have HL4 := Lib.hid hlo.rows
  have HB4 := Lib.hid (bb HB3.out hB4)
  have HO4 := Lib.hid (HO3.out.below hB4)
  have HI4 := Lib.hid (HI3.out.below hB4)
  have HC4 := Lib.hid (HC3.out.below hB4)
  clear hB4
  have HLE := Lib.hid (encL_len all k ls wide)
  have HLL := Lib.hid (show ∀ i, i < all → ((encL all k ls wide).getD i []).length = wide from fun i hi => encL_wid _ _ hi)
  obtain ⟨pl, cl, hvl⟩ := HL4.out.shape
  rw [encL_len] at hvl
  subst hvl
  have hcl : all ≤ cl := by
    obtain ⟨us, how, _⟩ := hlo
    rw [encL_len] at how
    exact own_cap how
  clear hlo
  obtain ⟨L, hL⟩ : ∃ L, encL all k ls wide = L := ⟨_, rfl⟩
  rw [hL] at HLE HLL HL4
  have HLEQ := Lib.hid hL
  clear hL
  have hmk := run_make_one (w := w4) 43 3 (.int .i64 0) 8 Try.underlying43 infoI rfl (by omega) all (by omega)
  go_wp2
  clear hmk
  have HS := Lib.hid (CInv.start w4 L all k)
  generalize (w4.alloc (.cells (Array.replicate all (.int .i64 0)) 3)) = w5 at *
  go_loopw [13, 14, 16, 17] (fun vh vi i _ wr => ∃ (t : Nat) (xs : List Nat), t ≤ ws.length + all ∧ i = .int .i64 (t : Int) ∧ CInv w4 L all k xs vh vi wr ∧ (∀ j, ws.length ≤ j → j < t → j % all ∈ xs)) (fun _ _ i _ _ => ws.length + all - (intOf i).toNat)
  case atStart => exact ⟨0, [], Nat.zero_le _, rfl, HS.out, fun j h h2 => absurd h2 (by omega)⟩
  case round =>
    obtain ⟨t, xs, ht, rfl, hci, hcov⟩ := hrel
    have HCI := Lib.hid hci
    have HCV := Lib.hid hcov
    have hxl := hci.len
    obtain ⟨ph, ch, rfl⟩ := own_shape hci.held.choose_spec.1
    obtain ⟨pi, ci, rfl⟩ := own_shape hci.ints
    rw [hsOf_len] at HCI
    clear hci hcov
    have HSL := Lib.hid (hsOf_len L xs)
    rw [HSL.out]
    have tm0 : ((all : Int) == 0) = false := by rw [beq_eq_false_iff_ne]; omega
    have tm1 : (t : Int).tmod (all : Int) = ((t % all : Nat) : Int) := by rw [Int.ofNat_tmod]
    have hta : t % all < all := Nat.mod_lt _ (by omega)
    by_cases hgo : t < ws.length + all ∧ xs.length < k + 3
    · obtain ⟨htl, hxk⟩ := hgo
      by_cases htw : t < ws.length
      · have HI4' := HI4.out
        obtain ⟨_, _, ew, _, hwc⟩ := HI4'
        simp only [Value.slice.injEq, true_and] at ew
        obtain ⟨rfl, rfl⟩ := ew
        obtain ⟨gw, ow, rfl, hwd⟩ := hwc (by omega)
        have z1 := hwd t htw
        have z2 := (HCI.out.below.cell (p := ⟨gw, ow + t, none⟩) (blt z1)).trans z1
        obtain ⟨x, hx⟩ : ∃ x, ws.getD t 0 = x := ⟨_, rfl⟩
        rw [hx] at z2
        clear hwc hwd z1 hx
        go_wp2_with fail
        refine (pick_any _ x all (by omega) (by omega)).mono ?_
        rintro e w6 ⟨⟨a, rfl, ha⟩, rfl⟩
        have hat : ws.length ≤ t → a = t % all := fun h => absurd h (by omega)
        have c1 := HCI.out.tk.cell ha
        have f1 := HCI.out.tk.fz a
        by_cases hx : a ∈ xs
        · rw [if_pos hx] at c1
          go_wp2
          go_roundw
          case rel =>
            refine ⟨t + 1, xs, by omega, by go_num, HCI.out.stay ha hx, fun j h1 h2 => ?_⟩
            by_cases e : j = t
            · subst e; rw [← hat h1]; exact hx
            · exact HCV.out j h1 (by omega)
          case measure => simp [intOf]; omega
        · rw [if_neg hx] at c1
          obtain ⟨us, ow, h2⟩ := HCI.out.held
          rw [hsOf_len] at ow
          have HOW := Lib.hid ow
          have HUS := Lib.hid h2
          have HL4' := HL4.out
          obtain ⟨_, _, el, hlc⟩ := HL4'
          rw [HLE.out] at el hlc
          simp only [Value.slice.injEq, true_and] at el
          obtain ⟨rfl, rfl⟩ := el
          obtain ⟨gl, ol, rfl, hld⟩ := hlc (by omega)
          obtain ⟨u, x1, x2⟩ := hld a ha
          have HX2 := Lib.hid x2
          obtain ⟨pu, cu, rfl⟩ := x2.shape
          have HWA := Lib.hid (HLL.out a ha)
          obtain ⟨lu, hlu⟩ : ∃ lu, (L.getD a []).length = lu := ⟨_, rfl⟩
          rw [hlu] at x1
          have HLU := Lib.hid hlu
          have x3 := (HCI.out.below.cell (p := ⟨gl, ol + a, none⟩) (blt x1)).trans x1
          have hbw := Nat.lt_of_lt_of_le HCI.out.tk.lt (Nat.le_refl _)
          clear ow h2 hlc hld x2 x1 hlu
          go_wp2_with (first
            | (at_builtin; refine app_el 22 38 2 32 (.agg #[.int .i64 0, .slice none 0 0]) Try.underlying22 infoH rfl (by decide) rfl _ _ rfl (w4.heap.size + 1) xs.length _ us rfl HOW.out [.int .i64 (a : Int), .slice pu lu cu] rfl (by simp [Value.oneCell']) rfl (by omega) hbw ?_; intro g1 d1 wA oA kA sA gA)
            | (at_builtin; refine app_el 43 3 1 8 (.int .i64 0) Try.underlying43 infoI rfl (by decide) rfl _ _ rfl (w4.heap.size + 1) xs.length (.slice pi xs.length ci) _ rfl (ownsRow_keptS HCI.out.ints kA (fun g hg e => HCI.out.ne g e hg)) [.int .i64 (a : Int)] rfl (by simp [Value.oneCell']) rfl (by omega) (by omega) ?_; intro g2 d2 wB oB kB sB gB; have TK := Lib.hid ((HCI.out.tk.kept kA (fun e => by have := (HCI.out.held.lt _ e).1; omega)).kept kB (fun e => by have := (HCI.out.ints.lt _ e).1; omega)); have c2 := TK.out.cell ha; have f2 := TK.out.fz a))
          go_roundw
          case rel =>
            refine ⟨t + 1, xs ++ [a], by omega, by go_num, HCI.out.more ha hx hxk (by have := HOW.out.1; omega) HUS.out (by rw [← HLU.out]; exact HX2.out) oA kA (fun g hg => own_is hg ▸ gA) oB kB (fun g hg => own_is hg ▸ gB), fun j h1 h2 => ?_⟩
            by_cases e : j = t
            · subst e; rw [← hat h1]; simp
            · exact List.mem_append_left _ (HCV.out j h1 (by omega))
          case measure => simp [intOf]; omega
      · obtain ⟨a, hae⟩ : ∃ a, t % all = a := ⟨_, rfl⟩
        rw [hae] at tm1 hta
        have ha := hta
        have hat : ws.length ≤ t → a = t % all := fun _ => hae.symm
        have c1 := HCI.out.tk.cell ha
        have f1 := HCI.out.tk.fz a
        by_cases hx : a ∈ xs
        · rw [if_pos hx] at c1
          go_wp2
          go_roundw
          case rel =>
            refine ⟨t + 1, xs, by omega, by go_num, HCI.out.stay ha hx, fun j h1 h2 => ?_⟩
            by_cases e : j = t
            · subst e; rw [← hat h1]; exact hx
            · exact HCV.out j h1 (by omega)
          case measure => simp [intOf]; omega
        · rw [if_neg hx] at c1
          obtain ⟨us, ow, h2⟩ := HCI.out.held
          rw [hsOf_len] at ow
          have HOW := Lib.hid ow
          have HUS := Lib.hid h2
          have HL4' := HL4.out
          obtain ⟨_, _, el, hlc⟩ := HL4'
          rw [HLE.out] at el hlc
          simp only [Value.slice.injEq, true_and] at el
          obtain ⟨rfl, rfl⟩ := el
          obtain ⟨gl, ol, rfl, hld⟩ := hlc (by omega)
          obtain ⟨u, x1, x2⟩ := hld a ha
          have HX2 := Lib.hid x2
          obtain ⟨pu, cu, rfl⟩ := x2.shape
          have HWA := Lib.hid (HLL.out a ha)
          obtain ⟨lu, hlu⟩ : ∃ lu, (L.getD a []).length = lu := ⟨_, rfl⟩
          rw [hlu] at x1
          have HLU := Lib.hid hlu
          have x3 := (HCI.out.below.cell (p := ⟨gl, ol + a, none⟩) (blt x1)).trans x1
          have hbw := Nat.lt_of_lt_of_le HCI.out.tk.lt (Nat.le_refl _)
          clear ow h2 hlc hld x2 x1 hlu
          go_wp2_with (first
            | (at_builtin; refine app_el 22 38 2 32 (.agg #[.int .i64 0, .slice none 0 0]) Try.underlying22 infoH rfl (by decide) rfl _ _ rfl (w4.heap.size + 1) xs.length _ us rfl HOW.out [.int .i64 (a : Int), .slice pu lu cu] rfl (by simp [Value.oneCell']) rfl (by omega) hbw ?_; intro g1 d1 wA oA kA sA gA)
            | (at_builtin; refine app_el 43 3 1 8 (.int .i64 0) Try.underlying43 infoI rfl (by decide) rfl _ _ rfl (w4.heap.size + 1) xs.length (.slice pi xs.length ci) _ rfl (ownsRow_keptS HCI.out.ints kA (fun g hg e => HCI.out.ne g e hg)) [.int .i64 (a : Int)] rfl (by simp [Value.oneCell']) rfl (by omega) (by omega) ?_; intro g2 d2 wB oB kB sB gB; have TK := Lib.hid ((HCI.out.tk.kept kA (fun e => by have := (HCI.out.held.lt _ e).1; omega)).kept kB (fun e => by have := (HCI.out.ints.lt _ e).1; omega)); have c2 := TK.out.cell ha; have f2 := TK.out.fz a))
          go_roundw
          case rel =>
            refine ⟨t + 1, xs ++ [a], by omega, by go_num, HCI.out.more ha hx hxk (by have := HOW.out.1; omega) HUS.out (by rw [← HLU.out]; exact HX2.out) oA kA (fun g hg => own_is hg ▸ gA) oB kB (fun g hg => own_is hg ▸ gB), fun j h1 h2 => ?_⟩
            by_cases e : j = t
            · subst e; rw [← hat h1]; simp
            · exact List.mem_append_left _ (HCV.out j h1 (by omega))
          case measure => simp [intOf]; omega
    · have hge : k ≤ xs.length := by
        by_cases q : t < ws.length + all
        · omega
        · have := covers (all := all) (lw := ws.length) (xs := xs) (by omega) (fun j h1 h2 => HCV.out j h1 (by omega))
          omega
      have hx0 : 0 < xs.length := by omega
      have HASK := Lib.hid (ask_of HCI.out.nodup HCI.out.rng hge)
      have HDE := Lib.hid (show decE all k (hsOf L xs) = 0 by rw [decE_of HCI.out.nodup HCI.out.rng HLL.out]; exact askE_ok HASK.out)
      have HDI := Lib.hid (dec_is HLEQ.out HCI.out.nodup HCI.out.rng hge HK.out a1 a2 HWD.out)
      have HMI := Lib.hid (mul_is HLEQ.out HCI.out.nodup HCI.out.rng hge HK.out a1 a2 HWD.out)
      have HW0 := Lib.hid (even_of HCI.out.rng HLL.out hx0)
      have HHA := Lib.hid (HCI.out.held.toAt HCI.out.below)
      have HIN := Lib.hid (show IntsAt wr (.slice pi xs.length ci) (xs.map fun (x : Nat) => (x : Int)) by
        have := IntsAt.of_owns (w := wr) (base := w4.heap.size + 1) (v := .slice pi xs.length ci) (xs := xs.map fun (x : Nat) => (x : Int)) (by rw [List.length_map, List.map_map]; exact HCI.out.ints)
        exact this)
      have HBR := Lib.hid (bb HB4.out HCI.out.below)
      have HCR := Lib.hid (HC4.out.below HCI.out.below)
      have HLR2 := Lib.hid (HL4.out.below HCI.out.below)
      have HOR := Lib.hid (HO4.out.below HCI.out.below)
      by_cases htl : t < ws.length + all
      · have hxk : ¬ xs.length < k + 3 := by omega
        go_wp2_with fail
        refine (decode_any _ (by exact HCR.out) _ (hsOf L xs) wide (by exact HHA.out) (by rw [hsOf_len]; omega) HW0.out (by omega)).mono ?_
        rw [HDE.out]
        rintro e w6 ⟨vs, rfl, hsr, _, hB6⟩
        have HS6 := Lib.hid (show RowsAt w6 vs ls by have := (hsr rfl).rows; rw [HDI.out] at this; exact this)
        have HB6 := Lib.hid (bb HBR.out hB6)
        have HH6 := Lib.hid (HHA.out.below hB6)
        have HN6 := Lib.hid (HIN.out.below hB6)
        have HC6 := Lib.hid (HCR.out.below hB6)
        have HL6 := Lib.hid (HLR2.out.below hB6)
        have HO6 := Lib.hid (HOR.out.below hB6)
        clear hsr hB6
        go_wp2_with fail
        refine (turn_any _ (by exact HC6.out) _ (xs.map fun (x : Nat) => (x : Int)) (by exact HN6.out) (by simp; omega) HASK.out).mono ?_
        rintro e w7 ⟨gm, U, rfl, hmt, _, hB7⟩
        have HT7 := Lib.hid (hmt.rowsAt (c := k))
        have HB7 := Lib.hid (bb HB6.out hB7)
        have HH7 := Lib.hid (HH6.out.below hB7)
        have HC7 := Lib.hid (HC6.out.below hB7)
        have HL7 := Lib.hid (HL6.out.below hB7)
        have HO7 := Lib.hid (HO6.out.below hB7)
        have HS7 := Lib.hid (HS6.out.below hB7)
        clear hmt hB7
        go_wp2
        go_loopw [22, 23] (fun v i wr => ∃ m : Nat, m ≤ k ∧ i = .int .i64 (m : Int) ∧ RowsIn w7 wr v (hRow ((hsOf L xs).take m)) ∧ Below w7.heap.size w7 wr) (fun _ i _ => k - (intOf i).toNat)
        case atStart => exact ⟨0, Nat.zero_le _, rfl, ⟨[], World.ownsRow_nil _ _ _ _, fun i z h => by simp at h⟩, Below.refl _ _⟩
        case round =>
          obtain ⟨m, hm, rfl, hr, hB⟩ := hrel
          have HR := Lib.hid hr
          have HBW := Lib.hid hB
          have hsr := hB.size
          clear hr
          by_cases hlt : m < k
          · have hmx : m < xs.length := by omega
            have HH7' := HH7.out
            obtain ⟨_, _, eh, _, hhc⟩ := HH7'
            rw [hsOf_len] at eh hhc
            simp only [Value.slice.injEq, true_and] at eh
            obtain ⟨rfl, rfl⟩ := eh
            obtain ⟨gh, oh, rfl, hhd⟩ := hhc hx0
            obtain ⟨x1, u, x2, x3⟩ := hhd m hmx
            obtain ⟨pu, cu, rfl⟩ := x3.shape
            obtain ⟨lm, hlm⟩ : ∃ lm, ((hsOf L xs).getD m (0, [])).2.length = lm := ⟨_, rfl⟩
            rw [hlm] at x2
            have HX3 := Lib.hid x3
            have HLM := Lib.hid hlm
            have y2 := (hB.cell (p := ⟨gh, oh + m * 2 + 1, none⟩) (blt x2)).trans x2
            have HSN := Lib.hid (hRow_snoc (hs := hsOf L xs) (m := m) (by rw [hsOf_len]; exact hmx))
            obtain ⟨us, ho, hz⟩ := HR.out
            have hul : (hRow ((hsOf L xs).take m)).length = m := by simp [hRow, hsOf]; omega
            rw [hul] at ho
            have HOO := Lib.hid ho
            have HZ := Lib.hid hz
            have HUL := Lib.hid hul
            clear x1 x2 x3 hhc hhd hB hlm ho hz hul
            go_wp2_with (at_builtin; refine app_head rfl _ _ rfl w7.heap.size m _ us rfl HOO.out _ rfl rfl (by omega) hsr ?_; intro g' c' w9 hR9 hk9 hs9 hg9)
            go_roundw
            case rel =>
              refine ⟨m + 1, by omega, by go_num, ?_, HBW.out.trans (hk9.toBelow (by omega) (fun i h => (HOO.out.lt i h).1))⟩
              rw [← HSN.out]
              exact rowsIn_snoc HUL.out (by have := HOO.out.1; omega) HZ.out (by rw [← HLM.out]; exact HX3.out) hR9
            case measure => simp [intOf]; omega
          · obtain rfl : m = k := by omega
            have HSO := Lib.hid (HR.out.rows HBW.out)
            have HB8 := Lib.hid (bb HB7.out HBW.out)
            have HH8 := Lib.hid (HH7.out.below HBW.out)
            have HC8 := Lib.hid (HC7.out.below HBW.out)
            have HL8 := Lib.hid (HL7.out.below HBW.out)
            have HO8 := Lib.hid (HO7.out.below HBW.out)
            have HS8 := Lib.hid (HS7.out.below HBW.out)
            have HT8 := Lib.hid (HT7.out.below HBW.out)
            go_wp2_with fail
            refine (mul_any _ _ _ _ _ m m wide (by exact HT8.out) (by exact HSO.out) (by simp) (by simp [hRow, hsOf]; omega) a3 a3 (by omega) (by omega) (by omega) (fun i hi => by
              have hi' : i < m := by simpa using hi
              rw [getD_range _ _ hi', rowL_len]) (fun i hi => by
              have hi' : i < m := by
                have : i < min m xs.length := by simpa [hRow, hsOf] using hi
                omega
              have e := even_of (L := L) (i := i) HCI.out.rng HLL.out (by omega)
              rw [← e]
              congr 1
              simp [hRow, List.getD_eq_getElem?_getD, hi', hsOf, show i < xs.length by omega])).mono ?_
            rintro e w10 ⟨gm2, U2, rfl, hmt2, _, hB10⟩
            have HU10 := Lib.hid (show RowsAt w10 (.slice (some ⟨gm2, 0, none⟩) m m) ls by have := hmt2.rowsAt (c := m); rw [HMI.out] at this; exact this)
            have HB10 := Lib.hid (bb HB8.out hB10)
            have HH10 := Lib.hid (HH8.out.below hB10)
            have HC10 := Lib.hid (HC8.out.below hB10)
            have HL10 := Lib.hid (HL8.out.below hB10)
            have HO10 := Lib.hid (HO8.out.below hB10)
            have HS10 := Lib.hid (HS8.out.below hB10)
            clear hmt2 hB10
            have hk1 : (m : Int) - 1 = ((m - 1 : Nat) : Int) := by omega
            have HH10' := HH10.out
            obtain ⟨_, _, eh, hcap, hhc⟩ := HH10'
            rw [hsOf_len] at eh hhc hcap
            simp only [Value.slice.injEq, true_and] at eh
            obtain ⟨rfl, rfl⟩ := eh
            obtain ⟨gh, oh, rfl, _⟩ := hhc hx0
            clear hhc
            have hq1 : m - 1 ≤ ch := by omega
            have HTK := Lib.hid (HH10.out.take (m := m - 1) (by rw [hsOf_len]; omega))
            have HL10' := HL10.out
            obtain ⟨_, _, el, hlc⟩ := HL10'
            rw [HLE.out] at el hlc
            simp only [Value.slice.injEq, true_and] at el
            obtain ⟨rfl, rfl⟩ := el
            obtain ⟨gl, ol, rfl, _⟩ := hlc (by omega)
            clear hlc
            have HLT := Lib.hid (show RowsAt w10 (.slice (some ⟨gl, ol, none⟩) m cl) ls by
              have := HL10.out.take (m := m) (by rw [HLE.out]; omega)
              rw [show L.take m = ls by rw [← HLEQ.out]; exact enc_src HK.out a1 (by omega) HWD.out] at this
              exact this)
            have hq2 : m ≤ cl := by omega
            have HD8 := Lib.hid (show decE all m ((hsOf L xs).take (m - 1)) = 8 by
              rw [hsOf_take, decE_of (HCI.out.nodup.sublist (List.take_sublist _ _)) (fun x hx => HCI.out.rng x (List.mem_of_mem_take hx)) HLL.out]
              exact ask_few (HCI.out.nodup.sublist (List.take_sublist _ _)) (fun x hx => HCI.out.rng x (List.mem_of_mem_take hx)) (by simp; omega))
            have HW9 := Lib.hid (show (((hsOf L xs).take (m - 1)).getD 0 (0, [])).2.length ≤ 1000000000 by
              by_cases q : 0 < m - 1
              · rw [hsOf_take, even_of (fun x hx => HCI.out.rng x (List.mem_of_mem_take hx)) HLL.out (by simp; omega)]; omega
              · rw [show m - 1 = 0 by omega]; simp)
            have HT8 := Lib.hid (show ((hsOf L xs).take (m - 1)).length ≤ 1000000 by simp [hsOf]; omega)
            have HO9 := Lib.hid (show RowsAt w10 (.slice po m co) ls by have := HO10.out; rw [HK.out] at this; exact this)
            have HLB := Lib.hid (show ls.length ≤ 1000000000000 by rw [HK.out]; omega)
            have HLB2 := Lib.hid (show ∀ i, i < ls.length → (ls.getD i []).length ≤ 1000000000000 from fun i hi => by rw [HWD.out i hi]; omega)
            go_wp2_with fail
            refine (decode_any _ (by exact HC10.out) _ ((hsOf L xs).take (m - 1)) _ (by exact HTK.out) HT8.out rfl HW9.out).mono ?_
            rw [HD8.out]
            rintro e w11 ⟨v11, rfl, _, _, hB11⟩
            have HB11 := Lib.hid (bb HB10.out hB11)
            have HL11 := Lib.hid (HLT.out.below hB11)
            have HO11 := Lib.hid (HO9.out.below hB11)
            have HS11 := Lib.hid (HS10.out.below hB11)
            have HU11 := Lib.hid (HU10.out.below hB11)
            clear hB11
            go_wp2_with fail
            refine (sameRows_any _ _ _ ls (by exact HL11.out) (by exact HO11.out) HLB.out HLB2.out).mono ?_
            rintro e w12 ⟨rfl, n1, rfl⟩
            go_wp2_with fail
            refine (sameRows_any _ _ _ ls (by exact HS11.out) (by exact HO11.out) HLB.out HLB2.out).mono ?_
            rintro e w12 ⟨rfl, n2, rfl⟩
            go_wp2_with fail
            refine (sameRows_any _ _ _ ls (by exact HU11.out) (by exact HO11.out) HLB.out HLB2.out).mono ?_
            rintro e w12 ⟨rfl, n3, rfl⟩
            go_wp2
            go_ret
            exact ⟨rfl, by first | exact bdr HB11.out _ | exact bdr (bdr HB11.out _) _ | exact bdr (bdr (bdr HB11.out _) _) _⟩
      · go_wp2_with fail
        refine (decode_any _ (by exact HCR.out) _ (hsOf L xs) wide (by exact HHA.out) (by rw [hsOf_len]; omega) HW0.out (by omega)).mono ?_
        rw [HDE.out]
        rintro e w6 ⟨vs, rfl, hsr, _, hB6⟩
        have HS6 := Lib.hid (show RowsAt w6 vs ls by have := (hsr rfl).rows; rw [HDI.out] at this; exact this)
        have HB6 := Lib.hid (bb HBR.out hB6)
        have HH6 := Lib.hid (HHA.out.below hB6)
        have HN6 := Lib.hid (HIN.out.below hB6)
        have HC6 := Lib.hid (HCR.out.below hB6)
        have HL6 := Lib.hid (HLR2.out.below hB6)
        have HO6 := Lib.hid (HOR.out.below hB6)
        clear hsr hB6
        go_wp2_with fail
        refine (turn_any _ (by exact HC6.out) _ (xs.map fun (x : Nat) => (x : Int)) (by exact HN6.out) (by simp; omega) HASK.out).mono ?_
        rintro e w7 ⟨gm, U, rfl, hmt, _, hB7⟩
        have HT7 := Lib.hid (hmt.rowsAt (c := k))
        have HB7 := Lib.hid (bb HB6.out hB7)
        have HH7 := Lib.hid (HH6.out.below hB7)
        have HC7 := Lib.hid (HC6.out.below hB7)
        have HL7 := Lib.hid (HL6.out.below hB7)
        have HO7 := Lib.hid (HO6.out.below hB7)
        have HS7 := Lib.hid (HS6.out.below hB7)
        clear hmt hB7
        go_wp2
        go_loopw [22, 23] (fun v i wr => ∃ m : Nat, m ≤ k ∧ i = .int .i64 (m : Int) ∧ RowsIn w7 wr v (hRow ((hsOf L xs).take m)) ∧ Below w7.heap.size w7 wr) (fun _ i _ => k - (intOf i).toNat)
        case atStart => exact ⟨0, Nat.zero_le _, rfl, ⟨[], World.ownsRow_nil _ _ _ _, fun i z h => by simp at h⟩, Below.refl _ _⟩
        case round =>
          obtain ⟨m, hm, rfl, hr, hB⟩ := hrel
          have HR := Lib.hid hr
          have HBW := Lib.hid hB
          have hsr := hB.size
          clear hr
          by_cases hlt : m < k
          · have hmx : m < xs.length := by omega
            have HH7' := HH7.out
            obtain ⟨_, _, eh, _, hhc⟩ := HH7'
            rw [hsOf_len] at eh hhc
            simp only [Value.slice.injEq, true_and] at eh
            obtain ⟨rfl, rfl⟩ := eh
            obtain ⟨gh, oh, rfl, hhd⟩ := hhc hx0
            obtain ⟨x1, u, x2, x3⟩ := hhd m hmx
            obtain ⟨pu, cu, rfl⟩ := x3.shape
            obtain ⟨lm, hlm⟩ : ∃ lm, ((hsOf L xs).getD m (0, [])).2.length = lm := ⟨_, rfl⟩
            rw [hlm] at x2
            have HX3 := Lib.hid x3
            have HLM := Lib.hid hlm
            have y2 := (hB.cell (p := ⟨gh, oh + m * 2 + 1, none⟩) (blt x2)).trans x2
            have HSN := Lib.hid (hRow_snoc (hs := hsOf L xs) (m := m) (by rw [hsOf_len]; exact hmx))
            obtain ⟨us, ho, hz⟩ := HR.out
            have hul : (hRow ((hsOf L xs).take m)).length = m := by simp [hRow, hsOf]; omega
            rw [hul] at ho
            have HOO := Lib.hid ho
            have HZ := Lib.hid hz
            have HUL := Lib.hid hul
            clear x1 x2 x3 hhc hhd hB hlm ho hz hul
            go_wp2_with (at_builtin; refine app_head rfl _ _ rfl w7.heap.size m _ us rfl HOO.out _ rfl rfl (by omega) hsr ?_; intro g' c' w9 hR9 hk9 hs9 hg9)
            go_roundw
            case rel =>
              refine ⟨m + 1, by omega, by go_num, ?_, HBW.out.trans (hk9.toBelow (by omega) (fun i h => (HOO.out.lt i h).1))⟩
              rw [← HSN.out]
              exact rowsIn_snoc HUL.out (by have := HOO.out.1; omega) HZ.out (by rw [← HLM.out]; exact HX3.out) hR9
            case measure => simp [intOf]; omega
          · obtain rfl : m = k := by omega
            have HSO := Lib.hid (HR.out.rows HBW.out)
            have HB8 := Lib.hid (bb HB7.out HBW.out)
            have HH8 := Lib.hid (HH7.out.below HBW.out)
            have HC8 := Lib.hid (HC7.out.below HBW.out)
            have HL8 := Lib.hid (HL7.out.below HBW.out)
            have HO8 := Lib.hid (HO7.out.below HBW.out)
            have HS8 := Lib.hid (HS7.out.below HBW.out)
            have HT8 := Lib.hid (HT7.out.below HBW.out)
            go_wp2_with fail
            refine (mul_any _ _ _ _ _ m m wide (by exact HT8.out) (by exact HSO.out) (by simp) (by simp [hRow, hsOf]; omega) a3 a3 (by omega) (by omega) (by omega) (fun i hi => by
              have hi' : i < m := by simpa using hi
              rw [getD_range _ _ hi', rowL_len]) (fun i hi => by
              have hi' : i < m := by
                have : i < min m xs.length := by simpa [hRow, hsOf] using hi
                omega
              have e := even_of (L := L) (i := i) HCI.out.rng HLL.out (by omega)
              rw [← e]
              congr 1
              simp [hRow, List.getD_eq_getElem?_getD, hi', hsOf, show i < xs.length by omega])).mono ?_
            rintro e w10 ⟨gm2, U2, rfl, hmt2, _, hB10⟩
            have HU10 := Lib.hid (show RowsAt w10 (.slice (some ⟨gm2, 0, none⟩) m m) ls by have := hmt2.rowsAt (c := m); rw [HMI.out] at this; exact this)
            have HB10 := Lib.hid (bb HB8.out hB10)
            have HH10 := Lib.hid (HH8.out.below hB10)
            have HC10 := Lib.hid (HC8.out.below hB10)
            have HL10 := Lib.hid (HL8.out.below hB10)
            have HO10 := Lib.hid (HO8.out.below hB10)
            have HS10 := Lib.hid (HS8.out.below hB10)
            clear hmt2 hB10
            have hk1 : (m : Int) - 1 = ((m - 1 : Nat) : Int) := by omega
            have HH10' := HH10.out
            obtain ⟨_, _, eh, hcap, hhc⟩ := HH10'
            rw [hsOf_len] at eh hhc hcap
            simp only [Value.slice.injEq, true_and] at eh
            obtain ⟨rfl, rfl⟩ := eh
            obtain ⟨gh, oh, rfl, _⟩ := hhc hx0
            clear hhc
            have hq1 : m - 1 ≤ ch := by omega
            have HTK := Lib.hid (HH10.out.take (m := m - 1) (by rw [hsOf_len]; omega))
            have HL10' := HL10.out
            obtain ⟨_, _, el, hlc⟩ := HL10'
            rw [HLE.out] at el hlc
            simp only [Value.slice.injEq, true_and] at el
            obtain ⟨rfl, rfl⟩ := el
            obtain ⟨gl, ol, rfl, _⟩ := hlc (by omega)
            clear hlc
            have HLT := Lib.hid (show RowsAt w10 (.slice (some ⟨gl, ol, none⟩) m cl) ls by
              have := HL10.out.take (m := m) (by rw [HLE.out]; omega)
              rw [show L.take m = ls by rw [← HLEQ.out]; exact enc_src HK.out a1 (by omega) HWD.out] at this
              exact this)
            have hq2 : m ≤ cl := by omega
            have HD8 := Lib.hid (show decE all m ((hsOf L xs).take (m - 1)) = 8 by
              rw [hsOf_take, decE_of (HCI.out.nodup.sublist (List.take_sublist _ _)) (fun x hx => HCI.out.rng x (List.mem_of_mem_take hx)) HLL.out]
              exact ask_few (HCI.out.nodup.sublist (List.take_sublist _ _)) (fun x hx => HCI.out.rng x (List.mem_of_mem_take hx)) (by simp; omega))
            have HW9 := Lib.hid (show (((hsOf L xs).take (m - 1)).getD 0 (0, [])).2.length ≤ 1000000000 by
              by_cases q : 0 < m - 1
              · rw [hsOf_take, even_of (fun x hx => HCI.out.rng x (List.mem_of_mem_take hx)) HLL.out (by simp; omega)]; omega
              · rw [show m - 1 = 0 by omega]; simp)
            have HT8 := Lib.hid (show ((hsOf L xs).take (m - 1)).length ≤ 1000000 by simp [hsOf]; omega)
            have HO9 := Lib.hid (show RowsAt w10 (.slice po m co) ls by have := HO10.out; rw [HK.out] at this; exact this)
            have HLB := Lib.hid (show ls.length ≤ 1000000000000 by rw [HK.out]; omega)
            have HLB2 := Lib.hid (show ∀ i, i < ls.length → (ls.getD i []).length ≤ 1000000000000 from fun i hi => by rw [HWD.out i hi]; omega)
            go_wp2_with fail
            refine (decode_any _ (by exact HC10.out) _ ((hsOf L xs).take (m - 1)) _ (by exact HTK.out) HT8.out rfl HW9.out).mono ?_
            rw [HD8.out]
            rintro e w11 ⟨v11, rfl, _, _, hB11⟩
            have HB11 := Lib.hid (bb HB10.out hB11)
            have HL11 := Lib.hid (HLT.out.below hB11)
            have HO11 := Lib.hid (HO9.out.below hB11)
            have HS11 := Lib.hid (HS10.out.below hB11)
            have HU11 := Lib.hid (HU10.out.below hB11)
            clear hB11
            go_wp2_with fail
            refine (sameRows_any _ _ _ ls (by exact HL11.out) (by exact HO11.out) HLB.out HLB2.out).mono ?_
            rintro e w12 ⟨rfl, n1, rfl⟩
            go_wp2_with fail
            refine (sameRows_any _ _ _ ls (by exact HS11.out) (by exact HO11.out) HLB.out HLB2.out).mono ?_
            rintro e w12 ⟨rfl, n2, rfl⟩
            go_wp2_with fail
            refine (sameRows_any _ _ _ ls (by exact HU11.out) (by exact HO11.out) HLB.out HLB2.out).mono ?_
            rintro e w12 ⟨rfl, n3, rfl⟩
            go_wp2
            go_ret
            exact ⟨rfl, by first | exact bdr HB11.out _ | exact bdr (bdr HB11.out _) _ | exact bdr (bdr (bdr HB11.out _) _) _⟩

end Go.Proofs.Ytaaahbpeaamjgaa
