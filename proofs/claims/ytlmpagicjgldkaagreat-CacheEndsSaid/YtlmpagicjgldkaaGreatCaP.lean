/-
  Decode of the cache.
-/
import Derived.Test.YtlmpagicjgldkaaGreatMxbn
import Derived.Deep.QuietTactic
import Derived.BigQuiet
namespace Go.Proofs.YtlmpagicjgldkaaGreat
open Go.RowKit Go.Maps
set_option linter.unusedVariables false
set_option linter.unusedSimpArgs false
set_option maxRecDepth 100000
set_option maxHeartbeats 2000000

theorem one_intC (x : Int) : ∀ u ∈ [Value.int .i64 x], u.oneCell' = true := by simp [Value.oneCell']
/-- Held symbols, none of whose blocks is in F. -/
def HeldFar (F : Nat → Prop) (w : World) (v : Value) (hs : List (Int × List B)) : Prop := ∃ p cap, v = .slice p hs.length cap ∧ hs.length ≤ cap ∧ (0 < hs.length → ∃ g off, p = some ⟨g, off, none⟩ ∧ ¬ F g ∧ ∀ i, i < hs.length →
  w.cell? ⟨g, off + i * 2, none⟩ = some (.int .i64 (hs.getD i (0, [])).1) ∧ ∃ u, w.cell? ⟨g, off + i * 2 + 1, none⟩ = some u ∧ BytesAt w u (hs.getD i (0, [])).2 ∧ ∀ b, u.ownBlock = some b → ¬ F b)
theorem HeldFar.held {F : Nat → Prop} {w : World} {v : Value} {hs : List (Int × List B)} (h : HeldFar F w v hs) : HeldAt w v hs := by
  obtain ⟨p, cap, rfl, hcap, hh⟩ := h
  refine ⟨p, cap, rfl, hcap, fun hl => ?_⟩
  obtain ⟨g, off, rfl, _, hc⟩ := hh hl
  exact ⟨g, off, rfl, fun i hi => by
    obtain ⟨a, u, b, c, _⟩ := hc i hi
    exact ⟨a, u, b, c⟩⟩
theorem HeldFar.kept {S F : Nat → Prop} {w w' : World} {v : Value} {hs : List (Int × List B)} (h : HeldFar F w v hs) (hk : Kept S w w') (hS : ∀ i, S i → F i) : HeldFar F w' v hs := by
  obtain ⟨p, cap, rfl, hcap, hh⟩ := h
  refine ⟨p, cap, rfl, hcap, fun hl => ?_⟩
  obtain ⟨g, off, rfl, hg, hc⟩ := hh hl
  have hlt := blt (hc 0 hl).1
  refine ⟨g, off, rfl, hg, fun i hi => ?_⟩
  obtain ⟨a, u, b, c, d⟩ := hc i hi
  exact ⟨(hk.cell (p := ⟨g, off + i * 2, none⟩) hlt (fun h => hg (hS g h))).trans a, u, (hk.cell (p := ⟨g, off + i * 2 + 1, none⟩) hlt (fun h => hg (hS g h))).trans b, c.kept1 hk (fun k e e2 => d k e (hS k e2)), d⟩
theorem HeldFar.below {F : Nat → Prop} {w w' : World} {v : Value} {hs : List (Int × List B)} (h : HeldFar F w v hs) (hb : Below w.heap.size w w') : HeldFar F w' v hs := h.kept (Kept.below hb) (fun _ h => h.elim)
/-- The error of held symbols. -/
def cdecErr (n : Nat) (k : Int) (hs : List (Int × List B)) : Int := if evenH hs then askErr n k (hIdx hs) else 2
/-- What Decode leaves. -/
def DecC (w : World) (F : Nat → Prop) (b bm : Nat) (s : CS) (k : Int) (hs : List (Int × List B)) (wide : Nat) (e : Ending) (w' : World) : Prop :=
  (cdecErr s.n k hs ≠ 0 ∧ e = .returned (.tuple #[.slice none 0 0, .int .i64 (cdecErr s.n k hs)]) ∧ Below w.heap.size w w') ∨
  (cdecErr s.n k hs = 0 ∧ Told w F b bm s (k.toNat, (hIdx hs).take k.toNat) (decL k.toNat (idxB ((hIdx hs).take k.toNat)) (hRow hs) wide) e w')
theorem DecC.bad {w w' : World} {F : Nat → Prop} {b bm : Nat} {s : CS} {k : Int} {hs : List (Int × List B)} {wide : Nat} {r : Int} (h : cdecErr s.n k hs = r) (h0 : r ≠ 0) (hb : Below w.heap.size w w') : DecC w F b bm s k hs wide (.returned (.tuple #[.slice none 0 0, .int .i64 r])) w' :=
  .inl ⟨by rw [h]; exact h0, by rw [h], hb⟩

theorem dec_c (w : World) {F : Nat → Prop} {b bm : Nat} {s : CS} (hc : CacheAt w F b bm s) (hF : ∀ i, F i → i < w.heap.size) (k : Int) (v : Value) (hs : List (Int × List B)) (wide : Nat) (hv : HeldFar F w v hs) (hl : hs.length ≤ 1000000) (hw0 : (hs.getD 0 (0, [])).2.length = wide) (hwb : wide ≤ 1000000)
    (hnow : s.now < 1000000000) (hhit : s.hits < 1000000000) (hmis : s.misses < 1000000000) (hdrp : s.dropped < 1000000000) :
    Calls Tryz.prog 15 #[.pointer (some ⟨b, 0, none⟩), .int .i64 k, v] w (DecC w F b bm s k hs wide) := by
  have HC := Lib.hid hc
  have HF := Lib.hid hF
  have HV := Lib.hid hv
  replace hv := hv.held
  have HW0 := Lib.hid hw0
  have HQ := Lib.hid (And.intro hnow (And.intro hhit (And.intro hmis hdrp)))
  have h255 := hc.n255
  obtain ⟨p, cap, hvv, hcap, hh⟩ := hv
  subst hvv
  have HHH := Lib.hid hh
  clear hc hF hh hw0 hnow hhit hmis hdrp
  go_enter Tryz.func15, Tryz.ntmps15
  go_wp2_with fail
  refine (there_c w HC.out).mono ?_
  rintro e w' ⟨rfl, rfl⟩
  go_wp2
  go_loopw [6, 7, 8, 10, 20] (fun v6 v7 vi _ i wr => ∃ m : Nat, m ≤ hs.length ∧ (∀ i, i < m → (hs.getD i (0, [])).2.length = wide) ∧ v6 = .slice none 0 0 ∧ v7 = .int .i64 0 ∧ i = .int .i64 (m : Int) ∧ wr.ownsRow w.heap.size 3 1 vi m ((hIdx (hs.take m)).map (Value.int .i64)) ∧ Below w.heap.size w wr) (fun _ _ _ _ i _ => hs.length - (intOf i).toNat)
  case atStart => exact ⟨0, Nat.zero_le _, (fun i h => absurd h (by omega)), rfl, rfl, rfl, World.ownsRow_nil _ _ _ _, Below.refl _ _⟩
  case round =>
    obtain ⟨m, hm, hev, rfl, rfl, rfl, ho, hB⟩ := hrel
    have HEV := Lib.hid hev
    have HI := Lib.hid ho
    have HB := Lib.hid hB
    have hsr := hB.size
    clear ho hev
    by_cases hlt : m < hs.length
    · obtain ⟨gh, oh, rfl, hhc⟩ := HHH.out (by omega)
      have lgh := blt (hhc 0 (by omega)).1
      obtain ⟨z1, u0, z2, z3⟩ := hhc 0 (by omega)
      rw [Nat.zero_mul, Nat.add_zero] at z2
      obtain ⟨p0, c0, rfl⟩ := z3.shape
      rw [HW0.out] at z2
      obtain ⟨x1, u, x2, x3⟩ := hhc m hlt
      obtain ⟨pu, cu, rfl⟩ := x3.shape
      obtain ⟨lm, hlm⟩ : ∃ lm, (hs.getD m (0, [])).2.length = lm := ⟨_, rfl⟩
      rw [hlm] at x2
      have HLM := Lib.hid hlm
      have i0 : 0 < hs.length := by omega
      have lgr : gh < wr.heap.size := by omega
      have y1 := (hB.cell (p := ⟨gh, oh + m * 2, none⟩) lgh).trans x1
      have y2 := (hB.cell (p := ⟨gh, oh + m * 2 + 1, none⟩) lgh).trans x2
      have y0 := (hB.cell (p := ⟨gh, oh + 1, none⟩) lgh).trans z2
      have HS1 := Lib.hid (hIdx_snoc hlt)
      obtain ⟨ix, hix⟩ : ∃ ix, (hs.getD m (0, [])).1 = ix := ⟨_, rfl⟩
      rw [hix] at y1 HS1
      have HB9 := Lib.hid (show Below w.heap.size w (wr.alloc (.cells #[.int .i64 ix, .slice pu lm cu] 78)) from hB.alloc hsr _)
      clear hhc z1 z3 x1 x2 x3 hix hlm
      by_cases hle : lm = wide
      rotate_left
      · have HE := Lib.hid (show cdecErr s.n k hs = 2 by
          unfold cdecErr
          rw [if_neg (fun h => hle (by rw [← HLM.out, (evenH_iff hs).1 h m hlt, HW0.out]))])
        have e1 : (lm == wide) = false := by simpa using hle
        have e2 : ¬ (lm : Int) = wide := by omega
        go_wp2_with fail
        go_quiet (fail)
        go_wp2
        go_ret2
        exact DecC.bad HE.out (by decide) ⟨HB9.out.os, HB9.out.tape, HB9.out.output, HB9.out.size, HB9.out.block⟩
      subst hle
      have HO2 := Lib.hid (HI.out.alloc (.cells #[.int .i64 ix, .slice pu lm cu] 78))
      go_wp2_with fail
      go_quiet (fail)
      have HOQ := Lib.hid (show ((wr.alloc (.cells #[.int .i64 ix, .slice pu lm cu] 78)).drewN nq).ownsRow w.heap.size 3 1 u8 m ((hIdx (hs.take m)).map (Value.int .i64)) from HO2.out)
      have q0 : ((wr.alloc (.cells #[.int .i64 ix, .slice pu lm cu] 78)).drewN nq).cell? ⟨wr.heap.size, 0, none⟩ = some (.int .i64 ix) := World.cell?_alloc_new wr _ _ 0
      have HBQ := Lib.hid (show Below w.heap.size w ((wr.alloc (.cells #[.int .i64 ix, .slice pu lm cu] 78)).drewN nq) from ⟨HB9.out.os, HB9.out.tape, HB9.out.output, HB9.out.size, HB9.out.block⟩)
      have hsq := HBQ.out.size
      go_wp2_with (at_builtin; refine app_el 32 3 1 8 (.int .i64 0) Tryz.underlying32 infoI rfl (by decide) rfl _ _ rfl w.heap.size m u8 _ rfl HOQ.out [.int .i64 ix] rfl (one_intC ix) (by exact congrArg (fun s => Value.slice (some ⟨s, 0, none⟩) 1 1) (show wr.heap.size + 1 = ((wr.alloc (.cells #[.int .i64 ix, .slice pu lm cu] 78)).drewN nq).heap.size by simp)) (by omega) hsq ?_; intro g' c' w6 hR6 hk6 hs6 hg6)
      go_roundw
      case rel =>
        refine ⟨m + 1, by omega, fun i hi => ?_, rfl, rfl, by go_num, by rw [← HS1.out, List.map_append]; exact hR6, HBQ.out.trans (hk6.toBelow hsq (fun i hi => (HI.out.lt i hi).1))⟩
        by_cases e : i = m
        · rw [e]; exact HLM.out
        · exact HEV.out i (by omega)
      case measure => simp [intOf]; omega
    · obtain rfl : m = hs.length := by omega
      have hev : evenH hs = true := (evenH_iff hs).2 (fun i hi => by rw [HEV.out i hi, HW0.out])
      have HDE := Lib.hid (show cdecErr s.n k hs = askErr s.n k (hIdx hs) by unfold cdecErr; rw [if_pos hev])
      have HTK := Lib.hid (show hs.take hs.length = hs from List.take_of_length_le (Nat.le_refl _))
      rw [HTK.out] at HI
      have hli : (hIdx hs).length = hs.length := by simp [hIdx]
      have HIA := Lib.hid (IntsAt.of_owns (w := wr) (base := w.heap.size) (v := u8) (xs := hIdx hs) (by rw [hli]; exact HI.out))
      have HLI := Lib.hid hli
      have HC1 := Lib.hid (HC.out.below hB)
      have HV1 := Lib.hid (HV.out.below hB)
      obtain ⟨pi, ci, hvi⟩ : ∃ p c, u8 = .slice p (hIdx hs).length c := by
        obtain ⟨p, c, e, _⟩ := HIA.out
        exact ⟨p, c, e⟩
      subst hvi
      clear hli hB hev
      by_cases hask : askErr s.n k (hIdx hs) = 0
      rotate_left
      · have HT := Lib.hid (ask_bad wr HC1.out k _ (hIdx hs) HIA.out (by rw [HLI.out]; exact hl) hask)
        have HA := Lib.hid hask
        obtain ⟨a, ha⟩ : ∃ a, askErr s.n k (hIdx hs) = a := ⟨_, rfl⟩
        rw [ha] at HT HA
        have HDA := Lib.hid (HDE.out.trans ha)
        clear ha hask
        go_wp2_with fail
        refine HT.out.mono ?_
        rintro e w7 ⟨rfl, hB7⟩
        have HB7 := Lib.hid (below_more HB.out hB7 HB.out.size)
        clear hB7
        go_wp2_with fail
        refine (fnew_any w7).mono ?_
        rintro e w8 ⟨bf, rfl, _, _, hB8⟩
        have HB8 := Lib.hid (below_more HB7.out hB8 HB7.out.size)
        clear hB8
        go_wp2
        go_loopw [6, 49] (fun v6 i wr => v6 = .slice none 0 0 ∧ i = .int .i64 0 ∧ w8 = wr) (fun _ _ _ => 0)
        case atStart => exact ⟨rfl, rfl, rfl⟩
        case round =>
          obtain ⟨rfl, rfl, rfl⟩ := hrel
          go_wp2
          go_ret2
          exact DecC.bad HDA.out HA.out HB8.out
      · obtain ⟨K, rfl, h1, h2, ho⟩ := askErr_zero hask
        have HASK := Lib.hid hask
        have hkl : K ≤ hs.length := by have := ho.len; rw [HLI.out] at this; exact this
        have HYL := Lib.hid (show (idxB ((hIdx hs).take K)).length = K by rw [idxB_len, List.length_take]; have := ho.len; omega)
        have HA := Lib.hid (ask_any wr HC1.out (fun i hi => Nat.lt_of_lt_of_le (HF.out i hi) hsr) K _ (hIdx hs) HIA.out (by rw [HLI.out]; exact hl) h1 h2 ho HQ.out.1 HQ.out.2.1 HQ.out.2.2.1 HQ.out.2.2.2)
        clear hask ho
        go_wp2_with fail
        refine HA.out.mono ?_
        rintro e w1 ⟨s', x, rfl, hx, hk, hxs, hc1, hp, hk1⟩
        obtain ⟨U, hM, hU⟩ := hc1.mat x hx
        rw [hk, hxs] at hM
        have HM := Lib.hid hM
        have HVV := Lib.hid (show x.v = .slice (some ⟨x.gm, 0, none⟩) K K by unfold CE.v; rw [hk])
        have HCN := Lib.hid hc1
        have HP := Lib.hid hp
        have HK1 := Lib.hid hk1
        have hs1 := hk1.size
        rw [HVV.out]
        obtain ⟨gm, hgm⟩ : ∃ g, x.gm = g := ⟨_, rfl⟩
        rw [hgm] at HM ⊢
        have HV2 := Lib.hid (HV1.out.kept hk1 (fun i h => by rcases h with rfl | rfl; exact HC.out.fb; exact HC.out.fm))
        clear hM hU hc1 hp hk1 hgm hx hk hxs
        obtain ⟨ys, hys⟩ : ∃ ys, idxB ((hIdx hs).take K) = ys := ⟨_, rfl⟩
        have HYS := Lib.hid hys
        rw [hys] at HM HYL
        clear hys
        go_wp2_with fail
        refine (fnew_any w1).mono ?_
        rintro e w2 ⟨bf, rfl, hf, hfb, hB2⟩
        have HFD := Lib.hid hf
        have HM2 := Lib.hid (HM.out.kept (Kept.below hB2) (fun _ _ h => h))
        have HH2 := Lib.hid (HV2.out.below hB2)
        have HB2 := Lib.hid hB2
        have hs2 := hB2.size
        have hgl := HM2.out.lt
        clear hf hfb hB2
        go_wp2
        go_loopw [6, 14, 49] (fun v6 _ i wi => ∃ m : Nat, m ≤ K ∧ i = .int .i64 (m : Int) ∧ RowsLone wi w2.heap.size v6 (decP ys (hRow hs) wide m) ∧ Below w2.heap.size w2 wi) (fun _ _ i _ => K - (intOf i).toNat)
        case atStart => exact ⟨0, Nat.zero_le _, rfl, RowsLone.nil _ _, Below.refl _ _⟩
        case round =>
          obtain ⟨w0, rfl⟩ : ∃ w0, w0 = wr := ⟨_, rfl⟩
          obtain ⟨m, hm, rfl, ho, hB⟩ := hrel
          have HO := Lib.hid ho
          clear ho
          have hsr2 := hB.size
          by_cases hlt : m < K
          · have hM3 := HM2.out.kept (Kept.below hB) (fun _ _ h => h)
            have e1 := hM3.out hlt
            have HBR := Lib.hid (show BytesAt w0 (.slice (some ⟨(U m).1, 0, none⟩) K (U m).2) (wtsL ys (ofB m)) from by
              have := (hM3.row m hlt).toW.toBytes (U m).2
              rw [rowL_len] at this
              have e : wtsL ys (ofB m) = rowL K (fun s => lag ys s (ofB m)) := by unfold wtsL rowL; rw [HYL.out]
              rw [e]; exact this)
            have HWL := Lib.hid (show (wtsL ys (ofB m)).length = K by rw [wtsL_len, HYL.out])
            have HHR := Lib.hid (HH2.out.below hB)
            have HFR := Lib.hid (HFD.out.kept (Kept.below hB) (fun h => h))
            have HPL := Lib.hid (decP_len ys (hRow hs) wide m)
            clear hM3
            go_wp2_with fail
            refine (cmix_any w0 bf HFR.out _ _ (wtsL ys (ofB m)) hs wide HBR.out HHR.out.held (by omega) (by rw [HWL.out]; exact hkl) (by rw [HWL.out]; omega) HEV.out (by omega)).mono ?_
            rintro e w5 ⟨g, rfl, hrw, hgb, hB5⟩
            have hgl5 := hrw.lt
            have hs5 := hB5.size
            have HLV := Lib.hid HO.out.lt
            have HB6 := Lib.hid (below_more hB hB5 hsr2)
            have HBY := Lib.hid (show Own w5 w0.heap.size (.slice (some ⟨g, 0, none⟩) wide wide) (mixL (wtsL ys (ofB m)) (hRow hs) wide) by have := hrw.own hgb (by rw [mixL_len]; unfold maxLen; omega); rw [mixL_len] at this; exact this)
            have HB5 := Lib.hid hB5
            clear hrw hB5 hB
            go_wp2_with (at_builtin; refine app_lone rfl _ _ rfl w2.heap.size m _ _ HPL.out w0 HB5.out HO.out (.slice (some ⟨g, 0, none⟩) wide wide) _ HBY.out rfl rfl rfl (by omega) hsr2 ?_; intro g' c' w6 hR6 hk6 hs6 hg6)
            go_roundw
            case rel =>
              refine ⟨m + 1, by omega, by go_num, by rw [decP_succ]; exact hR6, HB6.out.trans (hk6.toBelow (by omega) (fun i h => (HLV.out i h).1))⟩
            case measure => simp [intOf]; omega
          · obtain rfl : m = K := by omega
            go_wp2
            go_ret2
            refine .inr ⟨HDE.out.trans HASK.out, ?_⟩
            rw [Int.toNat_natCast, HYS.out, decL_eq]
            exact ⟨s', w2.heap.size, _, rfl, HO.out, by omega, hsr2, fun w9 h => HCN.out.below (HB2.out.trans ((hB.mono (by omega)).trans (h.mono (by omega)))), HP.out, (((Kept.below HB.out).mono (fun _ _ h => h.elim)).trans (HK1.out.trans (((Kept.below HB2.out).trans (Kept.below hB) (fun _ _ h => h)).mono (fun _ _ h => h.elim)) (fun _ _ h => h)) (fun _ _ h => h))⟩
end Go.Proofs.YtlmpagicjgldkaaGreat
