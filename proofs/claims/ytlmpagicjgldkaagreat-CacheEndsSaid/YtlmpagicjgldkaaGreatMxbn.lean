/-
  CaL: Turn: the matrix that was asked for, in rows of its own.
  CaO: mix of the cache: a sum of held symbols, each by a weight.
-/
import Derived.Test.YtlmpagicjgldkaaGreatMxbl
namespace Go.Proofs.YtlmpagicjgldkaaGreat

section -- CaL
open Go.RowKit Go.Maps
set_option linter.unusedVariables false
set_option linter.unusedSimpArgs false
set_option maxRecDepth 100000
set_option maxHeartbeats 2000000

theorem turnL_lenC (k : Nat) (ys : List B) : (turnL k ys).length = k := by simp [turnL]
theorem matW_lone {w : World} {base gm k : Nat} {U : Nat → Nat × Nat} {ys : List B} (h : MatW w gm k k U (fun r s => lag ys s (ofB r))) (hy : ys.length = k) (hk : k ≤ 255) (hb : ∀ i, matB gm k U i → base ≤ i) : RowsLone w base (.slice (some ⟨gm, 0, none⟩) k k) (turnL k ys) := by
  obtain ⟨C, h1, h2, h3⟩ := h.outer
  have hrow : ∀ r, r < k → Own w base (.slice (some ⟨(U r).1, 0, none⟩) k (U r).2) (wtsL ys (ofB r)) := fun r hr => by
    have := (h.row r hr).own (hb _ (.inr ⟨r, hr, rfl⟩))
    rw [rowL_len] at this
    have e : wtsL ys (ofB r) = rowL k (fun s => lag ys s (ofB r)) := by unfold wtsL rowL; rw [hy]
    rw [e]; exact this
  have get : ∀ i u, ((List.range k).map fun r => Value.slice (some ⟨(U r).1, 0, none⟩) k (U r).2)[i]? = some u → i < k ∧ u = .slice (some ⟨(U i).1, 0, none⟩) k (U i).2 := fun i u hu => by
    have hi : i < k := by
      have := (List.getElem?_eq_some_iff.1 hu).1
      simpa using this
    refine ⟨hi, ?_⟩
    simpa [hi] using hu.symm
  refine ⟨(List.range k).map fun r => .slice (some ⟨(U r).1, 0, none⟩) k (U r).2, ⟨by simp [turnL_lenC], .inr ⟨gm, k, C, by rw [turnL_lenC], hb gm (.inl rfl), h1, by rw [turnL_lenC]; exact Nat.le_refl _, by unfold maxLen; omega, by omega, ?_⟩⟩, fun i u hu => ?_, fun i j u z b hi hj e1 e2 => ?_⟩
  · rw [turnL_lenC]
    apply List.ext_getElem?
    intro i
    by_cases e : i < k
    · rw [List.getElem?_take, if_pos (by omega), Array.getElem?_toList, h3 i e]
      simp [e]
    · rw [List.getElem?_eq_none (by simp; omega), List.getElem?_eq_none (by simp; omega)]
  · obtain ⟨hi, rfl⟩ := get i u hu
    have e : (turnL k ys).getD i [] = wtsL ys (ofB i) := getD_range _ _ hi
    rw [e]
    refine ⟨hrow i hi, fun b hb' e2 => h.ne i hi ?_⟩
    rw [own_is hb', own_is e2]
  · obtain ⟨hi', rfl⟩ := get i u hi
    obtain ⟨hj', rfl⟩ := get j z hj
    exact h.inj i j hi' hj' (by rw [own_is e1, own_is e2])

/-- What Turn leaves. -/
def Told (w : World) (F : Nat → Prop) (b bm : Nat) (s : CS) (q : Nat × List Int) (R : List (List B)) (e : Ending) (w' : World) : Prop :=
  ∃ s' base v, e = .returned (.tuple #[v, .int .i64 0]) ∧ RowsLone w' base v R ∧ w.heap.size ≤ base ∧ base ≤ w'.heap.size ∧ (∀ w2, Below base w' w2 → CacheAt w2 F b bm s') ∧ s'.plain = s.plain.ask q ∧ Kept (CK b bm) w w'

theorem turn_c_bad (w : World) {F : Nat → Prop} {b bm : Nat} {s : CS} (hc : CacheAt w F b bm s) (k : Int) (v : Value) (xs : List Int) (hv : IntsAt w v xs) (hl : xs.length ≤ 1000000) (he : askErr s.n k xs ≠ 0) :
    Calls Tryz.prog 11 #[.pointer (some ⟨b, 0, none⟩), .int .i64 k, v] w fun e' w' => e' = .returned (.tuple #[.slice none 0 0, .int .i64 (askErr s.n k xs)]) ∧ Below w.heap.size w w' := by
  have HA := Lib.hid (ask_bad w hc k v xs hv hl he)
  have HC := Lib.hid hc
  obtain ⟨p, cap, hvv, _⟩ := hv
  subst hvv
  obtain ⟨ae, hae⟩ : ∃ x, askErr s.n k xs = x := ⟨_, rfl⟩
  rw [hae] at HA ⊢
  clear hc he hae
  go_enter Tryz.func11, Tryz.ntmps11
  go_wp2_with fail
  refine (there_c w HC.out).mono ?_
  rintro e w' ⟨rfl, rfl⟩
  go_wp2_with fail
  refine HA.out.mono ?_
  rintro e w1 ⟨rfl, hB⟩
  go_wp2
  go_loopw [6, 23] (fun v6 i wr => v6 = .slice none 0 0 ∧ i = .int .i64 0 ∧ w1 = wr) (fun _ _ _ => 0)
  case atStart => exact ⟨rfl, rfl, rfl⟩
  case round =>
    obtain ⟨rfl, rfl, rfl⟩ := hrel
    go_wp2
    go_ret2
    exact ⟨rfl, hB⟩

theorem turn_c_any (w : World) {F : Nat → Prop} {b bm : Nat} {s : CS} (hc : CacheAt w F b bm s) (hF : ∀ i, F i → i < w.heap.size) (K : Nat) (v : Value) (xs : List Int) (hv : IntsAt w v xs) (hl : xs.length ≤ 1000000) (h1 : 1 ≤ K) (h2 : K ≤ s.n) (ho : AskOk s.n K xs)
    (hnow : s.now < 1000000000) (hhit : s.hits < 1000000000) (hmis : s.misses < 1000000000) (hdrp : s.dropped < 1000000000) :
    Calls Tryz.prog 11 #[.pointer (some ⟨b, 0, none⟩), .int .i64 (K : Int), v] w (Told w F b bm s (K, xs.take K) (turnL K (idxB (xs.take K)))) := by
  have HA := Lib.hid (ask_any w hc hF K v xs hv hl h1 h2 ho hnow hhit hmis hdrp)
  have HC := Lib.hid hc
  have h255 := hc.n255
  have HYL := Lib.hid (show (idxB (xs.take K)).length = K by rw [idxB_len, List.length_take]; have := ho.len; omega)
  obtain ⟨p, cap, hvv, _⟩ := hv
  subst hvv
  clear hc ho hF
  go_enter Tryz.func11, Tryz.ntmps11
  go_wp2_with fail
  refine (there_c w HC.out).mono ?_
  rintro e w' ⟨rfl, rfl⟩
  go_wp2_with fail
  refine HA.out.mono ?_
  rintro e w1 ⟨s', x, rfl, hx, hk, hxs, hc1, hp, hk1⟩
  obtain ⟨U, hM, hU⟩ := hc1.mat x hx
  rw [hk, hxs] at hM
  have HM := Lib.hid hM
  have HVV := Lib.hid (show x.v = .slice (some ⟨x.gm, 0, none⟩) K K by unfold CE.v; rw [hk])
  have HC1 := Lib.hid hc1
  have HP := Lib.hid hp
  have HK1 := Lib.hid hk1
  have hs1 := hk1.size
  rw [HVV.out]
  obtain ⟨gm, hgm⟩ : ∃ g, x.gm = g := ⟨_, rfl⟩
  rw [hgm] at HM ⊢
  have hgl := HM.out.lt
  clear hM hU hc1 hp hk1 hgm hx hk hxs
  obtain ⟨ys, hys⟩ : ∃ ys, idxB (xs.take K) = ys := ⟨_, rfl⟩
  have HYS := Lib.hid hys
  rw [hys] at HM HYL
  clear hys
  go_wp2
  go_loopw [6, 10, 23] (fun v6 _ i wr => ∃ m : Nat, m ≤ K ∧ i = .int .i64 (m : Int) ∧ RowsLone wr w1.heap.size v6 ((turnL K ys).take m) ∧ Below w1.heap.size w1 wr) (fun _ _ i _ => K - (intOf i).toNat)
  case atStart => exact ⟨0, Nat.zero_le _, rfl, RowsLone.nil _ _, Below.refl _ _⟩
  case round =>
    obtain ⟨m, hm, rfl, ho, hB⟩ := hrel
    have HO := Lib.hid ho
    clear ho
    have hsr := hB.size
    by_cases hlt : m < K
    · have hM2 := HM.out.kept (Kept.below hB) (fun _ _ h => h)
      have e1 := hM2.out hlt
      have HCE := Lib.hid (show ∀ i, i < K → wr.cell? ⟨(U m).1, 0 + i, none⟩ = some (bv ((wtsL ys (ofB m)).getD i 0)) from fun i hi => by
        have h := hM2.cell hlt hi
        rw [Nat.zero_add, h]
        have : (wtsL ys (ofB m)).getD i 0 = lag ys i (ofB m) := by
          unfold wtsL
          rw [getD_range _ _ (by rw [HYL.out]; exact hi)]
        rw [this])
      have HWL := Lib.hid (show (wtsL ys (ofB m)).length = K by rw [wtsL_len, HYL.out])
      have HSN := Lib.hid (show (turnL K ys).take m ++ [wtsL ys (ofB m)] = (turnL K ys).take (m + 1) by
        rw [List.take_succ_eq_append_getElem (by rw [turnL_lenC]; exact hlt)]
        simp [turnL])
      have HLM := Lib.hid (show ((turnL K ys).take m).length = m by rw [List.length_take, turnL_lenC]; omega)
      clear hM2
      go_wp2_with fail
      refine (clone_any wr (U m).1 0 K (U m).2 (wtsL ys (ofB m)) HWL.out (by omega) (by omega) HCE.out).mono ?_
      rintro e w5 ⟨g, c, rfl, hrw, hgb, hB5⟩
      have hgl5 := hrw.lt
      have hs5 := hB5.size
      have HR5 := Lib.hid (HO.out.below hB5)
      have HLV := Lib.hid HO.out.lt
      have HB6 := Lib.hid (below_more hB hB5 hsr)
      have HBY := Lib.hid (show Own w5 wr.heap.size (.slice (some ⟨g, 0, none⟩) K c) (wtsL ys (ofB m)) by have := hrw.own hgb; rw [HWL.out] at this; exact this)
      have HB5 := Lib.hid hB5
      clear hrw hB5 hB
      go_wp2_with (at_builtin; refine app_lone rfl _ _ rfl w1.heap.size m _ _ HLM.out wr HB5.out HO.out (.slice (some ⟨g, 0, none⟩) K c) _ HBY.out rfl rfl rfl (by omega) hsr ?_; intro g' c' w6 hR6 hk6 hs6 hg6)
      go_roundw
      case rel =>
        refine ⟨m + 1, by omega, by go_num, by rw [← HSN.out]; exact hR6, HB6.out.trans (hk6.toBelow (by omega) (fun i h => (HLV.out i h).1))⟩
      case measure => simp [intOf]; omega
    · obtain rfl : m = K := by omega
      go_wp2
      go_ret2
      have hRR := HO.out
      rw [List.take_of_length_le (by rw [turnL_lenC]; exact Nat.le_refl _)] at hRR
      exact ⟨s', w1.heap.size, _, rfl, by rw [HYS.out]; exact hRR, hs1, hsr, fun w2 h => HC1.out.below (hB.trans h), HP.out, HK1.out.trans ((Kept.below hB).mono (fun _ _ h => h.elim)) (fun _ _ h => h)⟩
end -- CaL

section -- CaO
open Go.RowKit Go.Maps
set_option linter.unusedVariables false
set_option linter.unusedSimpArgs false
set_option maxRecDepth 100000
set_option maxHeartbeats 2000000

theorem hRow_getC (hs : List (Int × List B)) (i : Nat) : (hRow hs).getD i [] = (hs.getD i (0, [])).2 := by
  unfold hRow
  rw [List.getD_eq_getElem?_getD, List.getD_eq_getElem?_getD, List.getElem?_map]
  cases hs[i]? <;> rfl
theorem cmix_any (w : World) (bf : Nat) (hF : FieldAt w bf) (vw vl : Value) (ws : List B) (hs : List (Int × List B)) (wide : Nat) (hw : BytesAt w vw ws) (hl : HeldAt w vl hs)
    (h0 : 0 < hs.length) (h1 : ws.length ≤ hs.length) (h2 : ws.length ≤ 255) (hwd : ∀ i, i < hs.length → (hs.getD i (0, [])).2.length = wide) (hwb : wide ≤ 1000000000) :
    Calls Tryz.prog 36 #[.pointer (some ⟨bf, 0, none⟩), vw, vl] w fun e w' => ∃ g, e = .returned (.slice (some ⟨g, 0, none⟩) wide wide) ∧ RowF w' g (mixL ws (hRow hs) wide) ∧ w.heap.size ≤ g ∧ Below w.heap.size w w' := by
  have HF := Lib.hid hF
  have HWD := Lib.hid hwd
  obtain ⟨pw, cw, rfl, hwc⟩ := hw
  obtain ⟨pl, cl, rfl, hcap, hlcc⟩ := hl
  obtain ⟨gl, ol, rfl, hld⟩ := hlcc h0
  have HW := Lib.hid hwc
  have HL := Lib.hid hld
  obtain ⟨_, u0, hu0, hb0⟩ := hld 0 h0
  obtain ⟨p0, c0, rfl⟩ := hb0.shape
  have lll := blt hu0
  rw [hwd 0 h0] at hu0
  rw [Nat.zero_mul, Nat.add_zero] at hu0
  clear hwc hlcc hld hwd hF hb0
  obtain ⟨ls, hls⟩ : ∃ ls, hRow hs = ls := ⟨_, rfl⟩
  have HLS := Lib.hid (show ∀ i, ls.getD i [] = (hs.getD i (0, [])).2 from fun i => by rw [← hls, hRow_getC])
  have HLR := Lib.hid hls
  rw [hls]
  clear hls
  have hmk := run_make_one (w := w) 43 5 (.int .u8 0) 1 Tryz.underlying43 infoB rfl (by omega) wide (by omega)
  go_enter Tryz.func36, Tryz.ntmps36
  go_wp2
  clear hmk
  have kA := Kept.alloc (fun _ => False) w (.cells (Array.replicate wide (.int .u8 0)) 5)
  have HR := Lib.hid (RowF.made w wide)
  have sA : w.heap.size < (w.alloc (.cells (Array.replicate wide (.int .u8 0)) 5)).heap.size := by simp
  generalize (w.alloc (.cells (Array.replicate wide (.int .u8 0)) 5)) = w1 at *
  have HMS := Lib.hid (mixQ_start ws ls wide)
  go_loopw [8, 9, 10, 11, 20, 26, 27, 28, 29, 30, 31] (fun _ _ _ _ i _ _ _ _ _ _ wr => ∃ m : Nat, m ≤ ws.length ∧ i = .int .i64 (m : Int) ∧ RowF wr w.heap.size (mixQ ws ls wide m 0) ∧ Kept (fun i => i = w.heap.size) w1 wr) (fun _ _ _ _ i _ _ _ _ _ _ _ => ws.length - (intOf i).toNat)
  case atStart => exact ⟨0, Nat.zero_le _, rfl, by rw [HMS.out]; exact HR.out, Kept.refl _ _⟩
  case round =>
    obtain ⟨m, hm, rfl, hr, kk⟩ := hrel
    have HR1 := Lib.hid hr
    clear hr
    by_cases hlt : m < ws.length
    · obtain ⟨gw, ow, rfl, hwd⟩ := HW.out (by omega)
      have hwm := hwd m hlt
      have lw := blt hwm
      have c1 := (kk.at1 (ow + m) (b := gw) (by omega) (by omega)).trans ((kA.at0 (ow + m) (b := gw) lw).trans hwm)
      obtain ⟨_, ul, hul, hbl⟩ := HL.out m (by omega)
      have c2 := (kk.at1 (ol + m * 2 + 1) (b := gl) (by omega) (by omega)).trans ((kA.at0 (ol + m * 2 + 1) (b := gl) lll).trans hul)
      obtain ⟨pm, cm, rfl, hbm⟩ := hbl
      rw [HWD.out m (by omega)] at c2 hbm
      rw [← HLS.out] at hbm
      have HBM := Lib.hid hbm
      have HF1 := Lib.hid ((HF.out.kept kA (fun h => h)).kept kk (by have := HF.out.lt; omega))
      clear hwd hwm hul hbm
      obtain ⟨q, hq⟩ : ∃ q, ws.getD m 0 = q := ⟨_, rfl⟩
      rw [hq] at c1
      have HQ := Lib.hid hq
      clear hq
      have hsr := kk.size
      go_wp2
      go_loopw [10, 11, 31] (fun _ _ i wi => ∃ t : Nat, t ≤ wide ∧ i = .int .i64 (t : Int) ∧ RowF wi w.heap.size (mixQ ws ls wide m t) ∧ Kept (fun i => i = w.heap.size) wr wi) (fun _ _ i _ => wide - (intOf i).toNat)
      case atStart => exact ⟨0, Nat.zero_le _, rfl, HR1.out, Kept.refl _ _⟩
      case round =>
        obtain ⟨t, ht, rfl, hr, ki⟩ := hrel
        have HR2 := Lib.hid hr
        clear hr
        by_cases hlt2 : t < wide
        · obtain ⟨gm, om, rfl, hbd⟩ := HBM.out (by omega)
          have hbt := hbd t hlt2
          have lm := blt hbt
          have e1 := (ki.at1 (om + t) (b := gm) (by omega) (by omega)).trans ((kk.at1 (om + t) (b := gm) (by omega) (by omega)).trans ((kA.at0 (om + t) (b := gm) lm).trans hbt))
          have e2 := HR2.out.cell (i := t) (by rw [mixQ_len]; exact hlt2)
          have e3 := HR2.out.fz t
          have HF2 := Lib.hid (HF1.out.kept ki (by have := HF.out.lt; omega))
          have HST := Lib.hid (mixQ_set (ws := ws) (l := ls) (m := m) hlt2)
          rw [mixQ_get hlt2] at e2
          rw [HQ.out] at HST
          clear hbd hbt
          obtain ⟨x, hx⟩ : ∃ x, (ls.getD m []).getD t 0 = x := ⟨_, rfl⟩
          rw [hx] at e1 HST
          clear hx
          obtain ⟨y, hy⟩ : ∃ y, sm m (fun k => (ls.getD k []).getD t 0 * ws.getD k 0) = y := ⟨_, rfl⟩
          rw [hy] at e2 HST
          clear hy
          go_wp2_with fail
          refine wp_quiet_store 12 (by kernel_rfl) (by kernel_rfl) ?_
          simp only [List.take_succ_cons, List.take_zero, List.drop_succ_cons, List.drop_zero]
          repeat (quiet_step (first
            | (go_at_call 49; exact q_one (fmul_any _ bf (by exact HF2.out) q x))
            | (go_at_call 48; exact q_one_same (fadd_any _ y (q * x)))))
          refine wpQuiet_nil ?_
          rintro w5 ⟨nq, rfl⟩
          go_wp2
          refine calmQ.normal ?_
          go_wp2
          go_roundw
          case rel =>
            refine ⟨t + 1, by omega, by go_num, ?_, (ki.drewN nq).trans (Kept.set1 _ _ _ _) (fun _ _ h => h)⟩
            have := (show RowF (World.drewN _ nq) w.heap.size (mixQ ws ls wide m t) from HR2.out).set (i := t) (by rw [mixQ_len]; exact hlt2) (y + q * x)
            rw [show y + x * q = y + q * x by grind] at HST
            rw [HST.out] at this
            exact this
          case measure => simp [intOf]; omega
        · obtain rfl : t = wide := by omega
          have hr := HR2.out
          rw [mixQ_next] at hr
          have HR3 := Lib.hid hr
          clear hr
          have k3 := kk.trans ki (fun _ _ h => h)
          go_wp2
          go_roundw
          case rel => exact ⟨m + 1, by omega, by go_num, HR3.out, k3⟩
          case measure => simp [intOf]; omega
    · obtain rfl : m = ws.length := by omega
      have hr := HR1.out
      rw [mixQ_end] at hr
      have HR5 := Lib.hid hr
      clear hr
      go_wp2
      go_ret
      exact ⟨_, rfl, HR5.out, Nat.le_refl _, (kA.trans kk (S := fun _ => False) (fun i hi h => by omega)).toBelow (Nat.le_refl _) (fun _ h => h.elim)⟩
end -- CaO

end Go.Proofs.YtlmpagicjgldkaaGreat
