/-
  mix of the cache: a sum of held symbols, each by a weight.
-/
import Derived.Test.YtlmpagicjgldkaaCaL
namespace Go.Proofs.Ytlmpagicjgldkaa
open Go.RowKit Go.Maps
set_option linter.unusedVariables false
set_option linter.unusedSimpArgs false
set_option maxRecDepth 100000
set_option maxHeartbeats 2000000

theorem hRow_get (hs : List (Int × List B)) (i : Nat) : (hRow hs).getD i [] = (hs.getD i (0, [])).2 := by
  unfold hRow
  rw [List.getD_eq_getElem?_getD, List.getD_eq_getElem?_getD, List.getElem?_map]
  cases hs[i]? <;> rfl
theorem cmix_any (w : World) (bf : Nat) (hF : FieldAt w bf) (vw vl : Value) (ws : List B) (hs : List (Int × List B)) (wide : Nat) (hw : BytesAt w vw ws) (hl : HeldAt w vl hs)
    (h0 : 0 < hs.length) (h1 : ws.length ≤ hs.length) (h2 : ws.length ≤ 255) (hwd : ∀ i, i < hs.length → (hs.getD i (0, [])).2.length = wide) (hwb : wide ≤ 1000000000) :
    Calls Try.prog 28 #[.pointer (some ⟨bf, 0, none⟩), vw, vl] w fun e w' => ∃ g, e = .returned (.slice (some ⟨g, 0, none⟩) wide wide) ∧ RowF w' g (mixL ws (hRow hs) wide) ∧ w.heap.size ≤ g ∧ Below w.heap.size w w' := by
  have HF := Lib.hid hF
  have HWD := Lib.hid hwd
  obtain ⟨pw, cw, rfl, hwc⟩ := hw
  obtain ⟨pl, cl, rfl, hcap, hlcc⟩ := hl
  obtain ⟨gl, ol, rfl, hld⟩ := hlcc h0
  have HW := Lib.hid hwc
  have HL := Lib.hid hld
  obtain ⟨_, u0, hu0, hb0⟩ := hld 0 h0
  obtain ⟨p0, c0, rfl⟩ := hb0.shape
  have lll := blt hu0
  rw [hwd 0 h0] at hu0
  rw [Nat.zero_mul, Nat.add_zero] at hu0
  clear hwc hlcc hld hwd hF hb0
  obtain ⟨ls, hls⟩ : ∃ ls, hRow hs = ls := ⟨_, rfl⟩
  have HLS := Lib.hid (show ∀ i, ls.getD i [] = (hs.getD i (0, [])).2 from fun i => by rw [← hls, hRow_get])
  have HLR := Lib.hid hls
  rw [hls]
  clear hls
  have hmk := run_make_one (w := w) 57 5 (.int .u8 0) 1 Try.underlying57 infoB rfl (by omega) wide (by omega)
  go_enter Try.func28, Try.ntmps28
  go_wp2
  clear hmk
  have kA := Kept.alloc (fun _ => False) w (.cells (Array.replicate wide (.int .u8 0)) 5)
  have HR := Lib.hid (RowF.made w wide)
  have sA : w.heap.size < (w.alloc (.cells (Array.replicate wide (.int .u8 0)) 5)).heap.size := by simp
  generalize (w.alloc (.cells (Array.replicate wide (.int .u8 0)) 5)) = w1 at *
  have HMS := Lib.hid (mixQ_start ws ls wide)
  go_loopw [8, 9, 10, 11, 20, 26, 27, 28, 29, 30, 31] (fun _ _ _ _ i _ _ _ _ _ _ wr => ∃ m : Nat, m ≤ ws.length ∧ i = .int .i64 (m : Int) ∧ RowF wr w.heap.size (mixQ ws ls wide m 0) ∧ Kept (fun i => i = w.heap.size) w1 wr) (fun _ _ _ _ i _ _ _ _ _ _ _ => ws.length - (intOf i).toNat)
  case atStart => exact ⟨0, Nat.zero_le _, rfl, by rw [HMS.out]; exact HR.out, Kept.refl _ _⟩
  case round =>
    obtain ⟨m, hm, rfl, hr, kk⟩ := hrel
    have HR1 := Lib.hid hr
    clear hr
    by_cases hlt : m < ws.length
    · obtain ⟨gw, ow, rfl, hwd⟩ := HW.out (by omega)
      have hwm := hwd m hlt
      have lw := blt hwm
      have c1 := (kk.at1 (ow + m) (b := gw) (by omega) (by omega)).trans ((kA.at0 (ow + m) (b := gw) lw).trans hwm)
      obtain ⟨_, ul, hul, hbl⟩ := HL.out m (by omega)
      have c2 := (kk.at1 (ol + m * 2 + 1) (b := gl) (by omega) (by omega)).trans ((kA.at0 (ol + m * 2 + 1) (b := gl) lll).trans hul)
      obtain ⟨pm, cm, rfl, hbm⟩ := hbl
      rw [HWD.out m (by omega)] at c2 hbm
      rw [← HLS.out] at hbm
      have HBM := Lib.hid hbm
      have HF1 := Lib.hid ((HF.out.kept kA (fun h => h)).kept kk (by have := HF.out.lt; omega))
      clear hwd hwm hul hbm
      obtain ⟨q, hq⟩ : ∃ q, ws.getD m 0 = q := ⟨_, rfl⟩
      rw [hq] at c1
      have HQ := Lib.hid hq
      clear hq
      have hsr := kk.size
      go_wp2
      go_loopw [10, 11, 31] (fun _ _ i wi => ∃ t : Nat, t ≤ wide ∧ i = .int .i64 (t : Int) ∧ RowF wi w.heap.size (mixQ ws ls wide m t) ∧ Kept (fun i => i = w.heap.size) wr wi) (fun _ _ i _ => wide - (intOf i).toNat)
      case atStart => exact ⟨0, Nat.zero_le _, rfl, HR1.out, Kept.refl _ _⟩
      case round =>
        obtain ⟨t, ht, rfl, hr, ki⟩ := hrel
        have HR2 := Lib.hid hr
        clear hr
        by_cases hlt2 : t < wide
        · obtain ⟨gm, om, rfl, hbd⟩ := HBM.out (by omega)
          have hbt := hbd t hlt2
          have lm := blt hbt
          have e1 := (ki.at1 (om + t) (b := gm) (by omega) (by omega)).trans ((kk.at1 (om + t) (b := gm) (by omega) (by omega)).trans ((kA.at0 (om + t) (b := gm) lm).trans hbt))
          have e2 := HR2.out.cell (i := t) (by rw [mixQ_len]; exact hlt2)
          have e3 := HR2.out.fz t
          have HF2 := Lib.hid (HF1.out.kept ki (by have := HF.out.lt; omega))
          have HST := Lib.hid (mixQ_set (ws := ws) (l := ls) (m := m) hlt2)
          rw [mixQ_get hlt2] at e2
          rw [HQ.out] at HST
          clear hbd hbt
          obtain ⟨x, hx⟩ : ∃ x, (ls.getD m []).getD t 0 = x := ⟨_, rfl⟩
          rw [hx] at e1 HST
          clear hx
          obtain ⟨y, hy⟩ : ∃ y, sm m (fun k => (ls.getD k []).getD t 0 * ws.getD k 0) = y := ⟨_, rfl⟩
          rw [hy] at e2 HST
          clear hy
          go_wp2_with fail
          refine wp_quiet_store 12 (by kernel_rfl) (by kernel_rfl) ?_
          simp only [List.take_succ_cons, List.take_zero, List.drop_succ_cons, List.drop_zero]
          repeat (quiet_step (first
            | (go_at_call 44; exact q_one (fmul_any _ bf (by exact HF2.out) q x))
            | (go_at_call 43; exact q_one_same (fadd_any _ y (q * x)))))
          refine wpQuiet_nil ?_
          rintro w5 ⟨nq, rfl⟩
          go_wp2
          refine calmQ.normal ?_
          go_wp2
          go_roundw
          case rel =>
            refine ⟨t + 1, by omega, by go_num, ?_, (ki.drewN nq).trans (Kept.set1 _ _ _ _) (fun _ _ h => h)⟩
            have := (show RowF (World.drewN _ nq) w.heap.size (mixQ ws ls wide m t) from HR2.out).set (i := t) (by rw [mixQ_len]; exact hlt2) (y + q * x)
            rw [show y + x * q = y + q * x by grind] at HST
            rw [HST.out] at this
            exact this
          case measure => simp [intOf]; omega
        · obtain rfl : t = wide := by omega
          have hr := HR2.out
          rw [mixQ_next] at hr
          have HR3 := Lib.hid hr
          clear hr
          have k3 := kk.trans ki (fun _ _ h => h)
          go_wp2
          go_roundw
          case rel => exact ⟨m + 1, by omega, by go_num, HR3.out, k3⟩
          case measure => simp [intOf]; omega
    · obtain rfl : m = ws.length := by omega
      have hr := HR1.out
      rw [mixQ_end] at hr
      have HR5 := Lib.hid hr
      clear hr
      go_wp2
      go_ret
      exact ⟨_, rfl, HR5.out, Nat.le_refl _, (kA.trans kk (S := fun _ => False) (fun i hi h => by omega)).toBelow (Nat.le_refl _) (fun _ h => h.elim)⟩

end Go.Proofs.Ytlmpagicjgldkaa
