/-
  Walks of layer 5 (code): mix.
-/
import Derived.Test.YtojbbmfndlcgkaaGreatMxak
namespace Go.Proofs.YtojbbmfndlcgkaaGreat
open Go.RowKit Go.Maps
set_option linter.unusedVariables false
set_option maxRecDepth 100000
set_option maxHeartbeats 2000000

/-- The sum of the first m rows, and of one more in the first t places. -/
def mixQ (ws : List B) (l : List (List B)) (wide m t : Nat) : List B := (List.range wide).map fun i => if i < t then sm (m + 1) (fun k => (l.getD k []).getD i 0 * ws.getD k 0) else sm m (fun k => (l.getD k []).getD i 0 * ws.getD k 0)
theorem mixQ_len (ws : List B) (l : List (List B)) (wide m t : Nat) : (mixQ ws l wide m t).length = wide := by simp [mixQ]
theorem mixQ_get {ws : List B} {l : List (List B)} {wide m t : Nat} (h : t < wide) : (mixQ ws l wide m t).getD t 0 = sm m (fun k => (l.getD k []).getD t 0 * ws.getD k 0) := by
  unfold mixQ
  rw [getD_range _ _ h, if_neg (by omega)]
theorem mixQ_set {ws : List B} {l : List (List B)} {wide m t : Nat} (h : t < wide) : (mixQ ws l wide m t).set t (sm m (fun k => (l.getD k []).getD t 0 * ws.getD k 0) + (l.getD m []).getD t 0 * ws.getD m 0) = mixQ ws l wide m (t + 1) := by
  apply List.ext_getElem
  · simp [mixQ]
  · intro i h1 h2
    simp [mixQ] at h1
    rw [List.getElem_set]
    simp only [mixQ, List.getElem_map, List.getElem_range]
    by_cases e : t = i
    · subst e; rw [if_pos rfl, if_pos (by omega)]; rfl
    · rw [if_neg e]
      by_cases q : i < t
      · rw [if_pos q, if_pos (by omega)]
      · rw [if_neg q, if_neg (by omega)]
theorem mixQ_next (ws : List B) (l : List (List B)) (wide m : Nat) : mixQ ws l wide m wide = mixQ ws l wide (m + 1) 0 := by
  unfold mixQ
  apply List.map_congr_left
  intro i hi
  have := List.mem_range.1 hi
  rw [if_pos this, if_neg (by omega)]
theorem mixQ_skip {ws : List B} {l : List (List B)} {wide m : Nat} (h : ws.getD m 0 = 0) : mixQ ws l wide m 0 = mixQ ws l wide (m + 1) 0 := by
  unfold mixQ
  apply List.map_congr_left
  intro i hi
  rw [if_neg (by omega), if_neg (by omega)]
  show _ = sm m _ + (l.getD m []).getD i 0 * ws.getD m 0
  rw [h]; grind
theorem mixQ_start (ws : List B) (l : List (List B)) (wide : Nat) : mixQ ws l wide 0 0 = List.replicate wide 0 := by
  apply List.ext_getElem
  · simp [mixQ]
  · intro i h1 h2
    simp [mixQ, sm]
theorem mixQ_end (ws : List B) (l : List (List B)) (wide : Nat) : mixQ ws l wide ws.length 0 = mixL ws l wide := by
  unfold mixQ mixL
  apply List.map_congr_left
  intro i hi
  rw [if_neg (by omega)]

theorem mix_any (w : World) {bc n k bf : Nat} {vt : Value} (hc : CoderAt w bc n k bf vt) (vw vl : Value) (ws : List B) (ls : List (List B)) (wide : Nat) (hw : BytesAt w vw ws) (hl : RowsAt w vl ls)
    (h0 : 0 < ls.length) (h1 : ws.length ≤ ls.length) (h2 : ws.length ≤ 255) (hwd : ∀ i, i < ls.length → (ls.getD i []).length = wide) (hwb : wide ≤ 1000000000) :
    Calls Tryz.prog 48 #[.pointer (some ⟨bc, 0, none⟩), vw, vl] w fun e w' => ∃ g, e = .returned (.slice (some ⟨g, 0, none⟩) wide wide) ∧ RowF w' g (mixL ws ls wide) ∧ w.heap.size ≤ g ∧ Below w.heap.size w w' := by
  have d0 := hc.c0
  have hlc := hc.lt
  have HF := Lib.hid hc.field
  have HWD := Lib.hid hwd
  obtain ⟨pw, cw, rfl, hwc⟩ := hw
  obtain ⟨pl, cl, rfl, hlcc⟩ := hl
  obtain ⟨gl, ol, rfl, hld⟩ := hlcc h0
  have HW := Lib.hid hwc
  have HL := Lib.hid hld
  obtain ⟨u0, hu0, hb0⟩ := hld 0 h0
  obtain ⟨p0, c0, rfl⟩ := hb0.shape
  have lll := blt hu0
  rw [hwd 0 h0] at hu0
  rw [Nat.add_zero] at hu0
  clear hwc hlcc hld hwd hc hb0
  have hmk := run_make_one (w := w) 39 5 (.int .u8 0) 1 Tryz.underlying39 infoB rfl (by omega) wide (by omega)
  go_enter Tryz.func48, Tryz.ntmps48
  go_wp2
  clear hmk
  have kA := Kept.alloc (fun _ => False) w (.cells (Array.replicate wide (.int .u8 0)) 5)
  have HR := Lib.hid (RowF.made w wide)
  have sA : w.heap.size < (w.alloc (.cells (Array.replicate wide (.int .u8 0)) 5)).heap.size := by simp
  generalize (w.alloc (.cells (Array.replicate wide (.int .u8 0)) 5)) = w1 at *
  have HMS := Lib.hid (mixQ_start ws ls wide)
  go_loopw [8, 9, 10, 11, 19, 26, 27, 28, 29, 30, 31] (fun _ _ _ _ i _ _ _ _ _ _ wr => ∃ m : Nat, m ≤ ws.length ∧ i = .int .i64 (m : Int) ∧ RowF wr w.heap.size (mixQ ws ls wide m 0) ∧ Kept (fun i => i = w.heap.size) w1 wr) (fun _ _ _ _ i _ _ _ _ _ _ _ => ws.length - (intOf i).toNat)
  case atStart => exact ⟨0, Nat.zero_le _, rfl, by rw [HMS.out]; exact HR.out, Kept.refl _ _⟩
  case round =>
    obtain ⟨m, hm, rfl, hr, kk⟩ := hrel
    have HR1 := Lib.hid hr
    clear hr
    by_cases hlt : m < ws.length
    · obtain ⟨gw, ow, rfl, hwd⟩ := HW.out (by omega)
      have hwm := hwd m hlt
      have lw := blt hwm
      have c1 := (kk.at1 (ow + m) (b := gw) (by omega) (by omega)).trans ((kA.at0 (ow + m) (b := gw) lw).trans hwm)
      obtain ⟨ul, hul, hbl⟩ := HL.out m (by omega)
      have c2 := (kk.at1 (ol + m) (b := gl) (by omega) (by omega)).trans ((kA.at0 (ol + m) (b := gl) lll).trans hul)
      obtain ⟨pm, cm, rfl, hbm⟩ := hbl
      rw [HWD.out m (by omega)] at c2 hbm
      have HBM := Lib.hid hbm
      have c0' := (kk.at1 0 (b := bc) (by omega) (by omega)).trans ((kA.at0 0 (b := bc) hlc).trans d0)
      have HF1 := Lib.hid ((HF.out.kept kA (fun h => h)).kept kk (by have := HF.out.lt; omega))
      clear hwd hwm hul hbm
      obtain ⟨q, hq⟩ : ∃ q, ws.getD m 0 = q := ⟨_, rfl⟩
      rw [hq] at c1
      have HQ := Lib.hid hq
      clear hq
      by_cases hz : q.v = 0
      · have hz1 : (((q.v : Nat) : Int) == 0) = true := by simp; omega
        have HZ := Lib.hid hz
        clear hz
        go_wp2
        go_roundw
        case rel => exact ⟨m + 1, by omega, by go_num, by rw [← mixQ_skip (by rw [HQ.out]; exact B.ext HZ.out)]; exact HR1.out, kk⟩
        case measure => simp [intOf]; omega
      · have hz1 : (((q.v : Nat) : Int) == 0) = false := by simp; omega
        have hsr := kk.size
        go_wp2
        go_loopw [10, 11, 31] (fun _ _ i wi => ∃ t : Nat, t ≤ wide ∧ i = .int .i64 (t : Int) ∧ RowF wi w.heap.size (mixQ ws ls wide m t) ∧ Kept (fun i => i = w.heap.size) wr wi) (fun _ _ i _ => wide - (intOf i).toNat)
        case atStart => exact ⟨0, Nat.zero_le _, rfl, HR1.out, Kept.refl _ _⟩
        case round =>
          obtain ⟨t, ht, rfl, hr, ki⟩ := hrel
          have HR2 := Lib.hid hr
          clear hr
          by_cases hlt2 : t < wide
          · obtain ⟨gm, om, rfl, hbd⟩ := HBM.out (by omega)
            have hbt := hbd t hlt2
            have lm := blt hbt
            have e1 := (ki.at1 (om + t) (b := gm) (by omega) (by omega)).trans ((kk.at1 (om + t) (b := gm) (by omega) (by omega)).trans ((kA.at0 (om + t) (b := gm) lm).trans hbt))
            have e2 := HR2.out.cell (i := t) (by rw [mixQ_len]; exact hlt2)
            have e3 := HR2.out.fz t
            have e0 := (ki.at1 0 (b := bc) (by omega) (by omega)).trans c0'
            have HF2 := Lib.hid (HF1.out.kept ki (by have := HF.out.lt; omega))
            have HST := Lib.hid (mixQ_set (ws := ws) (l := ls) (m := m) hlt2)
            rw [mixQ_get hlt2] at e2
            rw [HQ.out] at HST
            clear hbd hbt
            obtain ⟨x, hx⟩ : ∃ x, (ls.getD m []).getD t 0 = x := ⟨_, rfl⟩
            rw [hx] at e1 HST
            clear hx
            obtain ⟨y, hy⟩ : ∃ y, sm m (fun k => (ls.getD k []).getD t 0 * ws.getD k 0) = y := ⟨_, rfl⟩
            rw [hy] at e2 HST
            clear hy
            go_wp2_with fail
            refine wp_quiet_store 15 (by kernel_rfl) (by kernel_rfl) ?_
            simp only [List.take_succ_cons, List.take_zero, List.drop_succ_cons, List.drop_zero]
            repeat (quiet_step (first
              | (go_at_call 62; exact q_one (fmul_any _ bf (by exact HF2.out) x q))
              | (go_at_call 61; exact q_one_same (fadd_any _ y (x * q)))))
            refine wpQuiet_nil ?_
            rintro w5 ⟨nq, rfl⟩
            go_wp2
            refine calmQ.normal ?_
            go_wp2
            go_roundw
            case rel =>
              refine ⟨t + 1, by omega, by go_num, ?_, (ki.drewN nq).trans (Kept.set1 _ _ _ _) (fun _ _ h => h)⟩
              have := (show RowF (World.drewN _ nq) w.heap.size (mixQ ws ls wide m t) from HR2.out).set (i := t) (by rw [mixQ_len]; exact hlt2) (y + x * q)
              rw [HST.out] at this
              exact this
            case measure => simp [intOf]; omega
          · obtain rfl : t = wide := by omega
            have hr := HR2.out
            rw [mixQ_next] at hr
            have HR3 := Lib.hid hr
            clear hr
            have k3 := kk.trans ki (fun _ _ h => h)
            go_wp2
            go_roundw
            case rel => exact ⟨m + 1, by omega, by go_num, HR3.out, k3⟩
            case measure => simp [intOf]; omega
    · obtain rfl : m = ws.length := by omega
      have hr := HR1.out
      rw [mixQ_end] at hr
      have HR5 := Lib.hid hr
      clear hr
      go_wp2
      go_ret
      exact ⟨_, rfl, HR5.out, Nat.le_refl _, (kA.trans kk (S := fun _ => False) (fun i hi h => by omega)).toBelow (Nat.le_refl _) (fun _ h => h.elim)⟩

end Go.Proofs.YtojbbmfndlcgkaaGreat
