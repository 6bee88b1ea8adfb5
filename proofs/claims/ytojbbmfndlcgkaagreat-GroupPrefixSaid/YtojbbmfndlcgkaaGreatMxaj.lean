/-
  Walks of layer 4 (lagr): weights.
-/
import Derived.Test.YtojbbmfndlcgkaaGreatMxaf
import Derived.Test.YtojbbmfndlcgkaaGreatMxah
import Derived.Test.YtojbbmfndlcgkaaGreatQuietTail
import Derived.Deep.RegionWith
namespace Go.Proofs.YtojbbmfndlcgkaaGreat
open Go.RowKit Go.Maps
set_option linter.unusedVariables false
set_option maxRecDepth 100000
set_option maxHeartbeats 2000000

theorem replicate_set_unit {n k : Nat} (h : k < n) : (List.replicate n (0 : B)).set k 1 = (List.replicate n 0).set k 1 := rfl

/-- The first k are worked out. -/
def partW (xs : List B) (x : B) (k : Nat) : List B := (wtsL xs x).take k ++ List.replicate (xs.length - k) 0
theorem partW_len (xs : List B) (x : B) {k : Nat} (h : k ≤ xs.length) : (partW xs x k).length = xs.length := by
  simp [partW, wtsL_len]; omega
theorem partW_set (xs : List B) (x : B) {k : Nat} (h : k < xs.length) : (partW xs x k).set k (lag xs k x) = partW xs x (k + 1) := by
  have hl : ((wtsL xs x).take k).length = k := by simp [wtsL_len]; omega
  unfold partW
  rw [List.set_append_right _ _ (by omega), hl, Nat.sub_self, show xs.length - k = (xs.length - (k + 1)) + 1 by omega, List.replicate_succ, List.set_cons_zero,
    List.take_succ_eq_append_getElem (by rw [wtsL_len]; exact h), List.append_assoc]
  congr 1
  simp [wtsL]
theorem partW_all (xs : List B) (x : B) : partW xs x xs.length = wtsL xs x := by
  unfold partW
  rw [List.take_of_length_le (by rw [wtsL_len]; exact Nat.le_refl _)]; simp

theorem weights_any (w : World) (bw bf : Nat) (vp va : Value) (xs : List B) (x : B) (h : OverAt w bw bf vp va xs (apartL xs)) (hn : xs.Nodup) (h0 : 0 < xs.length) (hl : xs.length ≤ 255) :
    Calls Tryz.prog 56 #[.pointer (some ⟨bw, 0, none⟩), bv x] w fun e w' => ∃ g, e = .returned (.slice (some ⟨g, 0, none⟩) xs.length xs.length) ∧ RowF w' g (wtsL xs x) ∧ w.heap.size ≤ g ∧ Below w.heap.size w w' := by
  have HO := Lib.hid h
  have HN := Lib.hid hn
  obtain ⟨c0, c1, c2, hf, hp, ha⟩ := h
  have HP := Lib.hid hp
  have HL := Lib.hid (apartL_len xs)
  have hlw := World.block_lt_of_cell? w _ c0
  obtain ⟨p, cap, rfl, hpc⟩ := hp
  obtain ⟨pa, capa, rfl, hac⟩ := ha
  rw [HL.out] at c2 hac
  obtain ⟨gp, op, rfl, hpd⟩ := hpc h0
  obtain ⟨ga, oa, rfl, had⟩ := hac h0
  have HF := Lib.hid hf
  have HPC := Lib.hid hpd
  have HAC := Lib.hid had
  have lp := World.block_lt_of_cell? w _ (hpd 0 h0)
  have la := World.block_lt_of_cell? w _ (had 0 h0)
  clear hn hf hpc hac hpd had
  go_enter Tryz.func56, Tryz.ntmps56
  have hmk := run_make_one (w := w) 39 5 (.int .u8 0) 1 Tryz.underlying39 infoB rfl (by omega) xs.length (by omega)
  go_wp2_with fail
  clear hmk
  have kA := Kept.alloc (fun _ => False) w (.cells (Array.replicate xs.length (.int .u8 0)) 5)
  have HR := Lib.hid (RowF.made w xs.length)
  have HP2 := Lib.hid (HP.out.kept kA (fun _ _ h => h))
  have d0 := (kA.cell (p := ⟨bw, 0, none⟩) hlw (fun h => h)).trans c0
  have d1 := (kA.cell (p := ⟨bw, 1, none⟩) hlw (fun h => h)).trans c1
  have d2 := (kA.cell (p := ⟨bw, 2, none⟩) hlw (fun h => h)).trans c2
  have HF2 := Lib.hid (HF.out.kept kA (fun h => h))
  have sA : w.heap.size < (w.alloc (.cells (Array.replicate xs.length (.int .u8 0)) 5)).heap.size := by simp
  generalize (w.alloc (.cells (Array.replicate xs.length (.int .u8 0)) 5)) = w1 at *
  refine (index_any w1 _ xs x HP2.out (by omega)).mono ?_
  rintro e w' ⟨rfl, ⟨k, hk, hx, rfl⟩ | ⟨hx, rfl⟩⟩
  · have HX := Lib.hid hx
    clear hx
    obtain ⟨v0, y0⟩ : ∃ v, w1.cell? ⟨w.heap.size, k, none⟩ = some v := ⟨_, HR.out.cell (by simpa using hk)⟩
    have yf := HR.out.fz k
    go_wp2
    go_ret
    refine ⟨w.heap.size, rfl, ?_, Nat.le_refl _, ?_⟩
    · have := HR.out.set (i := k) (by simpa using hk) 1
      rw [← HX.out, wtsL_unit HN.out hk]
      exact this
    · exact (kA.trans (Kept.set1 _ _ _ _) (S := fun _ => False) (fun i hi h => by omega)).toBelow (Nat.le_refl _) (fun _ h => h.elim)
  · have hp0 : pr (xs.take 0) x = 1 := rfl
    have HX := Lib.hid hx
    clear hx
    go_wp2
    go_loopw [7, 9, 35] (fun q _ i wi => ∃ (m n : Nat), m ≤ xs.length ∧ i = .int .i64 (m : Int) ∧ q = bv (pr (xs.take m) x) ∧ wi = w1.drewN n) (fun _ _ i _ => xs.length - (intOf i).toNat)
    case atStart => exact ⟨0, 0, Nat.zero_le _, rfl, rfl, rfl⟩
    case round =>
      obtain ⟨m, n, hm, rfl, rfl, rfl⟩ := hrel
      by_cases hmt : m < xs.length
      · have hcm := (kA.cell (p := ⟨gp, op + m, none⟩) lp (fun h => h)).trans (HPC.out m hmt)
        have HS := Lib.hid (pr_take hmt x)
        obtain ⟨y, hy⟩ : ∃ y, xs.getD m 0 = y := ⟨_, rfl⟩
        rw [hy] at hcm
        have HY := Lib.hid hy
        clear hy
        go_wp2_with fail
        go_quiet (first
          | (go_at_call 61; exact q_add_same (fadd_any _ x y))
          | (go_at_call 62; exact q_add (fmul_any _ bf (by exact HF2.out) (pr (xs.take m) x) (x + y))))
        go_wp2
        go_roundw
        case rel => exact ⟨m + 1, _, by omega, by go_num, by rw [HS.out, HY.out], rfl⟩
        case measure => simp [intOf]; omega
      · obtain rfl : m = xs.length := by omega
        have HA := Lib.hid (show pr (xs.take xs.length) x = pr xs x by rw [List.take_of_length_le (Nat.le_refl _)])
        rw [HA.out]
        clear HA
        have HR3 := Lib.hid (show RowF (w1.drewN n) w.heap.size (partW xs x 0) by have : RowF (w1.drewN n) w.heap.size (List.replicate xs.length 0) := HR.out; simpa [partW] using this)
        have kB : Kept (fun i => i = w.heap.size) w1 (w1.drewN n) := (Kept.refl _ w1).drewN n
        go_wp2
        go_loopw [10, 11, 54, 59, 84] (fun _ _ i _ _ wr => ∃ k : Nat, k ≤ xs.length ∧ i = .int .i64 (k : Int) ∧ RowF wr w.heap.size (partW xs x k) ∧ Kept (fun i => i = w.heap.size) w1 wr) (fun _ _ i _ _ _ => xs.length - (intOf i).toNat)
        case atStart => exact ⟨0, Nat.zero_le _, rfl, HR3.out, kB⟩
        case round =>
          obtain ⟨k, hk, rfl, hr, kk⟩ := hrel
          have HR4 := Lib.hid hr
          clear hr
          by_cases hlt : k < xs.length
          · have c0' := (kk.at1 (0) (b := bw) (by omega) (by omega)).trans d0
            have c1' := (kk.at1 (1) (b := bw) (by omega) (by omega)).trans d1
            have c2' := (kk.at1 (2) (b := bw) (by omega) (by omega)).trans d2
            have e1 := (kk.at1 (op + k) (b := gp) (by omega) (by omega)).trans ((kA.cell (p := ⟨gp, op + k, none⟩) lp (fun h => h)).trans (HPC.out k hlt))
            have e2 := (kk.at1 (oa + k) (b := ga) (by omega) (by omega)).trans ((kA.cell (p := ⟨ga, oa + k, none⟩) la (fun h => h)).trans (HAC.out k hlt))
            have e3 := HR4.out.cell (i := k) (by rw [partW_len xs x hk]; exact hlt)
            have e4 := HR4.out.fz k
            have HF4 := Lib.hid (HF2.out.kept kk (by have := HF2.out.lt; have := HF.out.lt; omega))
            have HD := Lib.hid (lag_div HN.out HX.out hlt)
            have HE := Lib.hid (lag_ne HN.out HX.out hlt)
            have HAP := Lib.hid (show (apartL xs).getD k 0 = pr (xs.eraseIdx k) (xs.getD k 0) from getD_range _ _ hlt)
            rw [HAP.out] at e2
            obtain ⟨y, hy⟩ : ∃ y, xs.getD k 0 = y := ⟨_, rfl⟩
            rw [hy] at e1 e2 HD HE
            obtain ⟨z, hz⟩ : ∃ z, pr (xs.eraseIdx k) y = z := ⟨_, rfl⟩
            rw [hz] at e2 HD HE
            clear hy hz
            obtain ⟨q, hq⟩ : ∃ q, pr xs x = q := ⟨_, rfl⟩
            rw [hq] at HD ⊢
            clear hq
            obtain ⟨t, ht⟩ : ∃ t, (partW xs x k).getD k 0 = t := ⟨_, rfl⟩
            rw [ht] at e3
            clear ht
            go_wp2_with fail
            refine wp_quiet_store 27 (by kernel_rfl) (by kernel_rfl) ?_
            simp only [List.take_succ_cons, List.take_zero, List.drop_succ_cons, List.drop_zero]
            repeat (quiet_step (first
              | (go_at_call 61; exact q_one_same (fadd_any _ x y))
              | (go_at_call 62; exact q_one (fmul_any _ bf (by exact HF4.out) (x + y) z))
              | (go_at_call 70; exact q_one (fdiv_any _ bf (by exact HF4.out) q ((x + y) * z) HE.out))))
            refine wpQuiet_nil ?_
            rintro w5 ⟨nq, rfl⟩
            rw [HD.out]
            go_wp2
            refine calmQ.normal ?_
            go_wp2
            go_roundw
            case rel =>
              refine ⟨k + 1, by omega, by go_num, ?_, (kk.drewN nq).trans (Kept.set1 _ _ _ _) (fun _ _ h => h)⟩
              have := (show RowF (wr.drewN nq) w.heap.size (partW xs x k) from HR4.out).set (i := k) (by rw [partW_len xs x hk]; exact hlt) (lag xs k x)
              rw [partW_set xs x hlt] at this
              exact this
            case measure => simp [intOf]; omega
          · obtain rfl : k = xs.length := by omega
            have hr := HR4.out
            rw [partW_all] at hr
            have HR5 := Lib.hid hr
            clear hr
            go_wp2
            go_ret
            exact ⟨_, rfl, HR5.out, Nat.le_refl _, (kA.trans kk (S := fun _ => False) (fun i hi h => by omega)).toBelow (Nat.le_refl _) (fun _ h => h.elim)⟩

end Go.Proofs.YtojbbmfndlcgkaaGreat
