/-
  LayF: Layer 10, walks: the reference's Right.
  LayI: Layer 10, walks: the reference's Long; Ready (the program's, the reference's).
-/
import Derived.Test.YtanjchpkekehgaaMxau
namespace Go.Proofs.Ytanjchpkekehgaa

section -- LayF
open Go.RowKit Go.Maps
set_option linter.unusedVariables false
set_option linter.unusedSimpArgs false
set_option maxRecDepth 100000
set_option maxHeartbeats 4000000

theorem balD (w : World) (q : Nat) : Below w.heap.size w (w.drewN q) := (Kept.refl (fun _ => False) w).drewN q |>.toBelow (Nat.le_refl _) (fun _ h => h.elim)
theorem rtright_any (w : World) (n : Int) (v : Value) (t : List (Int × Int)) (hv : TableAt w v t) :
    Calls Try.prog 13 #[.int .i64 n, v] w fun e w' => e = .returned (.bool (decide (TableOk n t))) ∧ Below w.heap.size w w' := by
  obtain ⟨p, cap, rfl, hcap, hh⟩ := hv
  have HH := Lib.hid hh
  have HNT := Lib.hid (fun h => not_table (n := n) (t := t) h)
  have HNR := Lib.hid (fun (i : Nat) (hi : i < t.length) h => not_row (n := n) (t := t) hi h)
  obtain ⟨L, hL⟩ : ∃ L, t.length = L := ⟨_, rfl⟩
  have HL := Lib.hid hL
  rw [hL] at HH HNT HNR hcap ⊢
  clear hh hL
  go_enter Try.func13, Try.ntmps13
  by_cases hn1 : n < 1
  · go_wp2
    go_ret
    exact ⟨by rw [HNT.out (by omega)]; rfl, Below.refl _ _⟩
  by_cases hn2 : 255 < n
  · go_wp2
    go_ret
    exact ⟨by rw [HNT.out (by omega)]; rfl, Below.refl _ _⟩
  by_cases hn3 : L < 1
  · obtain rfl : L = 0 := by omega
    go_wp2
    go_ret
    exact ⟨by rw [HNT.out (by omega)]; rfl, Below.refl _ _⟩
  by_cases hn4 : 8 < L
  · go_wp2
    go_ret
    exact ⟨by rw [HNT.out (by omega)]; rfl, Below.refl _ _⟩
  go_wp2
  go_loopw [5] (fun i wr => ∃ (k q : Nat), i = .int .i64 (k : Int) ∧ k ≤ L ∧ RowsOk n t k ∧ wr = w.drewN q) (fun i _ => L - (intOf i).toNat)
  case atStart => exact ⟨0, 0, rfl, by omega, fun i hi => absurd hi (by omega), rfl⟩
  case round =>
    obtain ⟨k, q, rfl, hk, hR, rfl⟩ := hrel
    have HR := Lib.hid hR
    clear hR
    by_cases hlt : k < L
    · obtain ⟨g, off, rfl, hc⟩ := HH.out (by omega)
      obtain ⟨d0, d1⟩ := hc k hlt
      obtain ⟨kk, hkk⟩ : ∃ x, (t.getD k (0, 0)).1 = x := ⟨_, rfl⟩
      obtain ⟨ll, hll⟩ : ∃ x, (t.getD k (0, 0)).2 = x := ⟨_, rfl⟩
      obtain ⟨le, hle⟩ : ∃ x, leastT t k = x := ⟨_, rfl⟩
      have HOK := Lib.hid (show RowOk n (leastT t k) (t.getD k (0, 0)) ↔ le ≤ kk ∧ kk ≤ n ∧ 0 ≤ ll ∧ ll ≤ 65535 by unfold RowOk; rw [hkk, hll, hle])
      have HLE := Lib.hid (show 1 ≤ le ∧ (k = 0 → le = 1) from by
        subst hle
        cases k with
        | zero => exact ⟨Int.le_refl _, fun _ => rfl⟩
        | succ j => exact ⟨(HR.out.ge j (by omega)).1, fun h => absurd h (by omega)⟩)
      rw [hkk] at d0
      rw [hll] at d1
      have HD2 := Lib.hid (fun a => balD w a)
      have HD := Lib.hid (fun a => below_more (balD w q) (balD (w.drewN q) a) (Nat.le_refl _))
      go_wp2_with fail
      refine wp_region_quiet_lit (by kernel_rfl) (by kernel_rfl) ?_
      by_cases c1 : kk < 1
      · clear hc hkk hll hle
        iterate 49 (with_reducible refine wpQuiet_step (fun K hK => ?_); go_simp; first | (with_reducible refine hK _ ?_) | (rw [if_neg (by first | (simp [undef]; done) | (simp; omega))]; with_reducible refine hK _ ?_); clear hK K)
        refine wpQuiet_nil ?_
        rintro w5 ⟨nq, rfl⟩
        go_wp2
        go_ret
        exact ⟨by rw [HNR.out k hlt (fun h => by have := HOK.out.1 h; have := HLE.out.1; omega)]; rfl, by first | exact HD.out _ | exact HD2.out _⟩
      by_cases c2 : n < kk
      · clear hc hkk hll hle
        iterate 49 (with_reducible refine wpQuiet_step (fun K hK => ?_); go_simp; first | (with_reducible refine hK _ ?_) | (rw [if_neg (by first | (simp [undef]; done) | (simp; omega))]; with_reducible refine hK _ ?_); clear hK K)
        refine wpQuiet_nil ?_
        rintro w5 ⟨nq, rfl⟩
        go_wp2
        go_ret
        exact ⟨by rw [HNR.out k hlt (fun h => by have := HOK.out.1 h; have := HLE.out.1; omega)]; rfl, by first | exact HD.out _ | exact HD2.out _⟩
      by_cases c3 : ll < 0
      · clear hc hkk hll hle
        iterate 49 (with_reducible refine wpQuiet_step (fun K hK => ?_); go_simp; first | (with_reducible refine hK _ ?_) | (rw [if_neg (by first | (simp [undef]; done) | (simp; omega))]; with_reducible refine hK _ ?_); clear hK K)
        refine wpQuiet_nil ?_
        rintro w5 ⟨nq, rfl⟩
        go_wp2
        go_ret
        exact ⟨by rw [HNR.out k hlt (fun h => by have := HOK.out.1 h; have := HLE.out.1; omega)]; rfl, by first | exact HD.out _ | exact HD2.out _⟩
      by_cases c4 : 65535 < ll
      · clear hc hkk hll hle
        iterate 49 (with_reducible refine wpQuiet_step (fun K hK => ?_); go_simp; first | (with_reducible refine hK _ ?_) | (rw [if_neg (by first | (simp [undef]; done) | (simp; omega))]; with_reducible refine hK _ ?_); clear hK K)
        refine wpQuiet_nil ?_
        rintro w5 ⟨nq, rfl⟩
        go_wp2
        go_ret
        exact ⟨by rw [HNR.out k hlt (fun h => by have := HOK.out.1 h; have := HLE.out.1; omega)]; rfl, by first | exact HD.out _ | exact HD2.out _⟩
      by_cases hk0 : k = 0
      · have hk1 : ¬ (0 : Int) < (k : Int) := by omega
        have HK0 := Lib.hid (show le ≤ 1 from by have := HLE.out.2 hk0; omega)
        clear hk0
        clear hc hkk hll hle
        iterate 49 (with_reducible refine wpQuiet_step (fun K hK => ?_); go_simp; first | (with_reducible refine hK _ ?_) | (rw [if_neg (by first | (simp [undef]; done) | (simp; omega))]; with_reducible refine hK _ ?_); clear hK K)
        refine wpQuiet_nil ?_
        rintro w5 ⟨nq, rfl⟩
        go_wp2
        go_roundw
        case rel => exact ⟨k + 1, _, by go_num, by omega, HR.out.succ (HOK.out.2 (by have := HK0.out; omega)), by first | rfl | rw [World.drewN_drewN]⟩
        case measure => simp [intOf]; omega
      · obtain ⟨j, hjk⟩ : ∃ j, k = j + 1 := ⟨k - 1, by omega⟩
        obtain ⟨d2, _⟩ := hc j (by omega)
        have e2 : (t.getD j (0, 0)).1 = le := by rw [← hle, hjk]; rfl
        rw [e2] at d2
        have hj : IntKind.i64.wrap ((k : Int) - 1) = (j : Int) := by rw [show (k : Int) - 1 = (j : Int) by omega]; exact IntWalk.i64_in _ (by omega)
        have hjl : j < L := by omega
        have hj1 : (0 : Int) < (k : Int) := by omega
        have hj0 : 0 < k := by omega
        clear hjk
        by_cases c5 : kk < le
        · clear hc hkk hll hle e2
          iterate 49 (with_reducible refine wpQuiet_step (fun K hK => ?_); go_simp; first | (with_reducible refine hK _ ?_) | (rw [if_neg]; rotate_left; (first | (simp [undef]; done) | (simp; omega)); with_reducible refine hK _ ?_) | (rw [if_pos]; rotate_left; (simp; omega); go_simp; with_reducible refine hK _ ?_); clear hK K)
          refine wpQuiet_nil ?_
          rintro w5 ⟨nq, rfl⟩
          go_wp2
          go_ret
          exact ⟨by rw [HNR.out k hlt (fun h => by have := HOK.out.1 h; omega)]; rfl, by first | exact HD.out _ | exact HD2.out _⟩
        · clear hc hkk hll hle e2
          iterate 49 (with_reducible refine wpQuiet_step (fun K hK => ?_); go_simp; first | (with_reducible refine hK _ ?_) | (rw [if_neg]; rotate_left; (first | (simp [undef]; done) | (simp; omega)); with_reducible refine hK _ ?_) | (rw [if_pos]; rotate_left; (simp; omega); go_simp; with_reducible refine hK _ ?_); clear hK K)
          refine wpQuiet_nil ?_
          rintro w5 ⟨nq, rfl⟩
          go_wp2
          go_roundw
          case rel => exact ⟨k + 1, _, by go_num, by omega, HR.out.succ (HOK.out.2 (by omega)), by first | rfl | rw [World.drewN_drewN]⟩
          case measure => simp [intOf]; omega
    · obtain rfl : k = L := by omega
      have HD := Lib.hid (show decide (TableOk n t) = true from decide_eq_true ⟨by omega, by omega, by rw [HL.out]; omega, by rw [HL.out]; omega, by rw [HL.out]; exact HR.out⟩)
      have HB := Lib.hid (balD w q)
      go_wp2
      go_ret
      exact ⟨by rw [HD.out]; rfl, HB.out⟩
end -- LayF

section -- LayI
open Go.RowKit Go.Maps
set_option linter.unusedVariables false
set_option linter.unusedSimpArgs false
set_option maxRecDepth 100000
set_option maxHeartbeats 2000000

def longV (n : Int) (t : List (Int × Int)) : Int := if TableOk n t then ((atT t t.length : Nat) : Int) else 0
def readyV (n : Int) (t : List (Int × Int)) (came : Int) : Int := if TableOk n t then ((readyT t came : Nat) : Int) else 0
def tabE (n : Int) (t : List (Int × Int)) : Int := if TableOk n t then 0 else 2

theorem rlong_any (w : World) (n : Int) (v : Value) (t : List (Int × Int)) (hv : TableAt w v t) :
    Calls Try.prog 9 #[.int .i64 n, v] w fun e w' => e = .returned (.tuple #[.int .i64 (longV n t), .int .i64 (tabE n t)]) ∧ Below w.heap.size w w' := by
  have HR := Lib.hid (rtright_any w n v t hv)
  by_cases hd : TableOk n t
  · rw [decide_eq_true hd] at HR
    unfold longV tabE
    rw [if_pos hd, if_pos hd]
    obtain ⟨hn1, hn2, hl1, hl2, hok⟩ := hd
    obtain ⟨p, cap, rfl, hcap, hh⟩ := hv
    have HH := Lib.hid hh
    have HOK := Lib.hid hok
    obtain ⟨L, hL⟩ : ∃ L, t.length = L := ⟨_, rfl⟩
    have HL := Lib.hid hL
    rw [hL] at HH HOK hcap HR hl1 hl2 ⊢
    clear hh hok hL
    go_enter Try.func9, Try.ntmps9
    go_wp2_with fail
    refine HR.out.mono ?_
    rintro e w1 ⟨rfl, hB1⟩
    have HB1 := Lib.hid hB1
    clear hB1
    go_wp2
    go_loopw [6, 7] (fun a i wr => ∃ k : Nat, k ≤ L ∧ i = .int .i64 (k : Int) ∧ a = .int .i64 ((atT t k : Nat) : Int) ∧ Below w.heap.size w wr) (fun _ i _ => L - (intOf i).toNat)
    case atStart => exact ⟨0, Nat.zero_le _, rfl, by rw [atT_zero]; rfl, HB1.out⟩
    case round =>
      obtain ⟨wo, rfl⟩ : ∃ wo, wo = wr := ⟨_, rfl⟩
      obtain ⟨k, hk, rfl, rfl, hB⟩ := hrel
      have HB := Lib.hid hB
      by_cases hlt : k < L
      · obtain ⟨g, off, rfl, hc⟩ := HH.out (by omega)
        obtain ⟨d0, d1⟩ := hc k hlt
        have d0 := (hB.cell (p := ⟨g, off + k * 2, none⟩) (blt d0)).trans d0
        have d1 := (hB.cell (p := ⟨g, off + k * 2 + 1, none⟩) (blt d1)).trans d1
        have hlk : k < t.length := by rw [HL.out]; exact hlt
        have hokL : RowsOk n t t.length := by rw [HL.out]; exact HOK.out
        have hrow := hokL k hlk
        have hge := (hokL.ge k hlk).1
        have hlow2 := atT_low hokL (i := k + 1) (by omega)
        have hsu := atT_succ (t := t) (i := k) hlk
        have HAT := Lib.hid hsu
        rw [hsu] at hlow2
        obtain ⟨r, hr⟩ : ∃ r, t.getD k (0, 0) = r := ⟨_, rfl⟩
        rw [hr] at d0 d1 hrow hge hlow2 HAT
        have HWD := Lib.hid (fun W => rwidth_any W r n hge (by have := hrow.2.1; omega) hrow.2.2.1 hrow.2.2.2)
        obtain ⟨kk, ll⟩ := r
        dsimp only at d0 d1 HWD
        obtain ⟨ww, hww⟩ : ∃ x, wdT (kk, ll) = x := ⟨_, rfl⟩
        obtain ⟨aa, haa⟩ : ∃ x, atT t k = x := ⟨_, rfl⟩
        rw [hww] at HWD HAT hlow2
        rw [haa] at HAT hlow2 ⊢
        clear hc hrow hr hB hsu hww haa hokL hge
        go_wp2_with fail
        refine (HWD.out _).mono ?_
        rintro e w3 ⟨rfl, hB3⟩
        have HB3 := Lib.hid (below_more HB.out hB3 HB.out.size)
        clear hB3
        go_wp2
        go_roundw
        case rel => exact ⟨k + 1, by omega, by go_num, by rw [HAT.out]; go_num, HB3.out⟩
        case measure => simp [intOf]; omega
      · obtain rfl : k = L := by omega
        go_wp2
        go_ret2
        exact ⟨rfl, HB.out⟩
  · rw [decide_eq_false hd] at HR
    unfold longV tabE
    rw [if_neg hd, if_neg hd]
    obtain ⟨p, cap, rfl⟩ := hv.shape
    clear hv hd
    go_enter Try.func9, Try.ntmps9
    go_wp2_with fail
    refine HR.out.mono ?_
    rintro e w1 ⟨rfl, hB1⟩
    have HB1 := Lib.hid hB1
    clear hB1
    go_wp2
    go_ret2
    exact ⟨rfl, HB1.out⟩

theorem above1_any (w : World) (bx : Nat) (came kk ll : Int) (hb : w.cell? ⟨bx, 0, none⟩ = some (.int .i64 came)) :
    Calls Try.prog 24 #[.agg #[.int .i64 kk, .int .i64 ll], .pointer (some ⟨bx, 0, none⟩)] w fun e w' => e = .returned (.bool (decide (came < kk))) ∧ Below w.heap.size w w' := by
  have hB := balT w (.cells #[.int .i64 kk, .int .i64 ll] 39)
  have hb2 := (hB.cell (p := ⟨bx, 0, none⟩) (blt hb)).trans hb
  have HB := Lib.hid hB
  clear hB hb
  go_enter Try.func24, Try.ntmps24
  go_wp2
  go_ret
  exact ⟨rfl, HB.out⟩

def idxT (t : List (Int × Int)) (came : Int) : Int := if readyT t came < t.length then ((readyT t came : Nat) : Int) else -1
theorem indexT_any (w : World) (bx : Nat) (came : Int) (v : Value) (t : List (Int × Int)) (hb : w.cell? ⟨bx, 0, none⟩ = some (.int .i64 came)) (hv : TableAt w v t) (hlen : t.length ≤ 1000000000) :
    Calls Try.prog 25 #[v, .func (.func 24) #[] #[.pointer (some ⟨bx, 0, none⟩)]] w fun e w' => e = .returned (.int .i64 (idxT t came)) ∧ Below w.heap.size w w' := by
  obtain ⟨p, cap, rfl, hcap, hh⟩ := hv
  have HH := Lib.hid hh
  have HB0 := Lib.hid hb
  have HID := Lib.hid (show idxT t came = _ from rfl)
  obtain ⟨L, hL⟩ : ∃ L, t.length = L := ⟨_, rfl⟩
  have HL := Lib.hid hL
  rw [hL] at HH hcap hlen ⊢
  clear hh hb hL
  go_enter Try.func25, Try.ntmps25
  go_wp2
  go_loopw [5, 8] (fun _ i wr => ∃ k : Nat, k ≤ L ∧ i = .int .i64 (k : Int) ∧ (∀ j, j < k → (t.getD j (0, 0)).1 ≤ came) ∧ Below w.heap.size w wr) (fun _ i _ => L - (intOf i).toNat)
  case atStart => exact ⟨0, Nat.zero_le _, rfl, fun j h => absurd h (by omega), Below.refl _ _⟩
  case round =>
    obtain ⟨wo, rfl⟩ : ∃ wo, wo = wr := ⟨_, rfl⟩
    obtain ⟨k, hk, rfl, hno, hB⟩ := hrel
    have HN := Lib.hid hno
    have HB := Lib.hid hB
    clear hno
    by_cases hlt : k < L
    · obtain ⟨g, off, rfl, hc⟩ := HH.out (by omega)
      obtain ⟨d0, d1⟩ := hc k hlt
      have d0 := (hB.cell (p := ⟨g, off + k * 2, none⟩) (blt d0)).trans d0
      have d1 := (hB.cell (p := ⟨g, off + k * 2 + 1, none⟩) (blt d1)).trans d1
      have hbw := (hB.cell (p := ⟨bx, 0, none⟩) (blt HB0.out)).trans HB0.out
      obtain ⟨kk, hkk⟩ : ∃ x, (t.getD k (0, 0)).1 = x := ⟨_, rfl⟩
      obtain ⟨ll, hll⟩ : ∃ x, (t.getD k (0, 0)).2 = x := ⟨_, rfl⟩
      rw [hkk] at d0
      rw [hll] at d1
      have HR := Lib.hid (above1_any wo bx came kk ll hbw)
      have HKK := Lib.hid hkk
      clear hc hkk hll hB hbw
      by_cases e : came < kk
      · have e1 : decide (came < kk) = true := decide_eq_true e
        rw [e1] at HR
        have HE := Lib.hid (show idxT t came = (k : Int) from by
          have hr := readyT_unique (t := t) (came := came) (m := k) (by rw [HL.out]; omega) HN.out (fun _ => by rw [HKK.out]; exact e)
          unfold idxT
          rw [hr, if_pos (by rw [HL.out]; exact hlt)])
        clear e e1
        go_wp2_with fail
        refine HR.out.mono ?_
        rintro e w3 ⟨rfl, hB3⟩
        have HB3 := Lib.hid (below_more HB.out hB3 HB.out.size)
        clear hB3
        go_wp2
        go_ret
        exact ⟨by rw [HE.out]; rfl, HB3.out⟩
      · have e1 : decide (came < kk) = false := decide_eq_false e
        rw [e1] at HR
        have HE := Lib.hid (show (t.getD k (0, 0)).1 ≤ came by rw [HKK.out]; omega)
        clear e e1
        go_wp2_with fail
        refine HR.out.mono ?_
        rintro e w3 ⟨rfl, hB3⟩
        have HB3 := Lib.hid (below_more HB.out hB3 HB.out.size)
        clear hB3
        go_wp2
        go_roundw
        case rel =>
          refine ⟨k + 1, by omega, by go_num, fun j hj => ?_, HB3.out⟩
          by_cases q : j = k
          · subst q; exact HE.out
          · exact HN.out j (by omega)
        case measure => simp [intOf]; omega
    · obtain rfl : k = L := by omega
      have HE := Lib.hid (show idxT t came = -1 from by
        have hr := readyT_unique (t := t) (came := came) (m := k) (by rw [HL.out]; omega) HN.out (fun h => by rw [HL.out] at h; omega)
        unfold idxT
        rw [hr, if_neg (by rw [HL.out]; omega)])
      go_wp2
      go_ret
      exact ⟨by rw [HE.out]; rfl, HB.out⟩

theorem ready_any (w : World) (n came : Int) (v : Value) (t : List (Int × Int)) (hv : TableAt w v t) :
    Calls Try.prog 10 #[.int .i64 n, v, .int .i64 came] w fun e w' => e = .returned (.tuple #[.int .i64 (readyV n t came), .int .i64 (tabE n t)]) ∧ Below w.heap.size w w' := by
  have hB := balT w (.cells #[.int .i64 came] 3)
  have HR := Lib.hid (tright_any (w.alloc (.cells #[.int .i64 came] 3)) n v t (hv.below hB))
  have hb0 : (w.alloc (.cells #[.int .i64 came] 3)).cell? ⟨w.heap.size, 0, none⟩ = some (.int .i64 came) := World.cell?_alloc_new w _ _ 0
  have HC0 := Lib.hid hb0
  have HB := Lib.hid hB
  have HV := Lib.hid (hv.below hB)
  obtain ⟨p, cap, rfl⟩ := hv.shape
  clear hv hB hb0
  by_cases hd : TableOk n t
  · rw [decide_eq_true hd] at HR
    unfold readyV tabE
    rw [if_pos hd, if_pos hd]
    have hle := readyT_le t came
    have hl8 := hd.2.2.2.1
    have HIX := Lib.hid (fun w1 hb => indexT_any w1 w.heap.size came (.slice p t.length cap) t hb)
    by_cases hr : readyT t came < t.length
    · have hix : idxT t came = ((readyT t came : Nat) : Int) := by unfold idxT; rw [if_pos hr]
      rw [hix] at HIX
      obtain ⟨q, hq⟩ : ∃ q, readyT t came = q := ⟨_, rfl⟩
      rw [hq] at HIX hle ⊢
      clear hd hix hr hq
      go_enter Try.func10, Try.ntmps10
      go_wp2_with fail
      refine HR.out.mono ?_
      rintro e w1 ⟨rfl, hB1⟩
      have HB1 := Lib.hid (below_more HB.out hB1 HB.out.size)
      have HX1 := Lib.hid (HIX.out w1 ((hB1.cell (p := ⟨w.heap.size, 0, none⟩) (blt HC0.out)).trans HC0.out) (HV.out.below hB1) (by omega))
      clear hB1
      go_wp2_with fail
      refine HX1.out.mono ?_
      rintro e w2 ⟨rfl, hB2⟩
      have HB2 := Lib.hid (below_more HB1.out hB2 HB1.out.size)
      clear hB2
      go_wp2
      go_ret2
      exact ⟨rfl, HB2.out⟩
    · have hix : idxT t came = -1 := by unfold idxT; rw [if_neg hr]
      rw [hix] at HIX
      have hq : readyT t came = t.length := by omega
      rw [hq]
      clear hd hix hr hq hle
      go_enter Try.func10, Try.ntmps10
      go_wp2_with fail
      refine HR.out.mono ?_
      rintro e w1 ⟨rfl, hB1⟩
      have HB1 := Lib.hid (below_more HB.out hB1 HB.out.size)
      have HX1 := Lib.hid (HIX.out w1 ((hB1.cell (p := ⟨w.heap.size, 0, none⟩) (blt HC0.out)).trans HC0.out) (HV.out.below hB1) (by omega))
      clear hB1
      go_wp2_with fail
      refine HX1.out.mono ?_
      rintro e w2 ⟨rfl, hB2⟩
      have HB2 := Lib.hid (below_more HB1.out hB2 HB1.out.size)
      clear hB2
      go_wp2
      go_ret2
      exact ⟨rfl, HB2.out⟩
  · rw [decide_eq_false hd] at HR
    unfold readyV tabE
    rw [if_neg hd, if_neg hd]
    clear hd
    go_enter Try.func10, Try.ntmps10
    go_wp2_with fail
    refine HR.out.mono ?_
    rintro e w1 ⟨rfl, hB1⟩
    have HB1 := Lib.hid (below_more HB.out hB1 HB.out.size)
    clear hB1
    go_wp2
    go_ret2
    exact ⟨rfl, HB1.out⟩

theorem rready_any (w : World) (n came : Int) (v : Value) (t : List (Int × Int)) (hv : TableAt w v t) :
    Calls Try.prog 11 #[.int .i64 n, v, .int .i64 came] w fun e w' => e = .returned (.tuple #[.int .i64 (readyV n t came), .int .i64 (tabE n t)]) ∧ Below w.heap.size w w' := by
  have HR := Lib.hid (rtright_any w n v t hv)
  by_cases hd : TableOk n t
  · rw [decide_eq_true hd] at HR
    unfold readyV tabE
    rw [if_pos hd, if_pos hd]
    have HRI := Lib.hid (fun (i : Nat) (hi : i < t.length) => readyT_iff hd.2.2.2.2 came hi)
    have hle := readyT_le t came
    have hl8 := hd.2.2.2.1
    obtain ⟨p, cap, rfl, hcap, hh⟩ := hv
    have HH := Lib.hid hh
    obtain ⟨L, hL⟩ : ∃ L, t.length = L := ⟨_, rfl⟩
    obtain ⟨R, hR⟩ : ∃ R, readyT t came = R := ⟨_, rfl⟩
    rw [hL] at HH hcap HR HRI hle hl8 ⊢
    rw [hR] at HRI hle ⊢
    clear hh hL hR hd
    go_enter Try.func11, Try.ntmps11
    go_wp2_with fail
    refine HR.out.mono ?_
    rintro e w1 ⟨rfl, hB1⟩
    have HB1 := Lib.hid hB1
    clear hB1
    go_wp2
    go_loopw [8, 9] (fun a i wr => ∃ k m : Nat, k ≤ L ∧ i = .int .i64 (k : Int) ∧ a = .int .i64 (m : Int) ∧ m = min k R ∧ w1 = wr) (fun _ i _ => L - (intOf i).toNat)
    case atStart => exact ⟨0, 0, Nat.zero_le _, rfl, rfl, by omega, by first | rfl | trivial⟩
    case round =>
      obtain ⟨k, m, hk, rfl, rfl, hm, rfl⟩ := hrel
      by_cases hlt : k < L
      · obtain ⟨g, off, rfl, hc⟩ := HH.out (by omega)
        obtain ⟨d0, d1⟩ := hc k hlt
        have d0 := (HB1.out.cell (p := ⟨g, off + k * 2, none⟩) (blt d0)).trans d0
        have hri := HRI.out k hlt
        obtain ⟨kk, hkk⟩ : ∃ x, (t.getD k (0, 0)).1 = x := ⟨_, rfl⟩
        rw [hkk] at d0 hri
        clear hc hkk
        by_cases e : kk ≤ came
        · have hkR := hri.1 e
          clear hri
          go_wp2
          go_roundw
          case rel => exact ⟨k + 1, m + 1, by omega, by go_num, by go_num, by omega, by first | rfl | trivial⟩
          case measure => simp [intOf]; omega
        · have hkR : ¬ k < R := fun h => e (hri.2 h)
          clear hri
          go_wp2
          go_roundw
          case rel => exact ⟨k + 1, m, by omega, by go_num, rfl, by omega, by first | rfl | trivial⟩
          case measure => simp [intOf]; omega
      · obtain rfl : m = R := by omega
        go_wp2
        go_ret2
        exact ⟨rfl, HB1.out⟩
  · rw [decide_eq_false hd] at HR
    unfold readyV tabE
    rw [if_neg hd, if_neg hd]
    obtain ⟨p, cap, rfl⟩ := hv.shape
    clear hv hd
    go_enter Try.func11, Try.ntmps11
    go_wp2_with fail
    refine HR.out.mono ?_
    rintro e w1 ⟨rfl, hB1⟩
    have HB1 := Lib.hid hB1
    clear hB1
    go_wp2
    go_ret2
    exact ⟨rfl, HB1.out⟩
end -- LayI

end Go.Proofs.Ytanjchpkekehgaa
