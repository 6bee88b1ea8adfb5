/-
  Layer 10, walks: the reference's Long; Ready (the program's, the reference's).
-/
import Derived.Test.YtojbbmfndlcgkaaGreatMxbm
import Derived.Test.YtojbbmfndlcgkaaGreatMxay
namespace Go.Proofs.YtojbbmfndlcgkaaGreat
open Go.RowKit Go.Maps
set_option linter.unusedVariables false
set_option linter.unusedSimpArgs false
set_option maxRecDepth 100000
set_option maxHeartbeats 2000000

def longV (n : Int) (t : List (Int × Int)) : Int := if TableOk n t then ((atT t t.length : Nat) : Int) else 0
def readyV (n : Int) (t : List (Int × Int)) (came : Int) : Int := if TableOk n t then ((readyT t came : Nat) : Int) else 0
def tabE (n : Int) (t : List (Int × Int)) : Int := if TableOk n t then 0 else 2

theorem above1_any (w : World) (bx : Nat) (came kk ll : Int) (hb : w.cell? ⟨bx, 0, none⟩ = some (.int .i64 came)) :
    Calls Tryz.prog 35 #[.agg #[.int .i64 kk, .int .i64 ll], .pointer (some ⟨bx, 0, none⟩)] w fun e w' => e = .returned (.bool (decide (came < kk))) ∧ Below w.heap.size w w' := by
  have hB := balT w (.cells #[.int .i64 kk, .int .i64 ll] 46)
  have hb2 := (hB.cell (p := ⟨bx, 0, none⟩) (blt hb)).trans hb
  have HB := Lib.hid hB
  clear hB hb
  go_enter Tryz.func35, Tryz.ntmps35
  go_wp2
  go_ret
  exact ⟨rfl, HB.out⟩

def idxT (t : List (Int × Int)) (came : Int) : Int := if readyT t came < t.length then ((readyT t came : Nat) : Int) else -1
theorem indexT_any (w : World) (bx : Nat) (came : Int) (v : Value) (t : List (Int × Int)) (hb : w.cell? ⟨bx, 0, none⟩ = some (.int .i64 came)) (hv : TableAt w v t) (hlen : t.length ≤ 1000000000) :
    Calls Tryz.prog 36 #[v, .func (.func 35) #[] #[.pointer (some ⟨bx, 0, none⟩)]] w fun e w' => e = .returned (.int .i64 (idxT t came)) ∧ Below w.heap.size w w' := by
  obtain ⟨p, cap, rfl, hcap, hh⟩ := hv
  have HH := Lib.hid hh
  have HB0 := Lib.hid hb
  have HID := Lib.hid (show idxT t came = _ from rfl)
  obtain ⟨L, hL⟩ : ∃ L, t.length = L := ⟨_, rfl⟩
  have HL := Lib.hid hL
  rw [hL] at HH hcap hlen ⊢
  clear hh hb hL
  go_enter Tryz.func36, Tryz.ntmps36
  go_wp2
  go_loopw [5, 8] (fun _ i wr => ∃ k : Nat, k ≤ L ∧ i = .int .i64 (k : Int) ∧ (∀ j, j < k → (t.getD j (0, 0)).1 ≤ came) ∧ Below w.heap.size w wr) (fun _ i _ => L - (intOf i).toNat)
  case atStart => exact ⟨0, Nat.zero_le _, rfl, fun j h => absurd h (by omega), Below.refl _ _⟩
  case round =>
    obtain ⟨wo, rfl⟩ : ∃ wo, wo = wr := ⟨_, rfl⟩
    obtain ⟨k, hk, rfl, hno, hB⟩ := hrel
    have HN := Lib.hid hno
    have HB := Lib.hid hB
    clear hno
    by_cases hlt : k < L
    · obtain ⟨g, off, rfl, hc⟩ := HH.out (by omega)
      obtain ⟨d0, d1⟩ := hc k hlt
      have d0 := (hB.cell (p := ⟨g, off + k * 2, none⟩) (blt d0)).trans d0
      have d1 := (hB.cell (p := ⟨g, off + k * 2 + 1, none⟩) (blt d1)).trans d1
      have hbw := (hB.cell (p := ⟨bx, 0, none⟩) (blt HB0.out)).trans HB0.out
      obtain ⟨kk, hkk⟩ : ∃ x, (t.getD k (0, 0)).1 = x := ⟨_, rfl⟩
      obtain ⟨ll, hll⟩ : ∃ x, (t.getD k (0, 0)).2 = x := ⟨_, rfl⟩
      rw [hkk] at d0
      rw [hll] at d1
      have HR := Lib.hid (above1_any wo bx came kk ll hbw)
      have HKK := Lib.hid hkk
      clear hc hkk hll hB hbw
      by_cases e : came < kk
      · have e1 : decide (came < kk) = true := decide_eq_true e
        rw [e1] at HR
        have HE := Lib.hid (show idxT t came = (k : Int) from by
          have hr := readyT_unique (t := t) (came := came) (m := k) (by rw [HL.out]; omega) HN.out (fun _ => by rw [HKK.out]; exact e)
          unfold idxT
          rw [hr, if_pos (by rw [HL.out]; exact hlt)])
        clear e e1
        go_wp2_with fail
        refine HR.out.mono ?_
        rintro e w3 ⟨rfl, hB3⟩
        have HB3 := Lib.hid (below_more HB.out hB3 HB.out.size)
        clear hB3
        go_wp2
        go_ret
        exact ⟨by rw [HE.out]; rfl, HB3.out⟩
      · have e1 : decide (came < kk) = false := decide_eq_false e
        rw [e1] at HR
        have HE := Lib.hid (show (t.getD k (0, 0)).1 ≤ came by rw [HKK.out]; omega)
        clear e e1
        go_wp2_with fail
        refine HR.out.mono ?_
        rintro e w3 ⟨rfl, hB3⟩
        have HB3 := Lib.hid (below_more HB.out hB3 HB.out.size)
        clear hB3
        go_wp2
        go_roundw
        case rel =>
          refine ⟨k + 1, by omega, by go_num, fun j hj => ?_, HB3.out⟩
          by_cases q : j = k
          · subst q; exact HE.out
          · exact HN.out j (by omega)
        case measure => simp [intOf]; omega
    · obtain rfl : k = L := by omega
      have HE := Lib.hid (show idxT t came = -1 from by
        have hr := readyT_unique (t := t) (came := came) (m := k) (by rw [HL.out]; omega) HN.out (fun h => by rw [HL.out] at h; omega)
        unfold idxT
        rw [hr, if_neg (by rw [HL.out]; omega)])
      go_wp2
      go_ret
      exact ⟨by rw [HE.out]; rfl, HB.out⟩

theorem ready_any (w : World) (n came : Int) (v : Value) (t : List (Int × Int)) (hv : TableAt w v t) :
    Calls Tryz.prog 25 #[.int .i64 n, v, .int .i64 came] w fun e w' => e = .returned (.tuple #[.int .i64 (readyV n t came), .int .i64 (tabE n t)]) ∧ Below w.heap.size w w' := by
  have hB := balT w (.cells #[.int .i64 came] 3)
  have HR := Lib.hid (tright_any (w.alloc (.cells #[.int .i64 came] 3)) n v t (hv.below hB))
  have hb0 : (w.alloc (.cells #[.int .i64 came] 3)).cell? ⟨w.heap.size, 0, none⟩ = some (.int .i64 came) := World.cell?_alloc_new w _ _ 0
  have HC0 := Lib.hid hb0
  have HB := Lib.hid hB
  have HV := Lib.hid (hv.below hB)
  obtain ⟨p, cap, rfl⟩ := hv.shape
  clear hv hB hb0
  by_cases hd : TableOk n t
  · rw [decide_eq_true hd] at HR
    unfold readyV tabE
    rw [if_pos hd, if_pos hd]
    have hle := readyT_le t came
    have hl8 := hd.2.2.2.1
    have HIX := Lib.hid (fun w1 hb => indexT_any w1 w.heap.size came (.slice p t.length cap) t hb)
    by_cases hr : readyT t came < t.length
    · have hix : idxT t came = ((readyT t came : Nat) : Int) := by unfold idxT; rw [if_pos hr]
      rw [hix] at HIX
      obtain ⟨q, hq⟩ : ∃ q, readyT t came = q := ⟨_, rfl⟩
      rw [hq] at HIX hle ⊢
      clear hd hix hr hq
      go_enter Tryz.func25, Tryz.ntmps25
      go_wp2_with fail
      refine HR.out.mono ?_
      rintro e w1 ⟨rfl, hB1⟩
      have HB1 := Lib.hid (below_more HB.out hB1 HB.out.size)
      have HX1 := Lib.hid (HIX.out w1 ((hB1.cell (p := ⟨w.heap.size, 0, none⟩) (blt HC0.out)).trans HC0.out) (HV.out.below hB1) (by omega))
      clear hB1
      go_wp2_with fail
      refine HX1.out.mono ?_
      rintro e w2 ⟨rfl, hB2⟩
      have HB2 := Lib.hid (below_more HB1.out hB2 HB1.out.size)
      clear hB2
      go_wp2
      go_ret2
      exact ⟨rfl, HB2.out⟩
    · have hix : idxT t came = -1 := by unfold idxT; rw [if_neg hr]
      rw [hix] at HIX
      have hq : readyT t came = t.length := by omega
      rw [hq]
      clear hd hix hr hq hle
      go_enter Tryz.func25, Tryz.ntmps25
      go_wp2_with fail
      refine HR.out.mono ?_
      rintro e w1 ⟨rfl, hB1⟩
      have HB1 := Lib.hid (below_more HB.out hB1 HB.out.size)
      have HX1 := Lib.hid (HIX.out w1 ((hB1.cell (p := ⟨w.heap.size, 0, none⟩) (blt HC0.out)).trans HC0.out) (HV.out.below hB1) (by omega))
      clear hB1
      go_wp2_with fail
      refine HX1.out.mono ?_
      rintro e w2 ⟨rfl, hB2⟩
      have HB2 := Lib.hid (below_more HB1.out hB2 HB1.out.size)
      clear hB2
      go_wp2
      go_ret2
      exact ⟨rfl, HB2.out⟩
  · rw [decide_eq_false hd] at HR
    unfold readyV tabE
    rw [if_neg hd, if_neg hd]
    clear hd
    go_enter Tryz.func25, Tryz.ntmps25
    go_wp2_with fail
    refine HR.out.mono ?_
    rintro e w1 ⟨rfl, hB1⟩
    have HB1 := Lib.hid (below_more HB.out hB1 HB.out.size)
    clear hB1
    go_wp2
    go_ret2
    exact ⟨rfl, HB1.out⟩

end Go.Proofs.YtojbbmfndlcgkaaGreat
