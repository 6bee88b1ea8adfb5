/-
  LayI: Layer 10, walks: the reference's Long; Ready (the program's, the reference's).
  StepZ: A region that draws its order, step by step, where something (S) holds of each world ahead of its last operation, which alone may break it.
  StepR: A region that draws its order, within a round of a loop over an iterator: it is walked as one outside (StepQ, StepZ).
-/
import Derived.Test.YtanjchpkekehgaaGreatMxba
import Derived.Test.YtanjchpkekehgaaGreatMxar
import Derived.Test.YtanjchpkekehgaaGreatMxap
import Derived.StillTail
import Derived.RangeFuncCalls
import Derived.OrdersIn
namespace Go.Proofs.YtanjchpkekehgaaGreat

section -- LayI
open Go.RowKit Go.Maps
set_option linter.unusedVariables false
set_option linter.unusedSimpArgs false
set_option maxRecDepth 100000
set_option maxHeartbeats 2000000

def longV (n : Int) (t : List (Int × Int)) : Int := if TableOk n t then ((atT t t.length : Nat) : Int) else 0
def readyV (n : Int) (t : List (Int × Int)) (came : Int) : Int := if TableOk n t then ((readyT t came : Nat) : Int) else 0
def tabE (n : Int) (t : List (Int × Int)) : Int := if TableOk n t then 0 else 2

theorem rlong_any (w : World) (n : Int) (v : Value) (t : List (Int × Int)) (hv : TableAt w v t) :
    Calls Tryz.prog 24 #[.int .i64 n, v] w fun e w' => e = .returned (.tuple #[.int .i64 (longV n t), .int .i64 (tabE n t)]) ∧ Below w.heap.size w w' := by
  have HR := Lib.hid (rtright_any w n v t hv)
  by_cases hd : TableOk n t
  · rw [decide_eq_true hd] at HR
    unfold longV tabE
    rw [if_pos hd, if_pos hd]
    obtain ⟨hn1, hn2, hl1, hl2, hok⟩ := hd
    obtain ⟨p, cap, rfl, hcap, hh⟩ := hv
    have HH := Lib.hid hh
    have HOK := Lib.hid hok
    obtain ⟨L, hL⟩ : ∃ L, t.length = L := ⟨_, rfl⟩
    have HL := Lib.hid hL
    rw [hL] at HH HOK hcap HR hl1 hl2 ⊢
    clear hh hok hL
    go_enter Tryz.func24, Tryz.ntmps24
    go_wp2_with fail
    refine HR.out.mono ?_
    rintro e w1 ⟨rfl, hB1⟩
    have HB1 := Lib.hid hB1
    clear hB1
    go_wp2
    go_loopw [6, 7] (fun a i wr => ∃ k : Nat, k ≤ L ∧ i = .int .i64 (k : Int) ∧ a = .int .i64 ((atT t k : Nat) : Int) ∧ Below w.heap.size w wr) (fun _ i _ => L - (intOf i).toNat)
    case atStart => exact ⟨0, Nat.zero_le _, rfl, by rw [atT_zero]; rfl, HB1.out⟩
    case round =>
      obtain ⟨wo, rfl⟩ : ∃ wo, wo = wr := ⟨_, rfl⟩
      obtain ⟨k, hk, rfl, rfl, hB⟩ := hrel
      have HB := Lib.hid hB
      by_cases hlt : k < L
      · obtain ⟨g, off, rfl, hc⟩ := HH.out (by omega)
        obtain ⟨d0, d1⟩ := hc k hlt
        have d0 := (hB.cell (p := ⟨g, off + k * 2, none⟩) (blt d0)).trans d0
        have d1 := (hB.cell (p := ⟨g, off + k * 2 + 1, none⟩) (blt d1)).trans d1
        have hlk : k < t.length := by rw [HL.out]; exact hlt
        have hokL : RowsOk n t t.length := by rw [HL.out]; exact HOK.out
        have hrow := hokL k hlk
        have hge := (hokL.ge k hlk).1
        have hlow2 := atT_low hokL (i := k + 1) (by omega)
        have hsu := atT_succ (t := t) (i := k) hlk
        have HAT := Lib.hid hsu
        rw [hsu] at hlow2
        obtain ⟨r, hr⟩ : ∃ r, t.getD k (0, 0) = r := ⟨_, rfl⟩
        rw [hr] at d0 d1 hrow hge hlow2 HAT
        have HWD := Lib.hid (fun W => rwidth_any W r n hge (by have := hrow.2.1; omega) hrow.2.2.1 hrow.2.2.2)
        obtain ⟨kk, ll⟩ := r
        dsimp only at d0 d1 HWD
        obtain ⟨ww, hww⟩ : ∃ x, wdT (kk, ll) = x := ⟨_, rfl⟩
        obtain ⟨aa, haa⟩ : ∃ x, atT t k = x := ⟨_, rfl⟩
        rw [hww] at HWD HAT hlow2
        rw [haa] at HAT hlow2 ⊢
        clear hc hrow hr hB hsu hww haa hokL hge
        go_wp2_with fail
        refine (HWD.out _).mono ?_
        rintro e w3 ⟨rfl, hB3⟩
        have HB3 := Lib.hid (below_more HB.out hB3 HB.out.size)
        clear hB3
        go_wp2
        go_roundw
        case rel => exact ⟨k + 1, by omega, by go_num, by rw [HAT.out]; go_num, HB3.out⟩
        case measure => simp [intOf]; omega
      · obtain rfl : k = L := by omega
        go_wp2
        go_ret2
        exact ⟨rfl, HB.out⟩
  · rw [decide_eq_false hd] at HR
    unfold longV tabE
    rw [if_neg hd, if_neg hd]
    obtain ⟨p, cap, rfl⟩ := hv.shape
    clear hv hd
    go_enter Tryz.func24, Tryz.ntmps24
    go_wp2_with fail
    refine HR.out.mono ?_
    rintro e w1 ⟨rfl, hB1⟩
    have HB1 := Lib.hid hB1
    clear hB1
    go_wp2
    go_ret2
    exact ⟨rfl, HB1.out⟩

theorem above1_any (w : World) (bx : Nat) (came kk ll : Int) (hb : w.cell? ⟨bx, 0, none⟩ = some (.int .i64 came)) :
    Calls Tryz.prog 56 #[.agg #[.int .i64 kk, .int .i64 ll], .pointer (some ⟨bx, 0, none⟩)] w fun e w' => e = .returned (.bool (decide (came < kk))) ∧ Below w.heap.size w w' := by
  have hB := balT w (.cells #[.int .i64 kk, .int .i64 ll] 48)
  have hb2 := (hB.cell (p := ⟨bx, 0, none⟩) (blt hb)).trans hb
  have HB := Lib.hid hB
  clear hB hb
  go_enter Tryz.func56, Tryz.ntmps56
  go_wp2
  go_ret
  exact ⟨rfl, HB.out⟩

def idxT (t : List (Int × Int)) (came : Int) : Int := if readyT t came < t.length then ((readyT t came : Nat) : Int) else -1
theorem indexT_any (w : World) (bx : Nat) (came : Int) (v : Value) (t : List (Int × Int)) (hb : w.cell? ⟨bx, 0, none⟩ = some (.int .i64 came)) (hv : TableAt w v t) (hlen : t.length ≤ 1000000000) :
    Calls Tryz.prog 57 #[v, .func (.func 56) #[] #[.pointer (some ⟨bx, 0, none⟩)]] w fun e w' => e = .returned (.int .i64 (idxT t came)) ∧ Below w.heap.size w w' := by
  obtain ⟨p, cap, rfl, hcap, hh⟩ := hv
  have HH := Lib.hid hh
  have HB0 := Lib.hid hb
  have HID := Lib.hid (show idxT t came = _ from rfl)
  obtain ⟨L, hL⟩ : ∃ L, t.length = L := ⟨_, rfl⟩
  have HL := Lib.hid hL
  rw [hL] at HH hcap hlen ⊢
  clear hh hb hL
  go_enter Tryz.func57, Tryz.ntmps57
  go_wp2
  go_loopw [5, 8] (fun _ i wr => ∃ k : Nat, k ≤ L ∧ i = .int .i64 (k : Int) ∧ (∀ j, j < k → (t.getD j (0, 0)).1 ≤ came) ∧ Below w.heap.size w wr) (fun _ i _ => L - (intOf i).toNat)
  case atStart => exact ⟨0, Nat.zero_le _, rfl, fun j h => absurd h (by omega), Below.refl _ _⟩
  case round =>
    obtain ⟨wo, rfl⟩ : ∃ wo, wo = wr := ⟨_, rfl⟩
    obtain ⟨k, hk, rfl, hno, hB⟩ := hrel
    have HN := Lib.hid hno
    have HB := Lib.hid hB
    clear hno
    by_cases hlt : k < L
    · obtain ⟨g, off, rfl, hc⟩ := HH.out (by omega)
      obtain ⟨d0, d1⟩ := hc k hlt
      have d0 := (hB.cell (p := ⟨g, off + k * 2, none⟩) (blt d0)).trans d0
      have d1 := (hB.cell (p := ⟨g, off + k * 2 + 1, none⟩) (blt d1)).trans d1
      have hbw := (hB.cell (p := ⟨bx, 0, none⟩) (blt HB0.out)).trans HB0.out
      obtain ⟨kk, hkk⟩ : ∃ x, (t.getD k (0, 0)).1 = x := ⟨_, rfl⟩
      obtain ⟨ll, hll⟩ : ∃ x, (t.getD k (0, 0)).2 = x := ⟨_, rfl⟩
      rw [hkk] at d0
      rw [hll] at d1
      have HR := Lib.hid (above1_any wo bx came kk ll hbw)
      have HKK := Lib.hid hkk
      clear hc hkk hll hB hbw
      by_cases e : came < kk
      · have e1 : decide (came < kk) = true := decide_eq_true e
        rw [e1] at HR
        have HE := Lib.hid (show idxT t came = (k : Int) from by
          have hr := readyT_unique (t := t) (came := came) (m := k) (by rw [HL.out]; omega) HN.out (fun _ => by rw [HKK.out]; exact e)
          unfold idxT
          rw [hr, if_pos (by rw [HL.out]; exact hlt)])
        clear e e1
        go_wp2_with fail
        refine HR.out.mono ?_
        rintro e w3 ⟨rfl, hB3⟩
        have HB3 := Lib.hid (below_more HB.out hB3 HB.out.size)
        clear hB3
        go_wp2
        go_ret
        exact ⟨by rw [HE.out]; rfl, HB3.out⟩
      · have e1 : decide (came < kk) = false := decide_eq_false e
        rw [e1] at HR
        have HE := Lib.hid (show (t.getD k (0, 0)).1 ≤ came by rw [HKK.out]; omega)
        clear e e1
        go_wp2_with fail
        refine HR.out.mono ?_
        rintro e w3 ⟨rfl, hB3⟩
        have HB3 := Lib.hid (below_more HB.out hB3 HB.out.size)
        clear hB3
        go_wp2
        go_roundw
        case rel =>
          refine ⟨k + 1, by omega, by go_num, fun j hj => ?_, HB3.out⟩
          by_cases q : j = k
          · subst q; exact HE.out
          · exact HN.out j (by omega)
        case measure => simp [intOf]; omega
    · obtain rfl : k = L := by omega
      have HE := Lib.hid (show idxT t came = -1 from by
        have hr := readyT_unique (t := t) (came := came) (m := k) (by rw [HL.out]; omega) HN.out (fun h => by rw [HL.out] at h; omega)
        unfold idxT
        rw [hr, if_neg (by rw [HL.out]; omega)])
      go_wp2
      go_ret
      exact ⟨by rw [HE.out]; rfl, HB.out⟩

theorem ready_any (w : World) (n came : Int) (v : Value) (t : List (Int × Int)) (hv : TableAt w v t) :
    Calls Tryz.prog 39 #[.int .i64 n, v, .int .i64 came] w fun e w' => e = .returned (.tuple #[.int .i64 (readyV n t came), .int .i64 (tabE n t)]) ∧ Below w.heap.size w w' := by
  have hB := balT w (.cells #[.int .i64 came] 3)
  have HR := Lib.hid (tright_any (w.alloc (.cells #[.int .i64 came] 3)) n v t (hv.below hB))
  have hb0 : (w.alloc (.cells #[.int .i64 came] 3)).cell? ⟨w.heap.size, 0, none⟩ = some (.int .i64 came) := World.cell?_alloc_new w _ _ 0
  have HC0 := Lib.hid hb0
  have HB := Lib.hid hB
  have HV := Lib.hid (hv.below hB)
  obtain ⟨p, cap, rfl⟩ := hv.shape
  clear hv hB hb0
  by_cases hd : TableOk n t
  · rw [decide_eq_true hd] at HR
    unfold readyV tabE
    rw [if_pos hd, if_pos hd]
    have hle := readyT_le t came
    have hl8 := hd.2.2.2.1
    have HIX := Lib.hid (fun w1 hb => indexT_any w1 w.heap.size came (.slice p t.length cap) t hb)
    by_cases hr : readyT t came < t.length
    · have hix : idxT t came = ((readyT t came : Nat) : Int) := by unfold idxT; rw [if_pos hr]
      rw [hix] at HIX
      obtain ⟨q, hq⟩ : ∃ q, readyT t came = q := ⟨_, rfl⟩
      rw [hq] at HIX hle ⊢
      clear hd hix hr hq
      go_enter Tryz.func39, Tryz.ntmps39
      go_wp2_with fail
      refine HR.out.mono ?_
      rintro e w1 ⟨rfl, hB1⟩
      have HB1 := Lib.hid (below_more HB.out hB1 HB.out.size)
      have HX1 := Lib.hid (HIX.out w1 ((hB1.cell (p := ⟨w.heap.size, 0, none⟩) (blt HC0.out)).trans HC0.out) (HV.out.below hB1) (by omega))
      clear hB1
      go_wp2_with fail
      refine HX1.out.mono ?_
      rintro e w2 ⟨rfl, hB2⟩
      have HB2 := Lib.hid (below_more HB1.out hB2 HB1.out.size)
      clear hB2
      go_wp2
      go_ret2
      exact ⟨rfl, HB2.out⟩
    · have hix : idxT t came = -1 := by unfold idxT; rw [if_neg hr]
      rw [hix] at HIX
      have hq : readyT t came = t.length := by omega
      rw [hq]
      clear hd hix hr hq hle
      go_enter Tryz.func39, Tryz.ntmps39
      go_wp2_with fail
      refine HR.out.mono ?_
      rintro e w1 ⟨rfl, hB1⟩
      have HB1 := Lib.hid (below_more HB.out hB1 HB.out.size)
      have HX1 := Lib.hid (HIX.out w1 ((hB1.cell (p := ⟨w.heap.size, 0, none⟩) (blt HC0.out)).trans HC0.out) (HV.out.below hB1) (by omega))
      clear hB1
      go_wp2_with fail
      refine HX1.out.mono ?_
      rintro e w2 ⟨rfl, hB2⟩
      have HB2 := Lib.hid (below_more HB1.out hB2 HB1.out.size)
      clear hB2
      go_wp2
      go_ret2
      exact ⟨rfl, HB2.out⟩
  · rw [decide_eq_false hd] at HR
    unfold readyV tabE
    rw [if_neg hd, if_neg hd]
    clear hd
    go_enter Tryz.func39, Tryz.ntmps39
    go_wp2_with fail
    refine HR.out.mono ?_
    rintro e w1 ⟨rfl, hB1⟩
    have HB1 := Lib.hid (below_more HB.out hB1 HB.out.size)
    clear hB1
    go_wp2
    go_ret2
    exact ⟨rfl, HB1.out⟩

theorem rready_any (w : World) (n came : Int) (v : Value) (t : List (Int × Int)) (hv : TableAt w v t) :
    Calls Tryz.prog 42 #[.int .i64 n, v, .int .i64 came] w fun e w' => e = .returned (.tuple #[.int .i64 (readyV n t came), .int .i64 (tabE n t)]) ∧ Below w.heap.size w w' := by
  have HR := Lib.hid (rtright_any w n v t hv)
  by_cases hd : TableOk n t
  · rw [decide_eq_true hd] at HR
    unfold readyV tabE
    rw [if_pos hd, if_pos hd]
    have HRI := Lib.hid (fun (i : Nat) (hi : i < t.length) => readyT_iff hd.2.2.2.2 came hi)
    have hle := readyT_le t came
    have hl8 := hd.2.2.2.1
    obtain ⟨p, cap, rfl, hcap, hh⟩ := hv
    have HH := Lib.hid hh
    obtain ⟨L, hL⟩ : ∃ L, t.length = L := ⟨_, rfl⟩
    obtain ⟨R, hR⟩ : ∃ R, readyT t came = R := ⟨_, rfl⟩
    rw [hL] at HH hcap HR HRI hle hl8 ⊢
    rw [hR] at HRI hle ⊢
    clear hh hL hR hd
    go_enter Tryz.func42, Tryz.ntmps42
    go_wp2_with fail
    refine HR.out.mono ?_
    rintro e w1 ⟨rfl, hB1⟩
    have HB1 := Lib.hid hB1
    clear hB1
    go_wp2
    go_loopw [8, 9] (fun a i wr => ∃ k m : Nat, k ≤ L ∧ i = .int .i64 (k : Int) ∧ a = .int .i64 (m : Int) ∧ m = min k R ∧ w1 = wr) (fun _ i _ => L - (intOf i).toNat)
    case atStart => exact ⟨0, 0, Nat.zero_le _, rfl, rfl, by omega, by first | rfl | trivial⟩
    case round =>
      obtain ⟨k, m, hk, rfl, rfl, hm, rfl⟩ := hrel
      by_cases hlt : k < L
      · obtain ⟨g, off, rfl, hc⟩ := HH.out (by omega)
        obtain ⟨d0, d1⟩ := hc k hlt
        have d0 := (HB1.out.cell (p := ⟨g, off + k * 2, none⟩) (blt d0)).trans d0
        have hri := HRI.out k hlt
        obtain ⟨kk, hkk⟩ : ∃ x, (t.getD k (0, 0)).1 = x := ⟨_, rfl⟩
        rw [hkk] at d0 hri
        clear hc hkk
        by_cases e : kk ≤ came
        · have hkR := hri.1 e
          clear hri
          go_wp2
          go_roundw
          case rel => exact ⟨k + 1, m + 1, by omega, by go_num, by go_num, by omega, by first | rfl | trivial⟩
          case measure => simp [intOf]; omega
        · have hkR : ¬ k < R := fun h => e (hri.2 h)
          clear hri
          go_wp2
          go_roundw
          case rel => exact ⟨k + 1, m, by omega, by go_num, rfl, by omega, by first | rfl | trivial⟩
          case measure => simp [intOf]; omega
      · obtain rfl : m = R := by omega
        go_wp2
        go_ret2
        exact ⟨rfl, HB1.out⟩
  · rw [decide_eq_false hd] at HR
    unfold readyV tabE
    rw [if_neg hd, if_neg hd]
    obtain ⟨p, cap, rfl⟩ := hv.shape
    clear hv hd
    go_enter Tryz.func42, Tryz.ntmps42
    go_wp2_with fail
    refine HR.out.mono ?_
    rintro e w1 ⟨rfl, hB1⟩
    have HB1 := Lib.hid hB1
    clear hB1
    go_wp2
    go_ret2
    exact ⟨rfl, HB1.out⟩
end -- LayI

section -- StepZ
open Go.RowKit Go.Maps
set_option linter.unusedVariables false

section
variable {P : Program} {ops : Array Oper} {Q : Exit → Act → World → Prop} {md : Region.Mode} {S : World → Prop} {z : Nat}

/-- Whatever order is picked from here on: S holds behind each operation, number z alone being free. -/
def wpAnyE (P : Program) (md : Region.Mode) (ops : Array Oper) (Q : Exit → Act → World → Prop) (S : World → Prop) (z : Nat) : Nat → Array Bool → Act → World → Prop
  | 0, listed, a, w => Region.ready md ops listed = [] ∧ Q .normal a w
  | f + 1, listed, a, w => (Region.ready md ops listed = [] → Q .normal a w) ∧
    ∀ i ∈ Region.ready md ops listed, wpOp P ops Q i (fun a' w' => (i ≠ z → S w') ∧ wpAnyE P md ops Q S z f (listed.setIfInBounds i true) a' w') a w

theorem wpAny_of_E : ∀ (f : Nat) (listed : Array Bool) (a : Act) (w : World), wpAnyE P md ops Q S z f listed a w → wpAny P md ops Q f listed a w
  | 0, _, _, _, h => h
  | f + 1, _, _, _, h => ⟨h.1, fun i hi => wpOp_mono (fun a' w' h' => wpAny_of_E f _ a' w' h'.2) (h.2 i hi)⟩

/-- Number z waits for number k. -/
def lastB (md : Region.Mode) (ops : Array Oper) (z k : Nat) : Bool := k == z || match ops[z]? with
  | some o => o.after.any fun e => Region.binds md e && e.on == k
  | none => false
theorem lastB_spec {i : Nat} (h : lastB md ops z i = true) {listed : Array Bool} (hz : z ∈ Region.ready md ops listed) (hi : i ∈ Region.ready md ops listed) : i = z := by
  obtain ⟨hiun, oi, hoi, _⟩ := mem_ready.1 hi
  obtain ⟨_, oz, hoz, hall⟩ := mem_ready.1 hz
  have h1 := h
  unfold lastB at h1
  rw [hoz] at h1
  by_cases e : i = z
  · exact e
  · simp only [Bool.or_eq_true, beq_iff_eq, e, false_or] at h1
    obtain ⟨x, hx, hb⟩ := Array.any_eq_true'.1 h1
    simp only [Bool.and_eq_true, beq_iff_eq] at hb
    have h2 := hall x hx hb.1
    rw [hb.2, getD_both hiun] at h2
    cases h2

theorem wpAnyE_first {i : Nat} {oi : Oper} {v : Value} (hi : ops[i]? = some oi) (hsel : ∀ (j : Nat) (o : Oper) cs b, ops[j]? = some o → o.op ≠ .select cs b)
    (hQ : ∀ c a w, Q (.panic c) (a.put oi.dst v) w → Q (.panic c) a w) (hl : lastB md ops z i = true) :
    ∀ (f : Nat) (listed : Array Bool) (a : Act) (w : World),
      (∀ j oj, ops[j]? = some oj → j ≠ i → listed.getD j true = false → (∀ e ∈ oj.after, Region.binds md e = true → e.on ≠ i) → oi.apart ops oj = true) →
      i ∈ Region.ready md ops listed → YieldsIf P ops S oi v a → S w →
      wpAnyE P md ops Q S z f (listed.setIfInBounds i true) (a.put oi.dst v) w → wpAnyE P md ops Q S z (f + 1) listed a w := by
  intro f
  induction f with
  | zero =>
    intro listed a w _ hr hy hS H
    refine ⟨fun h => (by rw [h] at hr; cases hr), fun j hj => ?_⟩
    by_cases hji : j = i
    · subst hji; exact hy.wpOp hi hS ⟨fun _ => hS, H⟩
    · have := ready_mono hj hji
      rw [H.1] at this
      cases this
  | succ f ih =>
    intro listed a w hfree hr hy hS H
    refine ⟨fun h => (by rw [h] at hr; cases hr), fun j hj => ?_⟩
    by_cases hji : j = i
    · subst hji; exact hy.wpOp hi hS ⟨fun _ => hS, H⟩
    · have hjz : j ≠ z := fun e => hji (by subst e; exact (lastB_spec hl hj hr).symm)
      have h1 := H.2 j (ready_mono hj hji)
      obtain ⟨hjun, oj, hoj, hall⟩ := mem_ready.1 hj
      have hnot : ∀ e ∈ oj.after, Region.binds md e = true → e.on ≠ i := fun e he hb heq => by
        have h2 := hall e he hb
        rw [heq, getD_both (mem_ready.1 hr).1] at h2
        cases h2
      have h2 := wpOp_putIf hoj (hfree j oj hoj hji hjun hnot) (fun cs b => hsel i oi cs b hi) (fun cs b => hsel j oj cs b hoj) hQ hy h1
      have hfree' : ∀ k ok, ops[k]? = some ok → k ≠ i → (listed.setIfInBounds j true).getD k true = false →
          (∀ e ∈ ok.after, Region.binds md e = true → e.on ≠ i) → oi.apart ops ok = true := fun k ok hk hki hun hno => by
        refine hfree k ok hk hki ?_ hno
        by_cases hjk : j = k
        · subst hjk; exact hjun
        · rw [Go.getD_set_ne true hjk] at hun; exact hun
      refine wpOp_mono (fun a' w' h3 => ⟨h3.2.1, ih (listed.setIfInBounds j true) a' w' hfree' (ready_mono hr (Ne.symm hji)) h3.1 (h3.2.1 hjz) ?_⟩) h2
      rw [Array.setIfInBounds_comm _ _ hji]
      exact h3.2.2
end

section
variable {P : Program} {ops : Array Oper} {Q : Exit → Act → World → Prop} {fuel : Nat} {listed : Array Bool} {a : Act} {w : World} {S : World → Prop} {z : Nat}
/-- Those that may come up. -/
def AllReadyE (P : Program) (ops : Array Oper) (Q : Exit → Act → World → Prop) (S : World → Prop) (z : Nat) (fuel : Nat) (listed : Array Bool) (a : Act) (w : World) (rs : List Nat) : Prop :=
  ∀ i ∈ rs, wpOp P ops Q i (fun a' w' => (i ≠ z → S w') ∧ wpAnyE P .any ops Q S z fuel (listed.setIfInBounds i true) a' w') a w
theorem AllReadyE.nil : AllReadyE P ops Q S z fuel listed a w [] := fun _ h => by cases h
theorem z_start {id : Nat} (n : Nat) (S : World → Prop) (z : Nat) (hn : ops.size = n) (hm : P.follows .mixedOrders = true) (h : wpAnyE P .any ops (NoPanic Q) S z n (Array.replicate n false) a w.drew) : (Code.region id ops true).wp P Q a w :=
  wp_region_noPanic (wp_region_any hm (wpAny_of_E (S := S) (z := z) _ _ _ _ (by rw [hn]; exact h)))
theorem z_take (i : Nat) (hs : Region.noSelect ops = true) (hl : lastB .any ops z i = true) (hf : Region.free .any ops listed i = true) (hr : (Region.ready .any ops listed).contains i = true) (hi : (ops[i]?).isSome = true) (hS : S w)
    (H : ∀ oi, ops[i]? = some oi → ∃ v, YieldsIf P ops S oi v a ∧ wpAnyE P .any ops (NoPanic Q) S z fuel (listed.setIfInBounds i true) (a.put oi.dst v) w) : wpAnyE P .any ops (NoPanic Q) S z (fuel + 1) listed a w := by
  obtain ⟨oi, ho⟩ := Option.isSome_iff_exists.1 hi
  obtain ⟨v, hy, h⟩ := H oi ho
  exact wpAnyE_first ho (Region.noSelect_spec hs) (fun _ _ _ h => h) hl fuel listed a w (Region.free_spec ho hf) (by simpa using hr) hy hS h
theorem z_all {rs : List Nat} (hr : Region.ready .any ops listed = rs) (hne : rs ≠ []) (h : AllReadyE P ops (NoPanic Q) S z fuel listed a w rs) : wpAnyE P .any ops (NoPanic Q) S z (fuel + 1) listed a w :=
  ⟨fun h0 => absurd (hr ▸ h0) hne, hr ▸ h⟩
theorem z_step (i : Nat) {rs : List Nat} (hi : (ops[i]?).isSome = true)
    (H : ∀ o, ops[i]? = some o → ∀ K : Act → World → Prop, Shut (∀ a w, S w → wpAnyE P .any ops (NoPanic Q) S z fuel (listed.setIfInBounds i true) a w → K a w) → if Region.wanted o (yielded ops a.tmps) = true then Oper.wp P o a w K (NoPanic Q) else K (a.put o.dst undef) w)
    (hs : AllReadyE P ops (NoPanic Q) S z fuel listed a w rs) : AllReadyE P ops (NoPanic Q) S z fuel listed a w (i :: rs) := fun j hj => by
  rcases List.mem_cons.1 hj with rfl | hj
  · obtain ⟨o, ho⟩ := Option.isSome_iff_exists.1 hi
    exact wpOp_step ho (fun K' hK => H o ho K' (fun a w hS hW => hK a w ⟨fun _ => hS, hW⟩))
  · exact hs j hj
/-- The last one: S may break. -/
theorem z_last (hi : (ops[z]?).isSome = true)
    (H : ∀ o, ops[z]? = some o → ∀ K : Act → World → Prop, Shut (∀ a w, wpAnyE P .any ops (NoPanic Q) S z fuel (listed.setIfInBounds z true) a w → K a w) → if Region.wanted o (yielded ops a.tmps) = true then Oper.wp P o a w K (NoPanic Q) else K (a.put o.dst undef) w) :
    AllReadyE P ops (NoPanic Q) S z fuel listed a w [z] := fun j hj => by
  rw [List.mem_singleton] at hj
  subst hj
  obtain ⟨o, ho⟩ := Option.isSome_iff_exists.1 hi
  exact wpOp_step ho (fun K' hK => H o ho K' (fun a w hW => hK a w ⟨fun h => absurd rfl h, hW⟩))
theorem z_done (hr : Region.ready .any ops listed = []) (h : Q .normal a w) : wpAnyE P .any ops (NoPanic Q) S z fuel listed a w := by
  cases fuel with
  | zero => exact ⟨hr, NoPanic.normal h⟩
  | succ f => exact ⟨fun _ => NoPanic.normal h, by rw [hr]; simp⟩
end
end -- StepZ

section -- StepR
open Go.RowKit Go.Maps
set_option linter.unusedVariables false

section
variable {P : Program} {Q : Exit → Act → World → Prop} {l n : Nat}
theorem uponIn_of_upon {o : Oper} {a : Act} {next : Act → World → Prop} {r : Result Next} (h : o.upon P a next Q r) : o.uponIn (Fence.wide.inRound l) n P a next Q r := by
  cases r with
  | ok x w' =>
    cases x <;> simp only [Oper.upon, Oper.uponIn] at h ⊢ <;> first | exact h | skip
    case enter f args => exact ⟨fun h => (by cases h), CallsIn.inRound l (callsIn_wide.2 h)⟩
    case row row args => exact ⟨fun h => (by cases h), fun c cs _ => let ⟨v, w2, r, s⟩ := h c cs; ⟨v, w2, r, stepsIn_wide.2 s⟩⟩
  | halt x w' => cases x <;> simp only [Oper.upon, Oper.uponIn] at h ⊢ <;> exact h
/-- No operation defers a call. -/
def noDefer (ops : Array Oper) : Bool := ops.all fun o => match o.op with | .defer _ => false | _ => true
theorem noDefer_at {ops : Array Oper} (h : noDefer ops = true) {i : Nat} {o : Oper} (hi : ops[i]? = some o) : ∀ c, o.op ≠ .defer c := fun c e => by
  obtain ⟨hl, e2⟩ := Array.getElem?_eq_some_iff.1 hi
  have := (Array.all_eq_true.1 h) i hl
  rw [e2, e] at this
  cases this
theorem wpIn_of_wp {o : Oper} {a : Act} {w : World} {next : Act → World → Prop} (hd : ∀ c, o.op ≠ .defer c) (h : o.wp P a w next Q) : o.wpIn (Fence.wide.inRound l) n P a w next Q := by
  refine ⟨fun f _ => trivial, ?_⟩
  rw [Oper.semAt_eq _ _ _ hd]
  exact uponIn_of_upon h
theorem wpOpIn_of_wpOp {ops : Array Oper} (hL : ¬ LetsOut Q) (hd : noDefer ops = true) {i : Nat} {a : Act} {w : World} {K : Act → World → Prop} (h : wpOp P ops Q i K a w) : wpOpIn (Fence.wide.inRound l) n P ops Q i K a w := by
  unfold wpOp at h
  unfold wpOpIn
  cases ho : ops[i]? with
  | none => rw [ho] at h; exact h
  | some o =>
    rw [ho] at h
    simp only at h ⊢
    split
    · rename_i hw
      rw [if_pos hw] at h
      exact wpIn_of_wp (noDefer_at hd ho) (h.elim id (fun h => absurd h.2 hL))
    · rename_i hw
      rw [if_neg hw] at h
      exact ⟨fun f _ => trivial, h⟩
theorem wpAnyIn_of_wpAny {ops : Array Oper} {md : Region.Mode} (hL : ¬ LetsOut Q) (hd : noDefer ops = true) : ∀ (fuel : Nat) (listed : Array Bool) (a : Act) (w : World), wpAny P md ops Q fuel listed a w → wpAnyIn (Fence.wide.inRound l) n P md ops Q fuel listed a w
  | 0, _, _, _, h => h
  | f + 1, _, _, _, h => ⟨h.1, fun i hi => wpOpIn_mono (fun a' w' h' => wpAnyIn_of_wpAny hL hd f _ a' w' h') (wpOpIn_of_wpOp hL hd (h.2 i hi))⟩
/-- Nothing but going on. -/
def Only (Q : Exit → Act → World → Prop) : Exit → Act → World → Prop
  | .normal, a, w => Q .normal a w
  | _, _, _ => False
theorem Only.imp : ∀ (e : Exit) (a : Act) (w : World), NoPanic (Only Q) e a w → Q e a w := fun e a w h => by
  cases e <;> first | exact h | exact (h : False).elim
theorem Only.shut : ¬ LetsOut (NoPanic (Only Q)) := fun ⟨_, _, h⟩ => (h : False)
/-- Begin, within a round. -/
theorem sr_start {ops : Array Oper} {a : Act} {w : World} {id : Nat} (k : Nat) (S : World → Prop) (hn : ops.size = k) (hm : P.follows .mixedOrders = true) (hd : noDefer ops = true) (hS : S w.drew) (h : wpAnyH P .any ops (NoPanic (Only Q)) S k (Array.replicate k false) a w.drew) : (Code.region id ops true).wpIn (Fence.wide.inRound l) n P Q a w :=
  Code.wpIn_mono Only.imp (wpIn_region_any hm (wpAnyIn_of_wpAny Only.shut hd _ _ _ _ (wpAny_of_held (S := S) _ _ _ _ (by rw [hn]; exact h))))
theorem zr_start {ops : Array Oper} {a : Act} {w : World} {id : Nat} (k : Nat) (S : World → Prop) (z : Nat) (hn : ops.size = k) (hm : P.follows .mixedOrders = true) (hd : noDefer ops = true) (h : wpAnyE P .any ops (NoPanic (Only Q)) S z k (Array.replicate k false) a w.drew) : (Code.region id ops true).wpIn (Fence.wide.inRound l) n P Q a w :=
  Code.wpIn_mono Only.imp (wpIn_region_any hm (wpAnyIn_of_wpAny Only.shut hd _ _ _ _ (wpAny_of_E (S := S) (z := z) _ _ _ _ (by rw [hn]; exact h))))
end
end -- StepR

end Go.Proofs.YtanjchpkekehgaaGreat
