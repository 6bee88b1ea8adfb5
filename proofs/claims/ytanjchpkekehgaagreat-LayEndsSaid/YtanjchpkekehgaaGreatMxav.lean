/-
  RefE: Walks of the reference, layer 2 (poly): product.
  RefF: Walks of the reference, layer 2 (poly): Through.
-/
import Derived.Test.YtanjchpkekehgaaGreatMxau
namespace Go.Proofs.YtanjchpkekehgaaGreat

section -- RefE
open Go.RowKit Go.Maps
set_option linter.unusedVariables false
set_option maxRecDepth 100000
set_option maxHeartbeats 2000000

theorem belowDr {B : Nat} {a w : World} (h : Below B a w) (n : Nat) : Below B a (w.drewN n) := ⟨h.os, h.tape, h.output, h.size, h.block⟩

theorem rprod_any (w : World) (va vb : Value) (p q : List B) (n : Nat) (hp : BytesAt w va p) (hq : BytesAt w vb q) (hpn : p.length + q.length ≤ n) (hn : n ≤ 1000000) :
    Calls Tryz.prog 113 #[va, vb] w fun e w' => ∃ v', e = .returned v' ∧ PolyAt w' w.heap.size n (fun x => ev p x * ev q x) v' ∧ Below w.heap.size w w' := by
  obtain ⟨pa, ca, rfl, hha⟩ := hp
  obtain ⟨pb, cb, rfl, hhb⟩ := hq
  have HA := Lib.hid hha
  have HB := Lib.hid hhb
  obtain ⟨np, hnp⟩ : ∃ np, p.length = np := ⟨_, rfl⟩
  obtain ⟨nq, hnq⟩ : ∃ nq, q.length = nq := ⟨_, rfl⟩
  rw [hnp] at HA hpn ⊢
  rw [hnq] at HB hpn ⊢
  have HNP := Lib.hid hnp
  have HNQ := Lib.hid hnq
  clear hha hhb hnp hnq
  have hmk := run_make_one (w := w) 50 5 (.int .u8 0) 1 Tryz.underlying50 infoB rfl (by omega) (np + nq) (by omega)
  rw [show ((np + nq : Nat) : Int) = (np : Int) + (nq : Int) by omega] at hmk
  go_enter Tryz.func113, Tryz.ntmps113
  go_wp2
  clear hmk
  have hF := RowF.made w (np + nq)
  have hB := Kept.toBelow (Kept.alloc (fun _ => False) w (.cells (Array.replicate (np + nq) (.int .u8 0)) 5)) (Nat.le_refl _) (fun _ h => h.elim)
  have HF := Lib.hid hF
  have HBW := Lib.hid hB
  clear hF hB
  generalize (w.alloc (.cells (Array.replicate (np + nq) (.int .u8 0)) 5)) = w1 at *
  go_loopw [6, 7] (fun i _ wr => ∃ (t : Nat) (o : List B), t ≤ np ∧ i = .int .i64 (t : Int) ∧ RowF wr w.heap.size o ∧ o.length = np + nq ∧ (∀ x, ev o x = ev (p.take t) x * ev q x) ∧ Below w.heap.size w wr) (fun i _ _ => np - (intOf i).toNat)
  case atStart => exact ⟨0, _, Nat.zero_le _, rfl, HF.out, by simp, fun x => by rw [ev_zero]; show (0 : B) = 0 * _; grind, HBW.out⟩
  case round =>
    obtain ⟨w0, rfl⟩ : ∃ w0, w0 = wr := ⟨_, rfl⟩
    obtain ⟨t, o, ht, rfl, hr, hol, hev, hB⟩ := hrel
    have HR := Lib.hid hr
    have HOL := Lib.hid hol
    have HEV := Lib.hid hev
    have HBR := Lib.hid hB
    clear hr hol hev
    by_cases hlt : t < np
    · obtain ⟨ga, oa, rfl, hca⟩ := HA.out (by omega)
      have HCA := Lib.hid (hca t hlt)
      obtain ⟨c, hc'⟩ : ∃ c, p.getD t 0 = c := ⟨_, rfl⟩
      rw [hc'] at HCA
      have HC' := Lib.hid hc'
      clear hca hc' hB
      go_wp2
      go_loopw [7] (fun i wr => ∃ (k : Nat) (o : List B), k ≤ nq ∧ i = .int .i64 (k : Int) ∧ RowF wr w.heap.size o ∧ o.length = np + nq ∧ (∀ x, ev o x = ev (p.take t) x * ev q x + c * pw x t * ev (q.take k) x) ∧ Below w.heap.size w wr) (fun i _ => nq - (intOf i).toNat)
      case atStart => exact ⟨0, o, Nat.zero_le _, rfl, HR.out, HOL.out, fun x => by rw [HEV.out]; show _ = _ + c * pw x t * 0; grind, HBR.out⟩
      case round =>
        obtain ⟨k, o2, hk, rfl, hr, hol, hev, hB⟩ := hrel
        have HR2 := Lib.hid hr
        have HOL2 := Lib.hid hol
        have HEV2 := Lib.hid hev
        have HBR2 := Lib.hid hB
        clear hr hol hev
        by_cases hlt2 : k < nq
        · obtain ⟨gb, ob, rfl, hcb⟩ := HB.out (by omega)
          have z := hcb k hlt2
          have d0 := (hB.cell (p := ⟨ga, oa + t, none⟩) (blt HCA.out)).trans HCA.out
          have d1 := (hB.cell (p := ⟨gb, ob + k, none⟩) (blt z)).trans z
          have d2 := HR2.out.cell (i := t + k) (by rw [HOL2.out]; omega)
          have d3 := HR2.out.fz (t + k)
          obtain ⟨d, hd'⟩ : ∃ d, q.getD k 0 = d := ⟨_, rfl⟩
          obtain ⟨b, hb'⟩ : ∃ b, o2.getD (t + k) 0 = b := ⟨_, rfl⟩
          rw [hd'] at d1
          rw [hb'] at d2
          have HD' := Lib.hid hd'
          have HSet := Lib.hid (show ∀ x, ev (o2.set (t + k) (b + c * d)) x = ev o2 x + (c * d) * pw x (t + k) from fun x => by rw [← hb']; exact ev_set o2 (t + k) (c * d) x (by rw [HOL2.out]; omega))
          have hxor := u8_xor_nat b.v (c * d).v b.lt (c * d).lt
          have hwr : IntKind.i64.wrap ((t : Int) + (k : Int)) = (t : Int) + (k : Int) := IntWalk.i64_in _ (by omega)
          have hi1 : (t : Int) + (k : Int) < (np : Int) + (nq : Int) := by omega
          have hi2 : ¬ (t : Int) + (k : Int) < 0 := by omega
          have hi3 : ((t : Int) + (k : Int)).toNat = t + k := by omega
          have hi4 : 0 ≤ (t : Int) + (k : Int) := by omega
          have htk : t + k < np + nq := by omega
          clear hcb z hB hd' hb'
          go_wp2_with fail
          refine wp_quiet_store 21 (by kernel_rfl) (by kernel_rfl) ?_
          simp only [List.take_succ_cons, List.take_zero, List.drop_succ_cons, List.drop_zero]
          repeat (quiet_step ((go_at_call 117; exact q_one_same (rmul_any _ c d))))
          refine wpQuiet_nil ?_
          rintro w5 ⟨nq5, rfl⟩
          go_wp2
          refine calmQ.normal ?_
          go_wp2
          go_roundw
          case rel =>
            refine ⟨k + 1, o2.set (t + k) (b + c * d), by omega, by go_num, (show RowF (World.drewN _ nq5) w.heap.size o2 from HR2.out).set (i := t + k) (by rw [HOL2.out]; omega) (b + c * d), by rw [List.length_set]; exact HOL2.out, fun x => ?_, (belowDr HBR2.out nq5).setCell (Nat.le_refl _) _⟩
            rw [HSet.out, HEV2.out, ev_take (by rw [HNQ.out]; omega), HD'.out, pw_add]
            grind
          case measure => simp [intOf]; omega
        · obtain rfl : k = nq := by omega
          have HEP := Lib.hid (show ∀ x, ev o2 x = ev (p.take (t + 1)) x * ev q x from fun x => by
            rw [HEV2.out, ev_full HNQ.out, ev_take (by rw [HNP.out]; omega), HC'.out]; grind)
          go_wp2
          go_roundw
          case rel => exact ⟨t + 1, o2, by omega, by go_num, HR2.out, HOL2.out, HEP.out, HBR2.out⟩
          case measure => simp [intOf]; omega
    · obtain rfl : t = np := by omega
      have HFin := Lib.hid (show PolyAt w0 w.heap.size n (fun x => ev p x * ev q x) (.slice (some ⟨w.heap.size, 0, none⟩) (t + nq) (t + nq)) from ⟨o, by
        have := HR.out.own (base := w.heap.size) (Nat.le_refl _) (by rw [HOL.out]; unfold maxLen; omega)
        rw [HOL.out] at this
        exact this, by rw [HOL.out]; exact hpn, fun x => by rw [HEV.out, ev_full HNP.out]⟩)
      clear hB
      go_wp2_with fail
      refine (lean_any w0 w.heap.size n _ _ HFin.out hn).mono ?_
      rintro e w5 ⟨v', rfl, hP, hB5⟩
      have HP := Lib.hid hP
      have HB9 := Lib.hid (below_more HBR.out hB5 HBR.out.size)
      have HSZ := Lib.hid HBR.out.size
      clear hP hB5
      go_wp2
      go_ret
      obtain ⟨l, a1, a2, a3⟩ := HP.out
      exact ⟨_, rfl, ⟨l, a1.weaken HSZ.out, a2, a3⟩, HB9.out⟩
end -- RefE

section -- RefF
open Go.RowKit Go.Maps
set_option linter.unusedVariables false
set_option maxRecDepth 100000
set_option maxHeartbeats 4000000

section
variable {w w' : World} {base n : Nat} {f : B → B} {v : Value}
theorem PolyAt.below (h : PolyAt w base n f v) (hb : Below w.heap.size w w') : PolyAt w' base n f v := by
  obtain ⟨l, h1, h2, h3⟩ := h
  exact ⟨l, h1.below hb, h2, h3⟩
theorem PolyAt.lower {base' : Nat} (h : PolyAt w base n f v) (hb : base' ≤ base) : PolyAt w base' n f v := by
  obtain ⟨l, h1, h2, h3⟩ := h
  exact ⟨l, h1.weaken hb, h2, h3⟩
theorem PolyAt.to {n' : Nat} {g : B → B} (h : PolyAt w base n f v) (hn : n ≤ n') (hg : ∀ x, f x = g x) : PolyAt w base n' g v := by
  obtain ⟨l, h1, h2, h3⟩ := h
  exact ⟨l, h1, Nat.le_trans h2 hn, fun x => (h3 x).trans (hg x)⟩
theorem PolyAt.shape (h : PolyAt w base n f v) : ∃ p k c, v = .slice p k c := by
  obtain ⟨l, h1, h2, h3⟩ := h
  obtain ⟨p, c, e⟩ := h1.shape
  exact ⟨p, _, c, e⟩
end

theorem nodup_getD {xs : List B} (hn : xs.Nodup) {i k : Nat} (hi : i < xs.length) (hk : k < xs.length) (h : i ≠ k) : (xs.getD i 0).v ≠ (xs.getD k 0).v := by
  intro e
  have e2 := B.ext e
  rw [List.getD_eq_getElem?_getD, List.getD_eq_getElem?_getD, List.getElem?_eq_getElem hi, List.getElem?_eq_getElem hk] at e2
  exact h (nodup_inj hn hi hk (by simpa using e2))
theorem lit_one (w : World) (x : B) : BytesAt (w.alloc (.cells #[bv x] 5)) (.slice (some ⟨w.heap.size, 0, none⟩) 1 1) [x] :=
  ⟨_, _, rfl, fun _ => ⟨_, _, rfl, fun i hi => by
    obtain rfl : i = 0 := by simp at hi; omega
    exact (World.cell?_alloc_new w _ _ 0).trans rfl⟩⟩
theorem lit_two (w : World) (x y : B) : BytesAt (w.alloc (.cells #[bv x, bv y] 5)) (.slice (some ⟨w.heap.size, 0, none⟩) 2 2) [x, y] :=
  ⟨_, _, rfl, fun _ => ⟨_, _, rfl, fun i hi => by
    obtain rfl | rfl : i = 0 ∨ i = 1 := by simp at hi; omega
    · exact (World.cell?_alloc_new w _ _ 0).trans rfl
    · exact (World.cell?_alloc_new w _ _ 1).trans rfl⟩⟩
theorem BytesAt.al {w : World} {v : Value} {l : List B} (h : BytesAt w v l) (x : Obj) : BytesAt (w.alloc x) v l := h.kept (Kept.alloc (fun _ => False) w x) (fun _ _ h => h)
theorem one_poly (w : World) (base : Nat) (hb : base ≤ w.heap.size) : PolyAt (w.alloc (.cells #[.int .u8 1] 5)) base 1 (fun _ => 1) (.slice (some ⟨w.heap.size, 0, none⟩) 1 1) :=
  ⟨[1], (World.ownsRow_lit w #[.int .u8 1] 1 hb (by unfold maxLen; omega) rfl), by simp, fun x => ev_one 1 x⟩
theorem bal' (w : World) (x : Obj) : Below w.heap.size w (w.alloc x) := (Kept.alloc (fun _ => False) w x).toBelow (Nat.le_refl _) (fun _ h => h.elim)
theorem lagSum {xs ys : List B} {m : Nat} (c : B) (hm : m < xs.length) (hc : ys.getD m 0 * (pr (xs.eraseIdx m) (xs.getD m 0)).inv = c) (x : B) :
    sm m (fun i => lag xs i x * ys.getD i 0) + pS xs m x xs.length * c = sm (m + 1) (fun i => lag xs i x * ys.getD i 0) := by
  show _ = sm m _ + lag xs m x * ys.getD m 0
  rw [pS_eq xs m x xs.length (Nat.le_refl _), List.take_length, ← hc]
  unfold lag
  grind

theorem rthrough_any (w : World) (va vb : Value) (xs ys : List B) (n : Nat) (hx : BytesAt w va xs) (hy : BytesAt w vb ys) (hlx : xs.length = n) (hly : ys.length = n) (hn : xs.Nodup) (hs : n ≤ 256) :
    Calls Tryz.prog 95 #[va, vb] w fun e w' => ∃ v, e = .returned (.tuple #[v, .int .i64 0]) ∧ PolyAt w' w.heap.size 600 (fun x => sm n fun i => lag xs i x * ys.getD i 0) v ∧ Below w.heap.size w w' := by
  obtain ⟨pa, ca, rfl, hha⟩ := hx
  obtain ⟨pb, cb, rfl, hhb⟩ := hy
  rw [hlx] at hha ⊢
  rw [hly] at hhb ⊢
  have HA := Lib.hid hha
  have HB := Lib.hid hhb
  have HLX := Lib.hid hlx
  have HLY := Lib.hid hly
  have HN := Lib.hid hn
  clear hha hhb hlx hly hn
  go_enter Tryz.func95, Tryz.ntmps95
  go_wp2
  go_loopw [6, 7] (fun i _ wr => ∃ (t nq : Nat), t ≤ n ∧ i = .int .i64 (t : Int) ∧ wr = w.drewN nq) (fun i _ _ => n - (intOf i).toNat)
  case atStart => exact ⟨0, 0, Nat.zero_le _, rfl, rfl⟩
  case round =>
    obtain ⟨t, nq, ht, rfl, rfl⟩ := hrel
    by_cases hlt : t < n
    · obtain ⟨g, off, rfl, hc⟩ := HA.out (by omega)
      have HC := Lib.hid hc
      clear hc
      go_wp2
      go_loopw [7] (fun i wr => ∃ (k nq : Nat), k ≤ t ∧ i = .int .i64 (k : Int) ∧ wr = w.drewN nq) (fun i _ => t - (intOf i).toNat)
      case atStart => exact ⟨0, nq, Nat.zero_le _, rfl, rfl⟩
      case round =>
        obtain ⟨k, nq2, hk, rfl, rfl⟩ := hrel
        by_cases hlt2 : k < t
        · have d1 := HC.out t hlt
          have d2 := HC.out k (by omega)
          have hne := nodup_getD HN.out (i := t) (k := k) (by rw [HLX.out]; omega) (by rw [HLX.out]; omega) (by omega)
          obtain ⟨a, ha⟩ : ∃ a, xs.getD t 0 = a := ⟨_, rfl⟩
          obtain ⟨b, hb⟩ : ∃ b, xs.getD k 0 = b := ⟨_, rfl⟩
          rw [ha] at d1 hne
          rw [hb] at d2 hne
          have hne2 : ((a.v : Int) == (b.v : Int)) = false := by simp; omega
          have hne3 : ¬ (a.v : Int) = (b.v : Int) := by omega
          clear ha hb
          go_wp2_with fail
          go_quiet (fail)
          go_wp2
          go_roundw
          case rel => exact ⟨k + 1, _, by omega, by go_num, rfl⟩
          case measure => simp [intOf]; omega
        · obtain rfl : k = t := by omega
          go_wp2
          go_roundw
          case rel => exact ⟨k + 1, nq2, by omega, by go_num, rfl⟩
          case measure => simp [intOf]; omega
    · obtain rfl : t = n := by omega
      have hB0 : Below w.heap.size w (w.drewN nq) := belowDr (Below.refl _ _) nq
      have HB0 := Lib.hid hB0
      have HSZ := Lib.hid (show (w.drewN nq).heap.size = w.heap.size from rfl)
      clear hB0
      go_wp2
      generalize w.drewN nq = wq at *
      go_loopw [8, 9, 10, 11, 12, 13] (fun v i _ _ _ _ wr => ∃ m : Nat, m ≤ t ∧ i = .int .i64 (m : Int) ∧ PolyAt wr w.heap.size 600 (fun x => sm m fun i => lag xs i x * ys.getD i 0) v ∧ Below w.heap.size w wr) (fun _ i _ _ _ _ _ => t - (intOf i).toNat)
      case atStart => exact ⟨0, Nat.zero_le _, rfl, ⟨[], Own.nil _ _, by simp, fun x => rfl⟩, HB0.out⟩
      case round =>
        obtain ⟨w0, rfl⟩ : ∃ w0, w0 = wr := ⟨_, rfl⟩
        obtain ⟨m, hm, rfl, hP, hB⟩ := hrel
        obtain ⟨pv, lv, cv, rfl⟩ := hP.shape
        have HP := Lib.hid hP
        have HBW := Lib.hid hB
        have hsz := hB.size
        clear hP
        by_cases hlt : m < t
        · obtain ⟨ga, oa, rfl, hca⟩ := HA.out (by omega)
          obtain ⟨gb, ob, rfl, hcb⟩ := HB.out (by omega)
          have HCA := Lib.hid (fun i hi => (show w0.cell? ⟨ga, oa + i, none⟩ = some (bv (xs.getD i 0)) from (hB.cell (p := ⟨ga, oa + i, none⟩) (blt (hca i hi))).trans (hca i hi)))
          have HCB := Lib.hid (fun i hi => (show w0.cell? ⟨gb, ob + i, none⟩ = some (bv (ys.getD i 0)) from (hB.cell (p := ⟨gb, ob + i, none⟩) (blt (hcb i hi))).trans (hcb i hi)))
          have HO := Lib.hid (one_poly w0 w.heap.size hsz)
          have HB1 := Lib.hid (show Below w0.heap.size w0 (w0.alloc (.cells #[.int .u8 1] 5)) from (Below.refl _ _).alloc (Nat.le_refl _) _)
          clear hca hcb hB
          go_wp2
          generalize w0.alloc (.cells #[.int .u8 1] 5) = w1 at *
          go_loopw [10, 11] (fun v i wr => ∃ k : Nat, k ≤ t ∧ i = .int .i64 (k : Int) ∧ PolyAt wr w.heap.size (1 + 2 * k) (fun x => pS xs m x k) v ∧ Below w0.heap.size w0 wr) (fun _ i _ => t - (intOf i).toNat)
          case atStart => exact ⟨0, Nat.zero_le _, rfl, HO.out, HB1.out⟩
          case round =>
            obtain ⟨k, hk, rfl, hP, hB⟩ := hrel
            obtain ⟨pp, lp, cp, rfl⟩ := hP.shape
            have HP2 := Lib.hid hP
            have HBR := Lib.hid hB
            have hsz2 := hB.size
            clear hP
            by_cases hlt2 : k < t
            · by_cases hkm : k = m
              · subst hkm
                have HS := Lib.hid (show ∀ x, pS xs k x k = pS xs k x (k + 1) from fun x => by show _ = if k = k then _ else _; rw [if_pos rfl])
                clear hB
                go_wp2
                go_roundw
                case rel => exact ⟨k + 1, by omega, by go_num, HP2.out.to (by omega) HS.out, HBR.out⟩
                case measure => simp [intOf]; omega
              · have d1 := (hB.cell (p := ⟨ga, oa + k, none⟩) (blt (HCA.out k hlt2))).trans (HCA.out k hlt2)
                have HS := Lib.hid (show ∀ x, pS xs m x k * (x + xs.getD k 0) = pS xs m x (k + 1) from fun x => by show _ = if k = m then _ else _; rw [if_neg hkm])
                obtain ⟨a, ha⟩ : ∃ a, xs.getD k 0 = a := ⟨_, rfl⟩
                rw [ha] at d1 HS
                have hne1 : (k != m) = true := by simpa using hkm
                have hne2 : ¬ (k : Int) = m := by omega
                obtain ⟨l, hl1, hl2, hl3⟩ := HP2.out
                have HL3 := Lib.hid hl3
                have HLB := Lib.hid (hl1.bytes.al (.cells #[bv a, bv 1] 5))
                have HTW := Lib.hid (lit_two wr a 1)
                have HBA := Lib.hid (bal' wr (.cells #[bv a, bv 1] 5))
                clear hB ha hl1 hl3
                go_wp2_with fail
                refine (rprod_any _ _ _ l [a, 1] (1 + 2 * (k + 1)) HLB.out HTW.out (by simp; omega) (by omega)).mono ?_
                rintro e w5 ⟨v', rfl, hP5, hB5⟩
                have HP5 := Lib.hid hP5
                have HB5 := Lib.hid (below_more HBA.out hB5 HBA.out.size)
                have HSA := Lib.hid HBA.out.size
                clear hP5 hB5
                go_wp2
                go_roundw
                case rel => exact ⟨k + 1, by omega, by go_num, (HP5.out.lower (by have := HSA.out; omega)).to (Nat.le_refl _) (fun x => by rw [HL3.out, ev_two]; exact HS.out x), below_more HBR.out HB5.out HBR.out.size⟩
                case measure => simp [intOf]; omega
            · obtain rfl : k = t := by omega
              have d1 := (hB.cell (p := ⟨gb, ob + m, none⟩) (blt (HCB.out m hlt))).trans (HCB.out m hlt)
              have d2 := (hB.cell (p := ⟨ga, oa + m, none⟩) (blt (HCA.out m hlt))).trans (HCA.out m hlt)
              obtain ⟨l, hl1, hl2, hl3⟩ := HP2.out
              have hE : ev l (xs.getD m 0) = pr (xs.eraseIdx m) (xs.getD m 0) := by
                rw [hl3, ← HLX.out]
                show pS xs m _ xs.length = _
                rw [pS_eq xs m _ xs.length (Nat.le_refl _), List.take_length]
              have hE0 : ev l (xs.getD m 0) ≠ 0 := by rw [hE]; exact pr_ne (nodup_erase HN.out (by rw [HLX.out]; exact hlt))
              have HLag := Lib.hid (fun x => lagSum (xs := xs) (ys := ys) (m := m) (ys.getD m 0 * (ev l (xs.getD m 0)).inv) (by rw [HLX.out]; exact hlt) (by rw [hE]) x)
              rw [HLX.out] at HLag
              obtain ⟨a, ha⟩ : ∃ a, xs.getD m 0 = a := ⟨_, rfl⟩
              obtain ⟨y, hy⟩ : ∃ y, ys.getD m 0 = y := ⟨_, rfl⟩
              rw [ha] at d2 hE0 HLag
              rw [hy] at d1
              simp only [hy] at HLag
              have HL1 := Lib.hid hl1
              have HLB := Lib.hid hl1.bytes
              have HL3 := Lib.hid hl3
              obtain ⟨e, he⟩ : ∃ e, ev l a = e := ⟨_, rfl⟩
              rw [he] at hE0 HLag
              have HE := Lib.hid he
              have HE0 := Lib.hid hE0
              have HRV := Lib.hid (fun W (hb : BytesAt W (.slice pp lp cp) l) => (show Calls Tryz.prog 96 #[.slice pp lp cp, bv a] W fun e' w' => e' = .returned (bv e) ∧ W = w' from by rw [← HE.out]; exact rvalue_any W _ l a hb (by omega)))
              clear hB hl1 hl3 hE hE0 ha hy he
              go_wp2_with fail
              go_quiet (first
                | (go_at_call 96; exact q_one_same (HRV.out _ (by exact HLB.out)))
                | (go_at_call 114; exact q_one_same (rdiv_any _ y e HE0.out)))
              have HB3 := Lib.hid (show Below w0.heap.size w0 (wr.drewN nq) from belowDr HBR.out nq)
              have HLB3 := Lib.hid (show BytesAt (wr.drewN nq) (.slice pp lp cp) l from HLB.out)
              clear HLB
              obtain ⟨c, hc⟩ : ∃ c, y * e.inv = c := ⟨_, rfl⟩
              rw [hc] at HLag ⊢
              generalize wr.drewN nq = w3 at *
              have HO1 := Lib.hid (lit_one w3 c)
              have HA1 := Lib.hid (bal' w3 (.cells #[bv c] 5))
              have HLB4 := Lib.hid (HLB3.out.al (.cells #[bv c] 5))
              clear hc
              go_wp2_with fail
              refine (rprod_any _ _ _ l [c] 600 HLB4.out HO1.out (by simp; omega) (by omega)).mono ?_
              rintro e5 w5 ⟨v5, rfl, hP5, hB5⟩
              obtain ⟨p5, k5, c5, rfl⟩ := hP5.shape
              have HB5 := Lib.hid (below_more HB3.out (below_more HA1.out hB5 HA1.out.size) HB3.out.size)
              obtain ⟨l5, hl5, hn5, he5⟩ := hP5
              obtain ⟨l0, hl0, hn0, he0⟩ := HP.out.below HB5.out
              have HL5 := Lib.hid hl5.bytes
              have HL0 := Lib.hid hl0.bytes
              have HE5 := Lib.hid he5
              have HE0' := Lib.hid he0
              have HB05 := Lib.hid (below_more HBW.out HB5.out HBW.out.size)
              clear hB5 hl5 hl0 he5 he0
              go_wp2_with fail
              refine (radd_any _ _ _ l0 l5 600 HL0.out HL5.out hn0 hn5 (by omega)).mono ?_
              rintro e6 w6 ⟨v6, rfl, hP6, hB6⟩
              have HP6 := Lib.hid hP6
              have HB6 := Lib.hid (below_more HB05.out hB6 HB05.out.size)
              have HS6 := Lib.hid HB05.out.size
              clear hP6 hB6
              go_wp2
              go_roundw
              case rel => exact ⟨m + 1, by omega, by go_num, (HP6.out.lower HS6.out).to (Nat.le_refl _) (fun x => by rw [HE0'.out, HE5.out, HL3.out, ev_one]; exact HLag.out x), HB6.out⟩
              case measure => simp [intOf]; omega
        · obtain rfl : m = t := by omega
          clear hB
          go_wp2_with fail
          refine (lean_any _ _ _ _ _ HP.out (by omega)).mono ?_
          rintro e5 w5 ⟨v5, rfl, hP5, hB5⟩
          have HP5 := Lib.hid (hP5.lower hsz)
          have HB5 := Lib.hid (below_more HBW.out hB5 hsz)
          clear hP5 hB5
          go_wp2
          go_ret2
          exact ⟨_, rfl, HP5.out, HB5.out⟩
end -- RefF

end Go.Proofs.YtanjchpkekehgaaGreat
