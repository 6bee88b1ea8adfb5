/-
  RefD: Walks of the reference, layer 2 (poly): Add, product.
  RefE: Walks of the reference, layer 2 (poly): product.
-/
import Derived.Test.YtanjchpkekehgaaGreatMxax
namespace Go.Proofs.YtanjchpkekehgaaGreat

section -- RefD
open Go.RowKit Go.Maps
set_option linter.unusedVariables false
set_option maxRecDepth 100000
set_option maxHeartbeats 2000000

theorem radd_any (w : World) (va vb : Value) (p q : List B) (n : Nat) (hp : BytesAt w va p) (hq : BytesAt w vb q) (hpn : p.length ≤ n) (hqn : q.length ≤ n) (hn : n ≤ 1000000) :
    Calls Tryz.prog 115 #[va, vb] w fun e w' => ∃ v', e = .returned v' ∧ PolyAt w' w.heap.size n (fun x => ev p x + ev q x) v' ∧ Below w.heap.size w w' := by
  obtain ⟨pa, ca, rfl, hha⟩ := hp
  obtain ⟨pb, cb, rfl, hhb⟩ := hq
  have HA := Lib.hid hha
  have HB := Lib.hid hhb
  obtain ⟨np, hnp⟩ : ∃ np, p.length = np := ⟨_, rfl⟩
  obtain ⟨nq, hnq⟩ : ∃ nq, q.length = nq := ⟨_, rfl⟩
  obtain ⟨m, hm⟩ : ∃ m, max np nq = m := ⟨_, rfl⟩
  rw [hnp] at HA hpn ⊢
  rw [hnq] at HB hqn ⊢
  have hmp : np ≤ m := by omega
  have hmq : nq ≤ m := by omega
  have hmn : m ≤ n := by omega
  have HNP := Lib.hid hnp
  have HNQ := Lib.hid hnq
  have hmx : max (np : Int) (nq : Int) = m := by omega
  clear hha hhb hnp hnq hm
  have hmk := run_make_one (w := w) 50 5 (.int .u8 0) 1 Tryz.underlying50 infoB rfl (by omega) m (by omega)
  go_enter Tryz.func115, Tryz.ntmps115
  go_wp2
  clear hmk
  have hF := RowF.made w m
  have hB := Kept.toBelow (Kept.alloc (fun _ => False) w (.cells (Array.replicate m (.int .u8 0)) 5)) (Nat.le_refl _) (fun _ h => h.elim)
  have HF := Lib.hid hF
  have HBW := Lib.hid hB
  clear hF hB
  generalize (w.alloc (.cells (Array.replicate m (.int .u8 0)) 5)) = w1 at *
  go_loopw [6] (fun i wr => ∃ (t : Nat) (o : List B), t ≤ np ∧ i = .int .i64 (t : Int) ∧ RowF wr w.heap.size o ∧ o.length = m ∧ (∀ x, ev o x = ev (p.take t) x) ∧ (∀ j, t ≤ j → o.getD j 0 = 0) ∧ Below w.heap.size w wr) (fun i _ => np - (intOf i).toNat)
  case atStart => exact ⟨0, _, Nat.zero_le _, rfl, HF.out, by simp, fun x => by rw [ev_zero]; rfl, fun j _ => by rw [List.getD_eq_getElem?_getD, List.getElem?_replicate]; split <;> rfl, HBW.out⟩
  case round =>
    obtain ⟨w0, rfl⟩ : ∃ w0, w0 = wr := ⟨_, rfl⟩
    obtain ⟨t, o, ht, rfl, hr, hol, hev, hz, hB⟩ := hrel
    have HR := Lib.hid hr
    have HOL := Lib.hid hol
    have HEV := Lib.hid hev
    have HZ := Lib.hid hz
    have HBR := Lib.hid hB
    clear hr hol hev hz
    by_cases hlt : t < np
    · obtain ⟨g, off, rfl, hc⟩ := HA.out (by omega)
      have z := hc t hlt
      have d1 := (hB.cell (p := ⟨g, off + t, none⟩) (blt z)).trans z
      have d2 := HR.out.cell (i := t) (by rw [HOL.out]; omega)
      have d3 := HR.out.fz t
      obtain ⟨c, hc'⟩ : ∃ c, p.getD t 0 = c := ⟨_, rfl⟩
      rw [hc'] at d1
      have HC' := Lib.hid hc'
      have htm : t < m := by omega
      have hne : ¬ g = w.heap.size := by have := blt z; omega
      clear hc z hB hc'
      go_wp2
      go_roundw
      case rel =>
        refine ⟨t + 1, o.set t c, by omega, by go_num, HR.out.set (by rw [HOL.out]; omega) c, by rw [List.length_set]; exact HOL.out, fun x => ?_, fun j hj => ?_, HBR.out.setCell (Nat.le_refl _) _⟩
        · rw [ev_set0 _ _ (by rw [HOL.out]; omega) (HZ.out t (Nat.le_refl _)), HEV.out, ev_take (by rw [HNP.out]; omega), HC'.out]
        · rw [getD_set_ne (by omega)]
          exact HZ.out j (by omega)
      case measure => simp [intOf]; omega
    · obtain rfl : t = np := by omega
      have HEP := Lib.hid (show ∀ x, ev o x = ev p x from fun x => by rw [HEV.out, ev_full HNP.out])
      go_wp2
      go_loopw [7] (fun i wr => ∃ (t : Nat) (o : List B), t ≤ nq ∧ i = .int .i64 (t : Int) ∧ RowF wr w.heap.size o ∧ o.length = m ∧ (∀ x, ev o x = ev p x + ev (q.take t) x) ∧ Below w.heap.size w wr) (fun i _ => nq - (intOf i).toNat)
      case atStart => exact ⟨0, o, Nat.zero_le _, rfl, HR.out, HOL.out, fun x => by rw [HEP.out]; show ev p x = ev p x + 0; grind, HBR.out⟩
      case round =>
        obtain ⟨t2, o2, ht2, rfl, hr, hol, hev, hB⟩ := hrel
        have HR2 := Lib.hid hr
        have HOL2 := Lib.hid hol
        have HEV2 := Lib.hid hev
        have HBR2 := Lib.hid hB
        clear hr hol hev
        by_cases hlt2 : t2 < nq
        · obtain ⟨g, off, rfl, hc⟩ := HB.out (by omega)
          have z := hc t2 hlt2
          have d1 := (hB.cell (p := ⟨g, off + t2, none⟩) (blt z)).trans z
          have d2 := HR2.out.cell (i := t2) (by rw [HOL2.out]; omega)
          have d3 := HR2.out.fz t2
          obtain ⟨c, hc'⟩ : ∃ c, q.getD t2 0 = c := ⟨_, rfl⟩
          obtain ⟨b, hb'⟩ : ∃ b, o2.getD t2 0 = b := ⟨_, rfl⟩
          rw [hc'] at d1
          rw [hb'] at d2
          have HC' := Lib.hid hc'
          have HSet := Lib.hid (show ∀ x, ev (o2.set t2 (b + c)) x = ev o2 x + c * pw x t2 from fun x => by rw [← hb']; exact ev_set o2 t2 c x (by rw [HOL2.out]; omega))
          have hxor := u8_xor_nat b.v c.v b.lt c.lt
          have htm : t2 < m := by omega
          clear hc z hB hc' hb'
          go_wp2_with fail
          refine wp_quiet_store 12 (by kernel_rfl) (by kernel_rfl) ?_
          simp only [List.take_succ_cons, List.take_zero, List.drop_succ_cons, List.drop_zero]
          repeat (quiet_step (fail))
          refine wpQuiet_nil ?_
          rintro w5 ⟨nq5, rfl⟩
          go_wp2
          refine calmQ.normal ?_
          go_wp2
          go_roundw
          case rel =>
            refine ⟨t2 + 1, o2.set t2 (b + c), by omega, by go_num, (show RowF (World.drewN _ nq5) w.heap.size o2 from HR2.out).set (i := t2) (by rw [HOL2.out]; omega) (b + c), by rw [List.length_set]; exact HOL2.out, fun x => ?_, (show Below w.heap.size w (World.drewN _ nq5) from ⟨HBR2.out.os, HBR2.out.tape, HBR2.out.output, HBR2.out.size, HBR2.out.block⟩).setCell (Nat.le_refl _) _⟩
            rw [HSet.out, HEV2.out, ev_take (by rw [HNQ.out]; omega), HC'.out]
            grind
          case measure => simp [intOf]; omega
        · obtain rfl : t2 = nq := by omega
          have HFin := Lib.hid (show PolyAt wr w.heap.size n (fun x => ev p x + ev q x) (.slice (some ⟨w.heap.size, 0, none⟩) m m) from ⟨o2, by
            have := HR2.out.own (base := w.heap.size) (Nat.le_refl _) (by rw [HOL2.out]; unfold maxLen; omega)
            rw [HOL2.out] at this
            exact this, by rw [HOL2.out]; exact hmn, fun x => by rw [HEV2.out, ev_full HNQ.out]⟩)
          go_wp2_with fail
          refine (lean_any wr w.heap.size n _ _ HFin.out hn).mono ?_
          rintro e w5 ⟨v', rfl, hP, hB5⟩
          have HP := Lib.hid hP
          have HB9 := Lib.hid (below_more HBR2.out hB5 HBR2.out.size)
          have HSZ := Lib.hid HBR2.out.size
          clear hP hB5
          go_wp2
          go_ret
          obtain ⟨l, a1, a2, a3⟩ := HP.out
          exact ⟨_, rfl, ⟨l, a1.weaken HSZ.out, a2, a3⟩, HB9.out⟩
end -- RefD

section -- RefE
open Go.RowKit Go.Maps
set_option linter.unusedVariables false
set_option maxRecDepth 100000
set_option maxHeartbeats 2000000

theorem belowDr {B : Nat} {a w : World} (h : Below B a w) (n : Nat) : Below B a (w.drewN n) := ⟨h.os, h.tape, h.output, h.size, h.block⟩

theorem rprod_any (w : World) (va vb : Value) (p q : List B) (n : Nat) (hp : BytesAt w va p) (hq : BytesAt w vb q) (hpn : p.length + q.length ≤ n) (hn : n ≤ 1000000) :
    Calls Tryz.prog 113 #[va, vb] w fun e w' => ∃ v', e = .returned v' ∧ PolyAt w' w.heap.size n (fun x => ev p x * ev q x) v' ∧ Below w.heap.size w w' := by
  obtain ⟨pa, ca, rfl, hha⟩ := hp
  obtain ⟨pb, cb, rfl, hhb⟩ := hq
  have HA := Lib.hid hha
  have HB := Lib.hid hhb
  obtain ⟨np, hnp⟩ : ∃ np, p.length = np := ⟨_, rfl⟩
  obtain ⟨nq, hnq⟩ : ∃ nq, q.length = nq := ⟨_, rfl⟩
  rw [hnp] at HA hpn ⊢
  rw [hnq] at HB hpn ⊢
  have HNP := Lib.hid hnp
  have HNQ := Lib.hid hnq
  clear hha hhb hnp hnq
  have hmk := run_make_one (w := w) 50 5 (.int .u8 0) 1 Tryz.underlying50 infoB rfl (by omega) (np + nq) (by omega)
  rw [show ((np + nq : Nat) : Int) = (np : Int) + (nq : Int) by omega] at hmk
  go_enter Tryz.func113, Tryz.ntmps113
  go_wp2
  clear hmk
  have hF := RowF.made w (np + nq)
  have hB := Kept.toBelow (Kept.alloc (fun _ => False) w (.cells (Array.replicate (np + nq) (.int .u8 0)) 5)) (Nat.le_refl _) (fun _ h => h.elim)
  have HF := Lib.hid hF
  have HBW := Lib.hid hB
  clear hF hB
  generalize (w.alloc (.cells (Array.replicate (np + nq) (.int .u8 0)) 5)) = w1 at *
  go_loopw [6, 7] (fun i _ wr => ∃ (t : Nat) (o : List B), t ≤ np ∧ i = .int .i64 (t : Int) ∧ RowF wr w.heap.size o ∧ o.length = np + nq ∧ (∀ x, ev o x = ev (p.take t) x * ev q x) ∧ Below w.heap.size w wr) (fun i _ _ => np - (intOf i).toNat)
  case atStart => exact ⟨0, _, Nat.zero_le _, rfl, HF.out, by simp, fun x => by rw [ev_zero]; show (0 : B) = 0 * _; grind, HBW.out⟩
  case round =>
    obtain ⟨w0, rfl⟩ : ∃ w0, w0 = wr := ⟨_, rfl⟩
    obtain ⟨t, o, ht, rfl, hr, hol, hev, hB⟩ := hrel
    have HR := Lib.hid hr
    have HOL := Lib.hid hol
    have HEV := Lib.hid hev
    have HBR := Lib.hid hB
    clear hr hol hev
    by_cases hlt : t < np
    · obtain ⟨ga, oa, rfl, hca⟩ := HA.out (by omega)
      have HCA := Lib.hid (hca t hlt)
      obtain ⟨c, hc'⟩ : ∃ c, p.getD t 0 = c := ⟨_, rfl⟩
      rw [hc'] at HCA
      have HC' := Lib.hid hc'
      clear hca hc' hB
      go_wp2
      go_loopw [7] (fun i wr => ∃ (k : Nat) (o : List B), k ≤ nq ∧ i = .int .i64 (k : Int) ∧ RowF wr w.heap.size o ∧ o.length = np + nq ∧ (∀ x, ev o x = ev (p.take t) x * ev q x + c * pw x t * ev (q.take k) x) ∧ Below w.heap.size w wr) (fun i _ => nq - (intOf i).toNat)
      case atStart => exact ⟨0, o, Nat.zero_le _, rfl, HR.out, HOL.out, fun x => by rw [HEV.out]; show _ = _ + c * pw x t * 0; grind, HBR.out⟩
      case round =>
        obtain ⟨k, o2, hk, rfl, hr, hol, hev, hB⟩ := hrel
        have HR2 := Lib.hid hr
        have HOL2 := Lib.hid hol
        have HEV2 := Lib.hid hev
        have HBR2 := Lib.hid hB
        clear hr hol hev
        by_cases hlt2 : k < nq
        · obtain ⟨gb, ob, rfl, hcb⟩ := HB.out (by omega)
          have z := hcb k hlt2
          have d0 := (hB.cell (p := ⟨ga, oa + t, none⟩) (blt HCA.out)).trans HCA.out
          have d1 := (hB.cell (p := ⟨gb, ob + k, none⟩) (blt z)).trans z
          have d2 := HR2.out.cell (i := t + k) (by rw [HOL2.out]; omega)
          have d3 := HR2.out.fz (t + k)
          obtain ⟨d, hd'⟩ : ∃ d, q.getD k 0 = d := ⟨_, rfl⟩
          obtain ⟨b, hb'⟩ : ∃ b, o2.getD (t + k) 0 = b := ⟨_, rfl⟩
          rw [hd'] at d1
          rw [hb'] at d2
          have HD' := Lib.hid hd'
          have HSet := Lib.hid (show ∀ x, ev (o2.set (t + k) (b + c * d)) x = ev o2 x + (c * d) * pw x (t + k) from fun x => by rw [← hb']; exact ev_set o2 (t + k) (c * d) x (by rw [HOL2.out]; omega))
          have hxor := u8_xor_nat b.v (c * d).v b.lt (c * d).lt
          have hwr : IntKind.i64.wrap ((t : Int) + (k : Int)) = (t : Int) + (k : Int) := IntWalk.i64_in _ (by omega)
          have hi1 : (t : Int) + (k : Int) < (np : Int) + (nq : Int) := by omega
          have hi2 : ¬ (t : Int) + (k : Int) < 0 := by omega
          have hi3 : ((t : Int) + (k : Int)).toNat = t + k := by omega
          have hi4 : 0 ≤ (t : Int) + (k : Int) := by omega
          have htk : t + k < np + nq := by omega
          clear hcb z hB hd' hb'
          go_wp2_with fail
          refine wp_quiet_store 21 (by kernel_rfl) (by kernel_rfl) ?_
          simp only [List.take_succ_cons, List.take_zero, List.drop_succ_cons, List.drop_zero]
          repeat (quiet_step ((go_at_call 117; exact q_one_same (rmul_any _ c d))))
          refine wpQuiet_nil ?_
          rintro w5 ⟨nq5, rfl⟩
          go_wp2
          refine calmQ.normal ?_
          go_wp2
          go_roundw
          case rel =>
            refine ⟨k + 1, o2.set (t + k) (b + c * d), by omega, by go_num, (show RowF (World.drewN _ nq5) w.heap.size o2 from HR2.out).set (i := t + k) (by rw [HOL2.out]; omega) (b + c * d), by rw [List.length_set]; exact HOL2.out, fun x => ?_, (belowDr HBR2.out nq5).setCell (Nat.le_refl _) _⟩
            rw [HSet.out, HEV2.out, ev_take (by rw [HNQ.out]; omega), HD'.out, pw_add]
            grind
          case measure => simp [intOf]; omega
        · obtain rfl : k = nq := by omega
          have HEP := Lib.hid (show ∀ x, ev o2 x = ev (p.take (t + 1)) x * ev q x from fun x => by
            rw [HEV2.out, ev_full HNQ.out, ev_take (by rw [HNP.out]; omega), HC'.out]; grind)
          go_wp2
          go_roundw
          case rel => exact ⟨t + 1, o2, by omega, by go_num, HR2.out, HOL2.out, HEP.out, HBR2.out⟩
          case measure => simp [intOf]; omega
    · obtain rfl : t = np := by omega
      have HFin := Lib.hid (show PolyAt w0 w.heap.size n (fun x => ev p x * ev q x) (.slice (some ⟨w.heap.size, 0, none⟩) (t + nq) (t + nq)) from ⟨o, by
        have := HR.out.own (base := w.heap.size) (Nat.le_refl _) (by rw [HOL.out]; unfold maxLen; omega)
        rw [HOL.out] at this
        exact this, by rw [HOL.out]; exact hpn, fun x => by rw [HEV.out, ev_full HNP.out]⟩)
      clear hB
      go_wp2_with fail
      refine (lean_any w0 w.heap.size n _ _ HFin.out hn).mono ?_
      rintro e w5 ⟨v', rfl, hP, hB5⟩
      have HP := Lib.hid hP
      have HB9 := Lib.hid (below_more HBR.out hB5 HBR.out.size)
      have HSZ := Lib.hid HBR.out.size
      clear hP hB5
      go_wp2
      go_ret
      obtain ⟨l, a1, a2, a3⟩ := HP.out
      exact ⟨_, rfl, ⟨l, a1.weaken HSZ.out, a2, a3⟩, HB9.out⟩
end -- RefE

end Go.Proofs.YtanjchpkekehgaaGreat
