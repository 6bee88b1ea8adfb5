/-
  RefC: Walks of the reference, layer 2 (poly): Value, Lean, Add.
  RefD: Walks of the reference, layer 2 (poly): Add, product.
-/
import Derived.Test.YtanjchpkekehgaaGreatMxat
import Derived.Test.YtanjchpkekehgaaGreatMxam
import Derived.Test.YtanjchpkekehgaaGreatMxai
import Derived.Lib.MinMax
namespace Go.Proofs.YtanjchpkekehgaaGreat

section -- RefC
open Go.RowKit Go.Maps
set_option linter.unusedVariables false
set_option maxRecDepth 100000
set_option maxHeartbeats 2000000

theorem rvalue_any (w : World) (v : Value) (p : List B) (x : B) (hv : BytesAt w v p) (hl : p.length ≤ 1000000) :
    Calls Tryz.prog 96 #[v, bv x] w fun e w' => e = .returned (bv (ev p x)) ∧ w = w' := by
  obtain ⟨pa, ca, rfl, hh⟩ := hv
  have HA := Lib.hid hh
  clear hh
  have H0 := Lib.hid (show bv (ev (p.take 0) x) = .int .u8 0 ∧ bv (pw x 0) = .int .u8 1 from ⟨rfl, rfl⟩)
  go_enter Tryz.func96, Tryz.ntmps96
  go_wp2
  go_loop [5, 6, 7] (fun s q i => ∃ k : Nat, k ≤ p.length ∧ i = .int .i64 (k : Int) ∧ s = bv (ev (p.take k) x) ∧ q = bv (pw x k)) (fun _ _ i => p.length - (intOf i).toNat)
  case atStart => exact ⟨0, Nat.zero_le _, rfl, H0.out.1.symm, H0.out.2.symm⟩
  case round =>
    obtain ⟨k, hk, rfl, rfl, rfl⟩ := hrel
    by_cases hlt : k < p.length
    · obtain ⟨g, off, rfl, hc⟩ := HA.out (by omega)
      have d1 := hc k hlt
      have HE := Lib.hid (ev_take hlt x)
      have HP := Lib.hid (show pw x (k + 1) = pw x k * x from rfl)
      obtain ⟨c, hc'⟩ : ∃ c, p.getD k 0 = c := ⟨_, rfl⟩
      obtain ⟨s, hs'⟩ : ∃ s, ev (p.take k) x = s := ⟨_, rfl⟩
      obtain ⟨q, hq'⟩ : ∃ q, pw x k = q := ⟨_, rfl⟩
      rw [hc'] at d1 HE
      rw [hs'] at HE ⊢
      rw [hq'] at HE HP ⊢
      clear hc hc' hs' hq'
      go_wp2_with fail
      refine (rmul_any w c q).mono ?_
      rintro e w' ⟨rfl, rfl⟩
      have hxor := u8_xor_nat s.v (c * q).v s.lt (c * q).lt
      have HXS := Lib.hid (show (s + c * q).v = s.v ^^^ (c * q).v from rfl)
      go_wp2_with fail
      refine (rmul_any w q x).mono ?_
      rintro e w' ⟨rfl, rfl⟩
      go_wp2
      go_round
      case rel =>
        exact ⟨k + 1, by omega, by go_num, by rw [HE.out]; rfl, by rw [HP.out]⟩
      case measure => simp [intOf]; omega
    · obtain rfl : k = p.length := by omega
      rw [List.take_length]
      go_wp2
      go_ret
      exact ⟨rfl, rfl⟩

/-- Append of nothing. -/
theorem app_none {ops : Array Oper} {rest : List Oper} {o : Oper} {a : Act} {Q : Exit → Act → World → Prop} {W : World} (t e : TypeId) (size bytes : Nat) (z : Value) (ht : Tryz.prog.underlying t = some (.slice e))
    (hinfo : (Tryz.prog.info? e).map (fun i => (i.zero, i.size, i.bytes)) = some (some z, size, bytes))
    (hgd : o.guard = none) (s x : Operand) (ho : o.op = .call { callee := .builtin .append, args := #[s, x], argTypes := #[t, t] })
    (base n : Nat) (v : Value) (us : List Value) (hs : a.eval s = v) (hown : W.ownsRow base e size v n us) (p : Option Addr) (c : Nat)
    (hx : a.eval x = .slice p 0 c)
    (h : wpList Tryz.prog ops Q rest (a.put o.dst v) W) : wpList Tryz.prog ops Q (o :: rest) a W := by
  obtain ⟨i, hi, hz, hsize, hbytes⟩ := info_parts hinfo
  have hr : (Builtin.append_ #[t, t] o.type #[v, .slice p 0 c]).run Tryz.prog W = .ok v W := by
    have hld : ∀ b : Addr, (loadCells b 0).run Tryz.prog W = .ok #[] W := fun b => run_loadCells_list (P := Tryz.prog) (w := W) b [] (fun j v h => by simp at h)
    rcases hown.2 with ⟨rfl, rfl⟩ | ⟨g, cap, cur, rfl, _, _, hnc, _⟩
    · cases p <;> simp [Builtin.append_, run_underlying ht, sizeOf, typeInfo, hi, Builtin.lenOf, Builtin.firstCells, hld]
    · cases p <;> simp [Builtin.append_, run_underlying ht, sizeOf, typeInfo, hi, Builtin.lenOf, Builtin.firstCells, hnc, storeCells, hld]
  refine wpList_plain hgd fun K hK => ?_
  unfold Oper.wp execOp
  simp only [ho, resolve, invoke, builtin, Sem.run_bind, Sem.run_pure, Result.andThen_ok, List.map_toArray, List.map_cons, List.map_nil, hs, hx, hr]
  exact hK _ _ h

/-- A polynomial that is made: as long at most, of that value everywhere. -/
def PolyAt (w : World) (base n : Nat) (f : B → B) (v : Value) : Prop := ∃ l, Own w base v l ∧ l.length ≤ n ∧ ∀ x, ev l x = f x

theorem empty_own (w : World) : Own (w.alloc (.cells #[] 5)) w.heap.size (.slice (some ⟨w.heap.size, 0, none⟩) 0 0) [] := World.ownsRow_lit w #[] 0 (Nat.le_refl _) (by unfold maxLen; omega) rfl

theorem ev_full {l : List B} {n : Nat} (h : l.length = n) (x : B) : ev (l.take n) x = ev l x := by rw [← h, List.take_length]

theorem lean_any (w : World) (base n : Nat) (f : B → B) (v : Value) (hv : PolyAt w base n f v) (hn : n ≤ 1000000) :
    Calls Tryz.prog 116 #[v] w fun e w' => ∃ v', e = .returned v' ∧ PolyAt w' w.heap.size n f v' ∧ Below w.heap.size w w' := by
  obtain ⟨l, ho, hln, hf⟩ := hv
  have HF := Lib.hid hf
  have HO := Lib.hid ho
  have HB0 := Lib.hid (show Below w.heap.size w (w.alloc (.cells #[] 5)) from (Below.refl _ _).alloc (Nat.le_refl _) _)
  have HE0 := Lib.hid (empty_own w)
  clear hf
  go_enter Tryz.func116, Tryz.ntmps116
  by_cases hl0 : l.length = 0
  · obtain rfl : l = [] := List.eq_nil_of_length_eq_zero hl0
    obtain ⟨p, c, rfl⟩ := ho.shape
    clear ho
    have HFin := Lib.hid (show PolyAt (w.alloc (.cells #[] 5)) w.heap.size n f (.slice (some ⟨w.heap.size, 0, none⟩) 0 0) from ⟨[], HE0.out, by simp, HF.out⟩)
    cases p with
    | none =>
      go_wp2
      go_loop [3] (fun i => i = .int .i64 0) (fun i => 0)
      case atStart => rfl
      case round =>
        subst hrel
        go_wp2
        go_ret
        exact ⟨_, rfl, HFin.out, HB0.out⟩
    | some p =>
      go_wp2
      go_loop [3] (fun i => i = .int .i64 0) (fun i => 0)
      case atStart => rfl
      case round =>
        subst hrel
        go_wp2
        go_ret
        exact ⟨_, rfl, HFin.out, HB0.out⟩
  · obtain ⟨g, c, rfl, hbg, hr⟩ := ho.row (by omega)
    obtain ⟨n0, hn0⟩ : ∃ n0, l.length = n0 := ⟨_, rfl⟩
    have HR := Lib.hid hr
    have hcap : l.length ≤ c := by
      obtain ⟨C, h1, h2, h3, _⟩ := hr
      exact h3
    rw [hn0] at hcap hln
    have hnb : n0 ≤ 1000000 := by omega
    clear ho hr
    rw [hn0]
    have HN0 := Lib.hid hn0
    clear hn0
    go_wp2
    go_loop [3] (fun i => ∃ m : Nat, m ≤ n0 ∧ i = .int .i64 (m : Int) ∧ ∀ x, ev (l.take m) x = f x) (fun i => (intOf i).toNat)
    case atStart => exact ⟨n0, Nat.le_refl _, rfl, fun x => by rw [ev_full HN0.out]; exact HF.out x⟩
    case round =>
      obtain ⟨m, hm, rfl, hx⟩ := hrel
      have HX := Lib.hid hx
      clear hx
      by_cases hm0 : m = 0
      · subst hm0
        go_wp2
        go_ret
        exact ⟨_, rfl, ⟨[], HE0.out, by simp, HX.out⟩, HB0.out⟩
      · obtain ⟨q, rfl⟩ : ∃ q, m = q + 1 := ⟨m - 1, by omega⟩
        have d1 := HR.out.cell (i := q) (by rw [HN0.out]; omega)
        by_cases hz : l.getD q 0 = 0
        · rw [hz] at d1
          have HX2 := Lib.hid (show ∀ x, ev (l.take q) x = f x from fun x => by
            rw [← HX.out x, ← ev_drop (by rw [HN0.out]; omega) hz x])
          clear hz
          go_wp2
          go_round
          case rel => exact ⟨q, by omega, by go_num, HX2.out⟩
          case measure => simp [intOf]
        · obtain ⟨c0, hc0⟩ : ∃ c0, l.getD q 0 = c0 := ⟨_, rfl⟩
          rw [hc0] at d1 hz
          have hz1 : c0.v ≠ 0 := fun e => hz (B.ext e)
          have hz2 : ((c0.v : Int) == 0) = false := by simp; omega
          have hg : g < w.heap.size := HR.out.lt
          have HC := Lib.hid (show ∀ i, i < q + 1 → (w.alloc (.cells #[] 5)).cell? ⟨g, 0 + i, none⟩ = some (bv ((l.take (q + 1)).getD i 0)) from fun i hi => by
            rw [Nat.zero_add, ((Kept.alloc (fun _ => False) w _).at0 i hg), HR.out.cell (by rw [HN0.out]; omega), List.getD_eq_getElem?_getD, List.getD_eq_getElem?_getD, List.getElem?_take, if_pos hi])
          have HML := Lib.hid (show (l.take (q + 1)).length = q + 1 by rw [List.length_take, HN0.out]; omega)
          have hsz : (w.alloc (.cells #[] 5)).heap.size = w.heap.size + 1 := by simp
          clear hz hc0
          go_wp2_with (at_builtin; refine app_bytes 50 Tryz.underlying50 rfl _ _ rfl w.heap.size 0 (q + 1) _ [] (l.take (q + 1)) rfl HML.out rfl HE0.out g 0 _ rfl HC.out (by omega) (by omega) (by omega) ?_; intro g' c' w6 hR6 hb6 hk6 hg6)
          go_ret
          refine ⟨_, rfl, ⟨l.take (q + 1), ?_, by rw [HML.out]; omega, HX.out⟩, HB0.out.trans ⟨hk6.os, hk6.tape, hk6.output, hk6.size, fun i hi => hk6.block i (by omega) (fun e => ?_)⟩⟩
          · have := hR6.own hb6
            rw [List.nil_append, HML.out] at this
            exact this
          · have e2 : w.heap.size = i := own_is e
            omega
end -- RefC

section -- RefD
open Go.RowKit Go.Maps
set_option linter.unusedVariables false
set_option maxRecDepth 100000
set_option maxHeartbeats 2000000

theorem radd_any (w : World) (va vb : Value) (p q : List B) (n : Nat) (hp : BytesAt w va p) (hq : BytesAt w vb q) (hpn : p.length ≤ n) (hqn : q.length ≤ n) (hn : n ≤ 1000000) :
    Calls Tryz.prog 115 #[va, vb] w fun e w' => ∃ v', e = .returned v' ∧ PolyAt w' w.heap.size n (fun x => ev p x + ev q x) v' ∧ Below w.heap.size w w' := by
  obtain ⟨pa, ca, rfl, hha⟩ := hp
  obtain ⟨pb, cb, rfl, hhb⟩ := hq
  have HA := Lib.hid hha
  have HB := Lib.hid hhb
  obtain ⟨np, hnp⟩ : ∃ np, p.length = np := ⟨_, rfl⟩
  obtain ⟨nq, hnq⟩ : ∃ nq, q.length = nq := ⟨_, rfl⟩
  obtain ⟨m, hm⟩ : ∃ m, max np nq = m := ⟨_, rfl⟩
  rw [hnp] at HA hpn ⊢
  rw [hnq] at HB hqn ⊢
  have hmp : np ≤ m := by omega
  have hmq : nq ≤ m := by omega
  have hmn : m ≤ n := by omega
  have HNP := Lib.hid hnp
  have HNQ := Lib.hid hnq
  have hmx : max (np : Int) (nq : Int) = m := by omega
  clear hha hhb hnp hnq hm
  have hmk := run_make_one (w := w) 50 5 (.int .u8 0) 1 Tryz.underlying50 infoB rfl (by omega) m (by omega)
  go_enter Tryz.func115, Tryz.ntmps115
  go_wp2
  clear hmk
  have hF := RowF.made w m
  have hB := Kept.toBelow (Kept.alloc (fun _ => False) w (.cells (Array.replicate m (.int .u8 0)) 5)) (Nat.le_refl _) (fun _ h => h.elim)
  have HF := Lib.hid hF
  have HBW := Lib.hid hB
  clear hF hB
  generalize (w.alloc (.cells (Array.replicate m (.int .u8 0)) 5)) = w1 at *
  go_loopw [6] (fun i wr => ∃ (t : Nat) (o : List B), t ≤ np ∧ i = .int .i64 (t : Int) ∧ RowF wr w.heap.size o ∧ o.length = m ∧ (∀ x, ev o x = ev (p.take t) x) ∧ (∀ j, t ≤ j → o.getD j 0 = 0) ∧ Below w.heap.size w wr) (fun i _ => np - (intOf i).toNat)
  case atStart => exact ⟨0, _, Nat.zero_le _, rfl, HF.out, by simp, fun x => by rw [ev_zero]; rfl, fun j _ => by rw [List.getD_eq_getElem?_getD, List.getElem?_replicate]; split <;> rfl, HBW.out⟩
  case round =>
    obtain ⟨w0, rfl⟩ : ∃ w0, w0 = wr := ⟨_, rfl⟩
    obtain ⟨t, o, ht, rfl, hr, hol, hev, hz, hB⟩ := hrel
    have HR := Lib.hid hr
    have HOL := Lib.hid hol
    have HEV := Lib.hid hev
    have HZ := Lib.hid hz
    have HBR := Lib.hid hB
    clear hr hol hev hz
    by_cases hlt : t < np
    · obtain ⟨g, off, rfl, hc⟩ := HA.out (by omega)
      have z := hc t hlt
      have d1 := (hB.cell (p := ⟨g, off + t, none⟩) (blt z)).trans z
      have d2 := HR.out.cell (i := t) (by rw [HOL.out]; omega)
      have d3 := HR.out.fz t
      obtain ⟨c, hc'⟩ : ∃ c, p.getD t 0 = c := ⟨_, rfl⟩
      rw [hc'] at d1
      have HC' := Lib.hid hc'
      have htm : t < m := by omega
      have hne : ¬ g = w.heap.size := by have := blt z; omega
      clear hc z hB hc'
      go_wp2
      go_roundw
      case rel =>
        refine ⟨t + 1, o.set t c, by omega, by go_num, HR.out.set (by rw [HOL.out]; omega) c, by rw [List.length_set]; exact HOL.out, fun x => ?_, fun j hj => ?_, HBR.out.setCell (Nat.le_refl _) _⟩
        · rw [ev_set0 _ _ (by rw [HOL.out]; omega) (HZ.out t (Nat.le_refl _)), HEV.out, ev_take (by rw [HNP.out]; omega), HC'.out]
        · rw [getD_set_ne (by omega)]
          exact HZ.out j (by omega)
      case measure => simp [intOf]; omega
    · obtain rfl : t = np := by omega
      have HEP := Lib.hid (show ∀ x, ev o x = ev p x from fun x => by rw [HEV.out, ev_full HNP.out])
      go_wp2
      go_loopw [7] (fun i wr => ∃ (t : Nat) (o : List B), t ≤ nq ∧ i = .int .i64 (t : Int) ∧ RowF wr w.heap.size o ∧ o.length = m ∧ (∀ x, ev o x = ev p x + ev (q.take t) x) ∧ Below w.heap.size w wr) (fun i _ => nq - (intOf i).toNat)
      case atStart => exact ⟨0, o, Nat.zero_le _, rfl, HR.out, HOL.out, fun x => by rw [HEP.out]; show ev p x = ev p x + 0; grind, HBR.out⟩
      case round =>
        obtain ⟨t2, o2, ht2, rfl, hr, hol, hev, hB⟩ := hrel
        have HR2 := Lib.hid hr
        have HOL2 := Lib.hid hol
        have HEV2 := Lib.hid hev
        have HBR2 := Lib.hid hB
        clear hr hol hev
        by_cases hlt2 : t2 < nq
        · obtain ⟨g, off, rfl, hc⟩ := HB.out (by omega)
          have z := hc t2 hlt2
          have d1 := (hB.cell (p := ⟨g, off + t2, none⟩) (blt z)).trans z
          have d2 := HR2.out.cell (i := t2) (by rw [HOL2.out]; omega)
          have d3 := HR2.out.fz t2
          obtain ⟨c, hc'⟩ : ∃ c, q.getD t2 0 = c := ⟨_, rfl⟩
          obtain ⟨b, hb'⟩ : ∃ b, o2.getD t2 0 = b := ⟨_, rfl⟩
          rw [hc'] at d1
          rw [hb'] at d2
          have HC' := Lib.hid hc'
          have HSet := Lib.hid (show ∀ x, ev (o2.set t2 (b + c)) x = ev o2 x + c * pw x t2 from fun x => by rw [← hb']; exact ev_set o2 t2 c x (by rw [HOL2.out]; omega))
          have hxor := u8_xor_nat b.v c.v b.lt c.lt
          have htm : t2 < m := by omega
          clear hc z hB hc' hb'
          go_wp2_with fail
          refine wp_quiet_store 12 (by kernel_rfl) (by kernel_rfl) ?_
          simp only [List.take_succ_cons, List.take_zero, List.drop_succ_cons, List.drop_zero]
          repeat (quiet_step (fail))
          refine wpQuiet_nil ?_
          rintro w5 ⟨nq5, rfl⟩
          go_wp2
          refine calmQ.normal ?_
          go_wp2
          go_roundw
          case rel =>
            refine ⟨t2 + 1, o2.set t2 (b + c), by omega, by go_num, (show RowF (World.drewN _ nq5) w.heap.size o2 from HR2.out).set (i := t2) (by rw [HOL2.out]; omega) (b + c), by rw [List.length_set]; exact HOL2.out, fun x => ?_, (show Below w.heap.size w (World.drewN _ nq5) from ⟨HBR2.out.os, HBR2.out.tape, HBR2.out.output, HBR2.out.size, HBR2.out.block⟩).setCell (Nat.le_refl _) _⟩
            rw [HSet.out, HEV2.out, ev_take (by rw [HNQ.out]; omega), HC'.out]
            grind
          case measure => simp [intOf]; omega
        · obtain rfl : t2 = nq := by omega
          have HFin := Lib.hid (show PolyAt wr w.heap.size n (fun x => ev p x + ev q x) (.slice (some ⟨w.heap.size, 0, none⟩) m m) from ⟨o2, by
            have := HR2.out.own (base := w.heap.size) (Nat.le_refl _) (by rw [HOL2.out]; unfold maxLen; omega)
            rw [HOL2.out] at this
            exact this, by rw [HOL2.out]; exact hmn, fun x => by rw [HEV2.out, ev_full HNQ.out]⟩)
          go_wp2_with fail
          refine (lean_any wr w.heap.size n _ _ HFin.out hn).mono ?_
          rintro e w5 ⟨v', rfl, hP, hB5⟩
          have HP := Lib.hid hP
          have HB9 := Lib.hid (below_more HBR2.out hB5 HBR2.out.size)
          have HSZ := Lib.hid HBR2.out.size
          clear hP hB5
          go_wp2
          go_ret
          obtain ⟨l, a1, a2, a3⟩ := HP.out
          exact ⟨_, rfl, ⟨l, a1.weaken HSZ.out, a2, a3⟩, HB9.out⟩
end -- RefD

end Go.Proofs.YtanjchpkekehgaaGreat
