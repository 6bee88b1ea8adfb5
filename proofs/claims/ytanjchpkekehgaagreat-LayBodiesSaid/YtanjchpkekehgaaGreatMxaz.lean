/-
  RefF: Walks of the reference, layer 2 (poly): Through.
  RefG: Walks of the reference, layer 4 (lagr): Value, Weights, Values.
-/
import Derived.Test.YtanjchpkekehgaaGreatMxay
namespace Go.Proofs.YtanjchpkekehgaaGreat

section -- RefF
open Go.RowKit Go.Maps
set_option linter.unusedVariables false
set_option maxRecDepth 100000
set_option maxHeartbeats 4000000

section
variable {w w' : World} {base n : Nat} {f : B → B} {v : Value}
theorem PolyAt.below (h : PolyAt w base n f v) (hb : Below w.heap.size w w') : PolyAt w' base n f v := by
  obtain ⟨l, h1, h2, h3⟩ := h
  exact ⟨l, h1.below hb, h2, h3⟩
theorem PolyAt.lower {base' : Nat} (h : PolyAt w base n f v) (hb : base' ≤ base) : PolyAt w base' n f v := by
  obtain ⟨l, h1, h2, h3⟩ := h
  exact ⟨l, h1.weaken hb, h2, h3⟩
theorem PolyAt.to {n' : Nat} {g : B → B} (h : PolyAt w base n f v) (hn : n ≤ n') (hg : ∀ x, f x = g x) : PolyAt w base n' g v := by
  obtain ⟨l, h1, h2, h3⟩ := h
  exact ⟨l, h1, Nat.le_trans h2 hn, fun x => (h3 x).trans (hg x)⟩
theorem PolyAt.shape (h : PolyAt w base n f v) : ∃ p k c, v = .slice p k c := by
  obtain ⟨l, h1, h2, h3⟩ := h
  obtain ⟨p, c, e⟩ := h1.shape
  exact ⟨p, _, c, e⟩
end

theorem nodup_getD {xs : List B} (hn : xs.Nodup) {i k : Nat} (hi : i < xs.length) (hk : k < xs.length) (h : i ≠ k) : (xs.getD i 0).v ≠ (xs.getD k 0).v := by
  intro e
  have e2 := B.ext e
  rw [List.getD_eq_getElem?_getD, List.getD_eq_getElem?_getD, List.getElem?_eq_getElem hi, List.getElem?_eq_getElem hk] at e2
  exact h (nodup_inj hn hi hk (by simpa using e2))
theorem lit_one (w : World) (x : B) : BytesAt (w.alloc (.cells #[bv x] 5)) (.slice (some ⟨w.heap.size, 0, none⟩) 1 1) [x] :=
  ⟨_, _, rfl, fun _ => ⟨_, _, rfl, fun i hi => by
    obtain rfl : i = 0 := by simp at hi; omega
    exact (World.cell?_alloc_new w _ _ 0).trans rfl⟩⟩
theorem lit_two (w : World) (x y : B) : BytesAt (w.alloc (.cells #[bv x, bv y] 5)) (.slice (some ⟨w.heap.size, 0, none⟩) 2 2) [x, y] :=
  ⟨_, _, rfl, fun _ => ⟨_, _, rfl, fun i hi => by
    obtain rfl | rfl : i = 0 ∨ i = 1 := by simp at hi; omega
    · exact (World.cell?_alloc_new w _ _ 0).trans rfl
    · exact (World.cell?_alloc_new w _ _ 1).trans rfl⟩⟩
theorem BytesAt.al {w : World} {v : Value} {l : List B} (h : BytesAt w v l) (x : Obj) : BytesAt (w.alloc x) v l := h.kept (Kept.alloc (fun _ => False) w x) (fun _ _ h => h)
theorem one_poly (w : World) (base : Nat) (hb : base ≤ w.heap.size) : PolyAt (w.alloc (.cells #[.int .u8 1] 5)) base 1 (fun _ => 1) (.slice (some ⟨w.heap.size, 0, none⟩) 1 1) :=
  ⟨[1], (World.ownsRow_lit w #[.int .u8 1] 1 hb (by unfold maxLen; omega) rfl), by simp, fun x => ev_one 1 x⟩
theorem bal' (w : World) (x : Obj) : Below w.heap.size w (w.alloc x) := (Kept.alloc (fun _ => False) w x).toBelow (Nat.le_refl _) (fun _ h => h.elim)
theorem lagSum {xs ys : List B} {m : Nat} (c : B) (hm : m < xs.length) (hc : ys.getD m 0 * (pr (xs.eraseIdx m) (xs.getD m 0)).inv = c) (x : B) :
    sm m (fun i => lag xs i x * ys.getD i 0) + pS xs m x xs.length * c = sm (m + 1) (fun i => lag xs i x * ys.getD i 0) := by
  show _ = sm m _ + lag xs m x * ys.getD m 0
  rw [pS_eq xs m x xs.length (Nat.le_refl _), List.take_length, ← hc]
  unfold lag
  grind

theorem rthrough_any (w : World) (va vb : Value) (xs ys : List B) (n : Nat) (hx : BytesAt w va xs) (hy : BytesAt w vb ys) (hlx : xs.length = n) (hly : ys.length = n) (hn : xs.Nodup) (hs : n ≤ 256) :
    Calls Tryz.prog 95 #[va, vb] w fun e w' => ∃ v, e = .returned (.tuple #[v, .int .i64 0]) ∧ PolyAt w' w.heap.size 600 (fun x => sm n fun i => lag xs i x * ys.getD i 0) v ∧ Below w.heap.size w w' := by
  obtain ⟨pa, ca, rfl, hha⟩ := hx
  obtain ⟨pb, cb, rfl, hhb⟩ := hy
  rw [hlx] at hha ⊢
  rw [hly] at hhb ⊢
  have HA := Lib.hid hha
  have HB := Lib.hid hhb
  have HLX := Lib.hid hlx
  have HLY := Lib.hid hly
  have HN := Lib.hid hn
  clear hha hhb hlx hly hn
  go_enter Tryz.func95, Tryz.ntmps95
  go_wp2
  go_loopw [6, 7] (fun i _ wr => ∃ (t nq : Nat), t ≤ n ∧ i = .int .i64 (t : Int) ∧ wr = w.drewN nq) (fun i _ _ => n - (intOf i).toNat)
  case atStart => exact ⟨0, 0, Nat.zero_le _, rfl, rfl⟩
  case round =>
    obtain ⟨t, nq, ht, rfl, rfl⟩ := hrel
    by_cases hlt : t < n
    · obtain ⟨g, off, rfl, hc⟩ := HA.out (by omega)
      have HC := Lib.hid hc
      clear hc
      go_wp2
      go_loopw [7] (fun i wr => ∃ (k nq : Nat), k ≤ t ∧ i = .int .i64 (k : Int) ∧ wr = w.drewN nq) (fun i _ => t - (intOf i).toNat)
      case atStart => exact ⟨0, nq, Nat.zero_le _, rfl, rfl⟩
      case round =>
        obtain ⟨k, nq2, hk, rfl, rfl⟩ := hrel
        by_cases hlt2 : k < t
        · have d1 := HC.out t hlt
          have d2 := HC.out k (by omega)
          have hne := nodup_getD HN.out (i := t) (k := k) (by rw [HLX.out]; omega) (by rw [HLX.out]; omega) (by omega)
          obtain ⟨a, ha⟩ : ∃ a, xs.getD t 0 = a := ⟨_, rfl⟩
          obtain ⟨b, hb⟩ : ∃ b, xs.getD k 0 = b := ⟨_, rfl⟩
          rw [ha] at d1 hne
          rw [hb] at d2 hne
          have hne2 : ((a.v : Int) == (b.v : Int)) = false := by simp; omega
          have hne3 : ¬ (a.v : Int) = (b.v : Int) := by omega
          clear ha hb
          go_wp2_with fail
          go_quiet (fail)
          go_wp2
          go_roundw
          case rel => exact ⟨k + 1, _, by omega, by go_num, rfl⟩
          case measure => simp [intOf]; omega
        · obtain rfl : k = t := by omega
          go_wp2
          go_roundw
          case rel => exact ⟨k + 1, nq2, by omega, by go_num, rfl⟩
          case measure => simp [intOf]; omega
    · obtain rfl : t = n := by omega
      have hB0 : Below w.heap.size w (w.drewN nq) := belowDr (Below.refl _ _) nq
      have HB0 := Lib.hid hB0
      have HSZ := Lib.hid (show (w.drewN nq).heap.size = w.heap.size from rfl)
      clear hB0
      go_wp2
      generalize w.drewN nq = wq at *
      go_loopw [8, 9, 10, 11, 12, 13] (fun v i _ _ _ _ wr => ∃ m : Nat, m ≤ t ∧ i = .int .i64 (m : Int) ∧ PolyAt wr w.heap.size 600 (fun x => sm m fun i => lag xs i x * ys.getD i 0) v ∧ Below w.heap.size w wr) (fun _ i _ _ _ _ _ => t - (intOf i).toNat)
      case atStart => exact ⟨0, Nat.zero_le _, rfl, ⟨[], Own.nil _ _, by simp, fun x => rfl⟩, HB0.out⟩
      case round =>
        obtain ⟨w0, rfl⟩ : ∃ w0, w0 = wr := ⟨_, rfl⟩
        obtain ⟨m, hm, rfl, hP, hB⟩ := hrel
        obtain ⟨pv, lv, cv, rfl⟩ := hP.shape
        have HP := Lib.hid hP
        have HBW := Lib.hid hB
        have hsz := hB.size
        clear hP
        by_cases hlt : m < t
        · obtain ⟨ga, oa, rfl, hca⟩ := HA.out (by omega)
          obtain ⟨gb, ob, rfl, hcb⟩ := HB.out (by omega)
          have HCA := Lib.hid (fun i hi => (show w0.cell? ⟨ga, oa + i, none⟩ = some (bv (xs.getD i 0)) from (hB.cell (p := ⟨ga, oa + i, none⟩) (blt (hca i hi))).trans (hca i hi)))
          have HCB := Lib.hid (fun i hi => (show w0.cell? ⟨gb, ob + i, none⟩ = some (bv (ys.getD i 0)) from (hB.cell (p := ⟨gb, ob + i, none⟩) (blt (hcb i hi))).trans (hcb i hi)))
          have HO := Lib.hid (one_poly w0 w.heap.size hsz)
          have HB1 := Lib.hid (show Below w0.heap.size w0 (w0.alloc (.cells #[.int .u8 1] 5)) from (Below.refl _ _).alloc (Nat.le_refl _) _)
          clear hca hcb hB
          go_wp2
          generalize w0.alloc (.cells #[.int .u8 1] 5) = w1 at *
          go_loopw [10, 11] (fun v i wr => ∃ k : Nat, k ≤ t ∧ i = .int .i64 (k : Int) ∧ PolyAt wr w.heap.size (1 + 2 * k) (fun x => pS xs m x k) v ∧ Below w0.heap.size w0 wr) (fun _ i _ => t - (intOf i).toNat)
          case atStart => exact ⟨0, Nat.zero_le _, rfl, HO.out, HB1.out⟩
          case round =>
            obtain ⟨k, hk, rfl, hP, hB⟩ := hrel
            obtain ⟨pp, lp, cp, rfl⟩ := hP.shape
            have HP2 := Lib.hid hP
            have HBR := Lib.hid hB
            have hsz2 := hB.size
            clear hP
            by_cases hlt2 : k < t
            · by_cases hkm : k = m
              · subst hkm
                have HS := Lib.hid (show ∀ x, pS xs k x k = pS xs k x (k + 1) from fun x => by show _ = if k = k then _ else _; rw [if_pos rfl])
                clear hB
                go_wp2
                go_roundw
                case rel => exact ⟨k + 1, by omega, by go_num, HP2.out.to (by omega) HS.out, HBR.out⟩
                case measure => simp [intOf]; omega
              · have d1 := (hB.cell (p := ⟨ga, oa + k, none⟩) (blt (HCA.out k hlt2))).trans (HCA.out k hlt2)
                have HS := Lib.hid (show ∀ x, pS xs m x k * (x + xs.getD k 0) = pS xs m x (k + 1) from fun x => by show _ = if k = m then _ else _; rw [if_neg hkm])
                obtain ⟨a, ha⟩ : ∃ a, xs.getD k 0 = a := ⟨_, rfl⟩
                rw [ha] at d1 HS
                have hne1 : (k != m) = true := by simpa using hkm
                have hne2 : ¬ (k : Int) = m := by omega
                obtain ⟨l, hl1, hl2, hl3⟩ := HP2.out
                have HL3 := Lib.hid hl3
                have HLB := Lib.hid (hl1.bytes.al (.cells #[bv a, bv 1] 5))
                have HTW := Lib.hid (lit_two wr a 1)
                have HBA := Lib.hid (bal' wr (.cells #[bv a, bv 1] 5))
                clear hB ha hl1 hl3
                go_wp2_with fail
                refine (rprod_any _ _ _ l [a, 1] (1 + 2 * (k + 1)) HLB.out HTW.out (by simp; omega) (by omega)).mono ?_
                rintro e w5 ⟨v', rfl, hP5, hB5⟩
                have HP5 := Lib.hid hP5
                have HB5 := Lib.hid (below_more HBA.out hB5 HBA.out.size)
                have HSA := Lib.hid HBA.out.size
                clear hP5 hB5
                go_wp2
                go_roundw
                case rel => exact ⟨k + 1, by omega, by go_num, (HP5.out.lower (by have := HSA.out; omega)).to (Nat.le_refl _) (fun x => by rw [HL3.out, ev_two]; exact HS.out x), below_more HBR.out HB5.out HBR.out.size⟩
                case measure => simp [intOf]; omega
            · obtain rfl : k = t := by omega
              have d1 := (hB.cell (p := ⟨gb, ob + m, none⟩) (blt (HCB.out m hlt))).trans (HCB.out m hlt)
              have d2 := (hB.cell (p := ⟨ga, oa + m, none⟩) (blt (HCA.out m hlt))).trans (HCA.out m hlt)
              obtain ⟨l, hl1, hl2, hl3⟩ := HP2.out
              have hE : ev l (xs.getD m 0) = pr (xs.eraseIdx m) (xs.getD m 0) := by
                rw [hl3, ← HLX.out]
                show pS xs m _ xs.length = _
                rw [pS_eq xs m _ xs.length (Nat.le_refl _), List.take_length]
              have hE0 : ev l (xs.getD m 0) ≠ 0 := by rw [hE]; exact pr_ne (nodup_erase HN.out (by rw [HLX.out]; exact hlt))
              have HLag := Lib.hid (fun x => lagSum (xs := xs) (ys := ys) (m := m) (ys.getD m 0 * (ev l (xs.getD m 0)).inv) (by rw [HLX.out]; exact hlt) (by rw [hE]) x)
              rw [HLX.out] at HLag
              obtain ⟨a, ha⟩ : ∃ a, xs.getD m 0 = a := ⟨_, rfl⟩
              obtain ⟨y, hy⟩ : ∃ y, ys.getD m 0 = y := ⟨_, rfl⟩
              rw [ha] at d2 hE0 HLag
              rw [hy] at d1
              simp only [hy] at HLag
              have HL1 := Lib.hid hl1
              have HLB := Lib.hid hl1.bytes
              have HL3 := Lib.hid hl3
              obtain ⟨e, he⟩ : ∃ e, ev l a = e := ⟨_, rfl⟩
              rw [he] at hE0 HLag
              have HE := Lib.hid he
              have HE0 := Lib.hid hE0
              have HRV := Lib.hid (fun W (hb : BytesAt W (.slice pp lp cp) l) => (show Calls Tryz.prog 96 #[.slice pp lp cp, bv a] W fun e' w' => e' = .returned (bv e) ∧ W = w' from by rw [← HE.out]; exact rvalue_any W _ l a hb (by omega)))
              clear hB hl1 hl3 hE hE0 ha hy he
              go_wp2_with fail
              go_quiet (first
                | (go_at_call 96; exact q_one_same (HRV.out _ (by exact HLB.out)))
                | (go_at_call 114; exact q_one_same (rdiv_any _ y e HE0.out)))
              have HB3 := Lib.hid (show Below w0.heap.size w0 (wr.drewN nq) from belowDr HBR.out nq)
              have HLB3 := Lib.hid (show BytesAt (wr.drewN nq) (.slice pp lp cp) l from HLB.out)
              clear HLB
              obtain ⟨c, hc⟩ : ∃ c, y * e.inv = c := ⟨_, rfl⟩
              rw [hc] at HLag ⊢
              generalize wr.drewN nq = w3 at *
              have HO1 := Lib.hid (lit_one w3 c)
              have HA1 := Lib.hid (bal' w3 (.cells #[bv c] 5))
              have HLB4 := Lib.hid (HLB3.out.al (.cells #[bv c] 5))
              clear hc
              go_wp2_with fail
              refine (rprod_any _ _ _ l [c] 600 HLB4.out HO1.out (by simp; omega) (by omega)).mono ?_
              rintro e5 w5 ⟨v5, rfl, hP5, hB5⟩
              obtain ⟨p5, k5, c5, rfl⟩ := hP5.shape
              have HB5 := Lib.hid (below_more HB3.out (below_more HA1.out hB5 HA1.out.size) HB3.out.size)
              obtain ⟨l5, hl5, hn5, he5⟩ := hP5
              obtain ⟨l0, hl0, hn0, he0⟩ := HP.out.below HB5.out
              have HL5 := Lib.hid hl5.bytes
              have HL0 := Lib.hid hl0.bytes
              have HE5 := Lib.hid he5
              have HE0' := Lib.hid he0
              have HB05 := Lib.hid (below_more HBW.out HB5.out HBW.out.size)
              clear hB5 hl5 hl0 he5 he0
              go_wp2_with fail
              refine (radd_any _ _ _ l0 l5 600 HL0.out HL5.out hn0 hn5 (by omega)).mono ?_
              rintro e6 w6 ⟨v6, rfl, hP6, hB6⟩
              have HP6 := Lib.hid hP6
              have HB6 := Lib.hid (below_more HB05.out hB6 HB05.out.size)
              have HS6 := Lib.hid HB05.out.size
              clear hP6 hB6
              go_wp2
              go_roundw
              case rel => exact ⟨m + 1, by omega, by go_num, (HP6.out.lower HS6.out).to (Nat.le_refl _) (fun x => by rw [HE0'.out, HE5.out, HL3.out, ev_one]; exact HLag.out x), HB6.out⟩
              case measure => simp [intOf]; omega
        · obtain rfl : m = t := by omega
          clear hB
          go_wp2_with fail
          refine (lean_any _ _ _ _ _ HP.out (by omega)).mono ?_
          rintro e5 w5 ⟨v5, rfl, hP5, hB5⟩
          have HP5 := Lib.hid (hP5.lower hsz)
          have HB5 := Lib.hid (below_more HBW.out hB5 hsz)
          clear hP5 hB5
          go_wp2
          go_ret2
          exact ⟨_, rfl, HP5.out, HB5.out⟩
end -- RefF

section -- RefG
open Go.RowKit Go.Maps
set_option linter.unusedVariables false
set_option maxRecDepth 100000
set_option maxHeartbeats 2000000

/-- Append of one byte. -/
theorem app_own {ops : Array Oper} {rest : List Oper} {o : Oper} {a : Act} {Q : Exit → Act → World → Prop} {W : World}
    (hgd : o.guard = none) (s x : Operand) (ho : o.op = .call { callee := .builtin .append, args := #[s, x], argTypes := #[50, 50] })
    (base n : Nat) (v : Value) (l : List B) (y : B) (hln : l.length = n) (hown : Own W base v l) (hs : a.eval s = v)
    (hx : a.eval x = .slice (some ⟨W.heap.size, 0, none⟩) 1 1) (hn : n < 1000000000000) (hbase : base ≤ W.heap.size)
    (h : ∀ g' c' w', Own w' base (.slice (some ⟨g', 0, none⟩) (n + 1) c') (l ++ [y]) → Kept (fun k => v.ownBlock = some k) W w' → W.heap.size < w'.heap.size → (v.ownBlock = some g' ∨ W.heap.size < g') →
      wpList Tryz.prog ops Q rest (a.put o.dst (.slice (some ⟨g', 0, none⟩) (n + 1) c')) w') : wpList Tryz.prog ops Q (o :: rest) a (W.alloc (.cells #[bv y] 5)) := by
  subst hln
  refine app_el 50 5 1 1 (.int .u8 0) Tryz.underlying50 infoB rfl (by decide) hgd s x ho base l.length v (l.map bv) hs hown [bv y] rfl (one_bv y) hx hn hbase ?_
  intro g' c' w' ho' hk hs' hg'
  refine h g' c' w' ?_ hk hs' hg'
  unfold Own
  rw [List.length_append, ← map_snoc_bv]
  exact ho'
theorem RowF.made1 (w : World) (n k : Nat) (x : B) : RowF (w.alloc (.cells ((Array.replicate n (.int .u8 0)).setIfInBounds k (bv x)) 5)) w.heap.size ((List.replicate n 0).set k x) := by
  refine (heap_alloc_new w _).trans ?_
  rw [List.map_set, show (List.replicate n (0 : B)).map bv = List.replicate n (.int .u8 0) from by rw [List.map_replicate]; rfl]
  rw [← List.setIfInBounds_toArray, List.toArray_replicate]

theorem rvalues_any (w : World) (va vb vc : Value) (xs ys ts : List B) (n m : Nat) (hx : BytesAt w va xs) (hy : BytesAt w vb ys) (ht : BytesAt w vc ts) (hlx : xs.length = n) (hly : ys.length = n) (hlt : ts.length = m) (hn : xs.Nodup) (hs : n ≤ 256) (hm : m ≤ 256) :
    Calls Tryz.prog 70 #[va, vb, vc] w fun e w' => ∃ v, e = .returned (.tuple #[v, .int .i64 0]) ∧ Own w' w.heap.size v (rowL m fun j => sm n fun i => lag xs i (ts.getD j 0) * ys.getD i 0) ∧ Below w.heap.size w w' := by
  have HX := Lib.hid hx
  have HY := Lib.hid hy
  have HLX := Lib.hid hlx
  have HLY := Lib.hid hly
  have HN := Lib.hid hn
  obtain ⟨pa, ca, rfl⟩ := hx.shape
  obtain ⟨pb, cb, rfl⟩ := hy.shape
  obtain ⟨pt, ct, rfl, hht⟩ := ht
  rw [hlx] at HX ⊢
  rw [hly] at HY ⊢
  rw [hlt] at hht ⊢
  have HT := Lib.hid hht
  clear hx hy hlx hly hn hht hlt
  go_enter Tryz.func70, Tryz.ntmps70
  go_wp2_with fail
  refine (rthrough_any w _ _ xs ys n HX.out HY.out HLX.out HLY.out HN.out hs).mono ?_
  rintro e w1 ⟨v, rfl, hP, hB⟩
  obtain ⟨l, h1, h2, h3⟩ := hP
  obtain ⟨p, c, rfl⟩ := h1.shape
  have HB := Lib.hid hB
  have HO := Lib.hid h1
  have H3 := Lib.hid h3
  have hsz := hB.size
  clear h1 h3 hB
  go_wp2
  go_loopw [10, 11] (fun v i wr => ∃ k : Nat, k ≤ m ∧ i = .int .i64 (k : Int) ∧ Own wr w1.heap.size v (rowL k fun j => sm n fun i => lag xs i (ts.getD j 0) * ys.getD i 0) ∧ Below w1.heap.size w1 wr) (fun _ i _ => m - (intOf i).toNat)
  case atStart => exact ⟨0, Nat.zero_le _, rfl, Own.nil _ _, Below.refl _ _⟩
  case round =>
    obtain ⟨k, hk, rfl, ho, hB⟩ := hrel
    obtain ⟨pv, cv, rfl⟩ := ho.shape
    rw [rowL_len] at ho ⊢
    have HOV := Lib.hid ho
    have HBR := Lib.hid hB
    have hsr := hB.size
    clear ho
    by_cases hlt : k < m
    · obtain ⟨g, off, rfl, hc⟩ := HT.out (by omega)
      have z := hc k hlt
      have z1 := (HB.out.cell (p := ⟨g, off + k, none⟩) (blt z)).trans z
      have d1 := (hB.cell (p := ⟨g, off + k, none⟩) (blt z1)).trans z1
      have HS := Lib.hid (show rowL k (fun j => sm n fun i => lag xs i (ts.getD j 0) * ys.getD i 0) ++ [sm n fun i => lag xs i (ts.getD k 0) * ys.getD i 0] = rowL (k + 1) (fun j => sm n fun i => lag xs i (ts.getD j 0) * ys.getD i 0) by simp [rowL, List.range_succ])
      have hV := rvalue_any wr _ l (ts.getD k 0) (HO.out.below hB).bytes (by omega)
      rw [H3.out] at hV
      obtain ⟨t, htt⟩ : ∃ t, ts.getD k 0 = t := ⟨_, rfl⟩
      rw [htt] at d1 hV HS
      obtain ⟨r, hr⟩ : ∃ r, (sm n fun i => lag xs i t * ys.getD i 0) = r := ⟨_, rfl⟩
      simp only [hr] at hV HS
      have HV := Lib.hid hV
      clear hc z z1 hB htt hr hV
      go_wp2_with fail
      refine HV.out.mono ?_
      rintro e w2 ⟨rfl, rfl⟩
      go_wp2_with (at_builtin; refine app_own rfl _ _ rfl w1.heap.size k _ _ r (rowL_len _ _) HOV.out rfl rfl (by omega) hsr ?_; intro g' c' w6 hR6 hk6 hs6 hg6)
      go_roundw
      case rel =>
        refine ⟨k + 1, by omega, by go_num, by rw [← HS.out]; exact hR6, HBR.out.trans (hk6.toBelow hsr (fun i hi => (HOV.out.blk i hi).1))⟩
      case measure => simp [intOf]; omega
    · obtain rfl : k = m := by omega
      go_wp2
      go_ret2
      exact ⟨_, rfl, HOV.out.weaken hsz, below_more HB.out HBR.out hsz⟩

theorem wts_unit {xs : List B} {j : Nat} (hj : j < xs.length) (x : B) : sm xs.length (fun i => lag xs i x * ((List.replicate xs.length 0).set j 1).getD i 0) = lag xs j x := by
  rw [sm_one hj (fun i hi hne => by
    rw [getD_set_ne (fun e => hne e.symm), List.getD_eq_getElem?_getD, List.getElem?_replicate]
    simp [hi]
    grind)]
  rw [List.getD_eq_getElem?_getD, List.getElem?_set_self (by simpa using hj)]
  show lag xs j x * 1 = _
  grind
end -- RefG

end Go.Proofs.YtanjchpkekehgaaGreat
