/-
  Walks of the reference, layer 10 (lay): Gather.
-/
import Derived.Test.YtanjchpkekehgaaGreatMxby
namespace Go.Proofs.YtanjchpkekehgaaGreat
open Go.RowKit Go.Maps
set_option linter.unusedVariables false
set_option linter.unusedSimpArgs false
set_option maxRecDepth 100000
set_option maxHeartbeats 4000000

theorem sub_bytes {W : World} {p : Option Addr} {n c a b : Nat} {l : List B} (h : BytesAt W (.slice p n c) l) (hab : a ≤ b) (hbn : b ≤ l.length) (hlc : l.length ≤ c) : BytesAt W (.slice (if c = a then p else p.map (·.add (a * 1))) (b - a) (c - a)) ((l.drop a).take (b - a)) := by
  obtain ⟨_, _, e, hh⟩ := h
  simp only [Value.slice.injEq] at e
  obtain ⟨rfl, rfl, rfl⟩ := e
  have hl : ((l.drop a).take (b - a)).length = b - a := by rw [List.length_take, List.length_drop]; omega
  refine ⟨_, _, by rw [hl], fun h0 => ?_⟩
  rw [hl] at h0
  obtain ⟨g, off, rfl, hc⟩ := hh (by omega)
  refine ⟨g, off + a, ?_, fun i hi => ?_⟩
  · rw [if_neg (by omega), Option.map_some, Nat.mul_one]; simp [Addr.add]
  · rw [hl] at hi
    rw [Nat.add_assoc, hc (a + i) (by omega)]
    congr 2
    rw [List.getD_eq_getElem?_getD, List.getD_eq_getElem?_getD, List.getElem?_take, if_pos hi, List.getElem?_drop]

theorem rgather_bad (w : World) (n : Int) (vt vh : Value) (t : List (Int × Int)) (hs : List (Int × List B)) (hv : TableAt w vt t) (hh : HeldAt w vh hs) (hd : ¬ TableOk n t) :
    Calls Tryz.prog 20 #[.int .i64 n, vt, vh] w fun e w' => e = .returned (.tuple #[.slice none 0 0, .int .i64 2]) ∧ Below w.heap.size w w' := by
  have HR := Lib.hid (rlong_any w n _ t hv)
  obtain ⟨pt, ct, rfl⟩ := hv.shape
  obtain ⟨ph, ch, rfl, _⟩ := hh
  rw [show longV n t = 0 from if_neg hd, show tabE n t = 2 from if_neg hd] at HR
  clear hv hd
  go_enter Tryz.func20, Tryz.ntmps20
  go_wp2_with fail
  refine HR.out.mono ?_
  rintro e w2 ⟨rfl, hB2⟩
  go_wp2
  go_ret2
  exact ⟨rfl, hB2⟩

/-- Held parts of bodies, the reference's, that a call owns. -/
def HeldR (w W : World) (base : Nat) (v : Value) (hs : List (Int × List B)) : Prop := ∃ us, W.ownsRow base 73 2 v hs.length us ∧
  ∀ i, i < hs.length → us[i * 2]? = some (.int .i64 (hs.getD i (0, [])).1) ∧ ∃ u, us[i * 2 + 1]? = some u ∧ BytesAt w u (hs.getD i (0, [])).2
theorem HeldR.nil (w W : World) (base : Nat) : HeldR w W base (.slice none 0 0) [] := ⟨[], World.ownsRow_nil _ _ _ _, fun i h => absurd h (by simp)⟩
theorem HeldR.toAt {w W : World} {base : Nat} {v : Value} {hs : List (Int × List B)} (h : HeldR w W base v hs) (hB : Below w.heap.size w W) : HeldAt W v hs := by
  obtain ⟨us, h1, h2⟩ := h
  rcases h1.2 with ⟨rfl, h0⟩ | ⟨g, cap, cur, rfl, hb, hg, hnc, hcm, hcs, ht⟩
  · rw [List.eq_nil_of_length_eq_zero h0]
    exact ⟨none, 0, rfl, Nat.le_refl _, fun h => absurd h (by simp)⟩
  · have hc := h1.cells (g := g) rfl
    refine ⟨_, cap, rfl, hnc, fun _ => ⟨g, 0, rfl, fun i hi => ?_⟩⟩
    obtain ⟨e1, u, e2, e3⟩ := h2 i hi
    have c1 := hc _ _ e1
    have c2 := hc _ _ e2
    rw [add_zero_off] at c1 c2
    rw [Nat.zero_add]
    exact ⟨c1, u, c2, e3.below hB⟩
theorem HeldR.snoc {w W : World} {base n : Nat} {v' : Value} {hs : List (Int × List B)} {us : List Value} {ix : Int} {u : Value} {l : List B} (hn : hs.length = n) (hl : us.length = n * 2) (h2 : ∀ i, i < hs.length → us[i * 2]? = some (.int .i64 (hs.getD i (0, [])).1) ∧ ∃ u, us[i * 2 + 1]? = some u ∧ BytesAt w u (hs.getD i (0, [])).2)
    (hu : BytesAt w u l) (ho : W.ownsRow base 73 2 v' (n + 1) (us ++ [.int .i64 ix, u])) : HeldR w W base v' (hs ++ [(ix, l)]) := by
  refine ⟨us ++ [.int .i64 ix, u], by simpa [hn] using ho, fun i hi => ?_⟩
  by_cases e : i < hs.length
  · obtain ⟨a, y, b, c⟩ := h2 i e
    rw [List.getElem?_append_left (by omega), List.getElem?_append_left (by omega)]
    rw [show (hs ++ [(ix, l)]).getD i (0, []) = hs.getD i (0, []) by simp [List.getD_eq_getElem?_getD, List.getElem?_append_left e]]
    exact ⟨a, y, b, c⟩
  · have hi' : i = hs.length := by simp at hi; omega
    subst hi'
    rw [List.getElem?_append_right (by omega), List.getElem?_append_right (by omega)]
    rw [show (hs ++ [(ix, l)]).getD hs.length (0, []) = (ix, l) by simp [List.getD_eq_getElem?_getD]]
    rw [show hs.length * 2 - us.length = 0 by omega, show hs.length * 2 + 1 - us.length = 1 by omega]
    exact ⟨rfl, u, rfl, hu⟩
/-- The parts of all bodies. -/
def partsH (hs : List (Int × List B)) (a w : Nat) : List (Int × List B) := hs.map fun h => (h.1, (h.2.drop a).take w)
theorem partsH_len (hs : List (Int × List B)) (a w : Nat) : (partsH hs a w).length = hs.length := by simp [partsH]
theorem partsH_get {hs : List (Int × List B)} {a w i : Nat} (h : i < hs.length) : (partsH hs a w).getD i (0, []) = ((hs.getD i (0, [])).1, ((hs.getD i (0, [])).2.drop a).take w) := by
  unfold partsH
  rw [List.getD_eq_getElem?_getD, List.getD_eq_getElem?_getD, List.getElem?_map, List.getElem?_eq_getElem h]
  rfl
theorem partsH_snoc {hs : List (Int × List B)} {a w i : Nat} (h : i < hs.length) : (partsH hs a w).take i ++ [((hs.getD i (0, [])).1, ((hs.getD i (0, [])).2.drop a).take w)] = (partsH hs a w).take (i + 1) := by
  rw [List.take_add_one, List.getElem?_eq_getElem (by rw [partsH_len]; exact h), Option.toList_some]
  congr 2
  have := partsH_get (a := a) (w := w) h
  rw [List.getD_eq_getElem?_getD, List.getElem?_eq_getElem (by rw [partsH_len]; exact h), Option.getD_some] at this
  exact this.symm
theorem partsH_idx (hs : List (Int × List B)) (a w : Nat) : hIdx (partsH hs a w) = hIdx hs := by simp [partsH, hIdx]
theorem partsH_row (hs : List (Int × List B)) (a w : Nat) : hRow (partsH hs a w) = (hRow hs).map fun b => (b.drop a).take w := by simp [partsH, hRow]
theorem partsH_wide {n : Int} {long : Nat} {hs : List (Int × List B)} {a w i : Nat} (h : HeldOk n long hs) (hw : a + w ≤ long) (hi : i < hs.length) : ((partsH hs a w).getD i (0, [])).2.length = w := by
  have := partH_wide (k := hs.length) h (Nat.le_refl _) hw hi
  rw [partsH_get hi]
  rw [partH_get hi (Nat.le_refl _)] at this
  exact this
theorem partsH_dec {n long : Nat} {hs : List (Int × List B)} {k a w : Nat} (h : HeldOk n long hs) (hk : k ≤ hs.length) (hw : a + w ≤ long) : decE n k (partsH hs a w) = 0 := by
  unfold decE
  rw [if_pos ((evenH_iff _).2 (fun i hi => by
    rw [partsH_len] at hi
    rw [partsH_wide h hw hi, partsH_wide h hw (by omega)])), partsH_idx]
  exact askE_ok (h.ask hk)
theorem layersL_snoc (t : List (Int × Int)) (hs : List (Int × List B)) (i : Nat) : layersL t hs i ++ [layerL t hs i] = layersL t hs (i + 1) := by
  unfold layersL
  rw [List.range_succ, List.map_append]
  rfl

theorem infoHR : (Tryz.prog.info? 73).map (fun i => (i.zero, i.size, i.bytes)) = some (some (.agg #[.int .i64 0, .slice none 0 0]), 2, 32) := by kernel_rfl
theorem lit_twoK (w : World) (a b : Value) (t : TypeId) : ∀ (j : Nat) (u : Value), [a, b][j]? = some u → (w.alloc (.cells #[a, b] t)).cell? ⟨w.heap.size, j, none⟩ = some u := fun j u h => by
  refine (World.cell?_alloc_new w _ _ j).trans ?_
  rw [← h]
  simp
theorem rgather_tab (w : World) (N : Nat) (vt vh : Value) (t : List (Int × Int)) (hs : List (Int × List B)) (hv : TableAt w vt t) (hh : HeldAt w vh hs) (hl : hs.length ≤ 1000000) (hcap : ∀ g o c, vh = .slice (some ⟨g, o, none⟩) hs.length c → ∀ i, i < hs.length → ∀ p n c', w.cell? ⟨g, o + i * 2 + 1, none⟩ = some (.slice p n c') → n ≤ c') (hd : TableOk N t) :
    Calls Tryz.prog 20 #[.int .i64 (N : Int), vt, vh] w fun e w' => ∃ v, e = .returned (.tuple #[v, .int .i64 (heldE N (atT t t.length) hs)]) ∧ (heldE N (atT t t.length) hs = 0 → RowsAt w' v (layersL t hs (readyT t (hs.length : Int)))) ∧ (heldE N (atT t t.length) hs ≠ 0 → v = .slice none 0 0) ∧ Below w.heap.size w w' := by
  have HR := Lib.hid (rlong_any w N _ t hv)
  rw [show longV N t = ((atT t t.length : Nat) : Int) from if_pos hd, show tabE N t = 0 from if_pos hd] at HR
  have HV := Lib.hid hv
  have HD := Lib.hid hd
  obtain ⟨pt, ct, rfl, hct, htc⟩ := hv
  have HTC := Lib.hid htc
  have HH := Lib.hid hh
  obtain ⟨ph, ch, rfl, hch, hhc⟩ := hh
  have HHC := Lib.hid hhc
  have HCAP := Lib.hid hcap
  have hlow := atT_low hd.2.2.2.2 (i := t.length) (Nat.le_refl _)
  have hl8 := hd.2.2.2.1
  have hn255 : N ≤ 255 := by have := hd.2.1; omega
  have HLO := Lib.hid (show atT t t.length ≤ 1000000 by omega)
  obtain ⟨m, hm⟩ : ∃ x, hs.length = x := ⟨_, rfl⟩
  have HM := Lib.hid hm
  rw [hm] at HHC HH HCAP hl hch ⊢
  obtain ⟨T, hT⟩ : ∃ x, t.length = x := ⟨_, rfl⟩
  have HTL := Lib.hid hT
  obtain ⟨LO, hLO⟩ : ∃ x, atT t t.length = x := ⟨_, rfl⟩
  have HLE := Lib.hid hLO
  rw [hLO] at HR HLO ⊢
  rw [hT] at HTC hct hl8 HV HR ⊢
  obtain ⟨E, hE⟩ : ∃ x, heldE N LO hs = x := ⟨_, rfl⟩
  have HE := Lib.hid hE
  rw [hE]
  clear hhc htc hcap hlow hm hT hLO hd hE
  go_enter Tryz.func20, Tryz.ntmps20
  go_wp2_with fail
  refine HR.out.mono ?_
  rintro e w1 ⟨rfl, hB1⟩
  have HB1 := Lib.hid hB1
  clear hB1
  go_wp2
  go_loopw [10] (fun v wr => ∃ i : Nat, i ≤ m ∧ v = .int .i64 (i : Int) ∧ (∀ j, j < i → 0 ≤ (hs.getD j (0, [])).1 ∧ (hs.getD j (0, [])).1 < (N : Int) ∧ (hs.getD j (0, [])).2.length = LO) ∧ wr = w1) (fun v _ => m - (intOf v).toNat)
  case atStart => exact ⟨0, Nat.zero_le _, rfl, fun j h => absurd h (by omega), rfl⟩
  case round =>
    obtain ⟨i, hi, rfl, hok, rfl⟩ := hrel
    have HOK := Lib.hid hok
    clear hok
    by_cases hlt : i < m
    · obtain ⟨g, off, rfl, hc⟩ := HHC.out (by omega)
      obtain ⟨x0, u, x1, xb⟩ := hc i hlt
      have x0 := (HB1.out.cell (p := ⟨g, off + i * 2, none⟩) (blt x0)).trans x0
      have x1 := (HB1.out.cell (p := ⟨g, off + i * 2 + 1, none⟩) (blt x1)).trans x1
      obtain ⟨pu, cu, rfl⟩ := xb.shape
      have HBAD := Lib.hid (fun h => heldE_bad (n := (N : Int)) (long := LO) (hs := hs) (j := i) (by rw [HM.out]; exact hlt) h)
      have HEX := Lib.hid (show (hs.getD i (0, [])).1 = (hs.getD i (0, [])).1 ∧ (hs.getD i (0, [])).2.length = (hs.getD i (0, [])).2.length from ⟨rfl, rfl⟩)
      obtain ⟨ix, hix⟩ : ∃ x, (hs.getD i (0, [])).1 = x := ⟨_, rfl⟩
      obtain ⟨lu, hlu⟩ : ∃ x, (hs.getD i (0, [])).2.length = x := ⟨_, rfl⟩
      have HIX := Lib.hid hix
      have HLU := Lib.hid hlu
      rw [hix] at x0
      rw [hlu] at x1
      rw [hix, hlu] at HBAD
      clear hc xb hix hlu HEX
      by_cases h1 : ix < 0
      · obtain rfl : E = 2 := by rw [← HE.out]; exact HBAD.out (fun h => by omega)
        go_wp2
        go_ret2
        first | exact ⟨_, rfl, rfl, HB1.out⟩ | exact ⟨_, rfl, fun h => absurd h (by omega), fun _ => rfl, HB1.out⟩
      by_cases h2 : (N : Int) ≤ ix
      · obtain rfl : E = 2 := by rw [← HE.out]; exact HBAD.out (fun h => by omega)
        go_wp2
        go_ret2
        first | exact ⟨_, rfl, rfl, HB1.out⟩ | exact ⟨_, rfl, fun h => absurd h (by omega), fun _ => rfl, HB1.out⟩
      by_cases h3 : lu = LO
      rotate_left
      · obtain rfl : E = 2 := by rw [← HE.out]; exact HBAD.out (fun h => by omega)
        have h5 : ¬ (lu : Int) = (LO : Int) := by omega
        go_wp2
        go_ret2
        first | exact ⟨_, rfl, rfl, HB1.out⟩ | exact ⟨_, rfl, fun h => absurd h (by omega), fun _ => rfl, HB1.out⟩
      subst h3
      go_wp2
      go_roundw
      case rel =>
        refine ⟨i + 1, by omega, by go_num, fun j hj => ?_, by first | rfl | trivial⟩
        by_cases q : j = i
        · subst q
          rw [HIX.out, HLU.out]
          exact ⟨by omega, by omega, rfl⟩
        · exact HOK.out j (by omega)
      case measure => simp [intOf]; omega
    · obtain rfl : i = m := by omega
      go_wp2
      go_loopw [11, 12] (fun v _ wr => ∃ a : Nat, a ≤ i ∧ v = .int .i64 (a : Int) ∧ ((hIdx hs).take a).Nodup ∧ Below w.heap.size w wr) (fun v _ _ => i - (intOf v).toNat)
      case atStart => exact ⟨0, Nat.zero_le _, rfl, by rw [List.take_zero]; exact List.nodup_nil, HB1.out⟩
      case round =>
        obtain ⟨w2, rfl⟩ : ∃ x, x = wr := ⟨_, rfl⟩
        obtain ⟨a, ha, rfl, hnd, hB2⟩ := hrel
        have HND := Lib.hid hnd
        have HB2 := Lib.hid hB2
        clear hnd hB2
        by_cases hla : a < i
        · obtain ⟨g, off, rfl, hc⟩ := HHC.out (by omega)
          have HC := Lib.hid hc
          clear hc
          go_wp2
          go_loopw [12] (fun v wr => ∃ b : Nat, b ≤ a ∧ v = .int .i64 (b : Int) ∧ (∀ j, j < b → (hs.getD j (0, [])).1 ≠ (hs.getD a (0, [])).1) ∧ Below w.heap.size w wr) (fun v _ => a - (intOf v).toNat)
          case atStart => exact ⟨0, Nat.zero_le _, rfl, fun j h => absurd h (by omega), HB2.out⟩
          case round =>
            obtain ⟨w3, rfl⟩ : ∃ x, x = wr := ⟨_, rfl⟩
            obtain ⟨b, hb, rfl, hne, hB3⟩ := hrel
            have HNE := Lib.hid hne
            have HB3 := Lib.hid hB3
            have HD3 := Lib.hid (show Below w.heap.size w w3.drew from below_more hB3 (balD w3 1) hB3.size)
            clear hne hB3
            by_cases hlb : b < a
            · obtain ⟨x0, _⟩ := HC.out a (by omega)
              obtain ⟨y0, _⟩ := HC.out b (by omega)
              have hbi : b < i := by omega
              obtain ⟨ia, hia⟩ : ∃ x, (hs.getD a (0, [])).1 = x := ⟨_, rfl⟩
              obtain ⟨ib, hib⟩ : ∃ x, (hs.getD b (0, [])).1 = x := ⟨_, rfl⟩
              have HIA := Lib.hid hia
              have HIB := Lib.hid hib
              rw [hia] at x0
              rw [hib] at y0
              clear hia hib
              by_cases heq : ia = ib
              · obtain rfl : E = 9 := by
                  rw [← HE.out]
                  unfold heldE
                  rw [if_pos (heldE_all.2 (fun j hj => HOK.out j (by rw [HM.out] at hj; exact hj))), if_neg]
                  intro hnd
                  have la : a < (hIdx hs).length := by simp [hIdx]; rw [HM.out]; omega
                  have lb : b < (hIdx hs).length := by omega
                  refine (List.pairwise_iff_getElem.1 hnd) b a lb la hlb ?_
                  have e1 := hIdxT_get (hs := hs) (i := a) (by rw [HM.out]; omega)
                  have e2 := hIdxT_get (hs := hs) (i := b) (by rw [HM.out]; omega)
                  rw [HIA.out, List.getD_eq_getElem?_getD, List.getElem?_eq_getElem la, Option.getD_some] at e1
                  rw [HIB.out, List.getD_eq_getElem?_getD, List.getElem?_eq_getElem lb, Option.getD_some] at e2
                  rw [e1, e2, heq]
                go_wp2_with fail
                refine s_start 11 (fun W => Below w.heap.size w W) (by as_aux_lemma => kernel_rfl) (by as_aux_lemma => kernel_rfl) HD3.out ?_
                refine s_take 0 (by as_aux_lemma => kernel_rfl) (by as_aux_lemma => kernel_rfl) (by as_aux_lemma => kernel_rfl) (by as_aux_lemma => kernel_rfl) HD3.out (fun oi ho => ?_)
                simp only [List.getElem?_toArray, List.getElem?_cons_succ, List.getElem?_cons_zero, Option.some.injEq] at ho
                subst ho
                refine ⟨?_, Or.inl ⟨by rfl, fun w _ => ?_⟩, ?_⟩
                rotate_left
                · (go_simp <;> with_reducible rfl)
                try simp only [Act.put, List.setIfInBounds_toArray, List.set_cons_zero, List.set_cons_succ]
                refine s_take 1 (by as_aux_lemma => kernel_rfl) (by as_aux_lemma => kernel_rfl) (by as_aux_lemma => kernel_rfl) (by as_aux_lemma => kernel_rfl) HD3.out (fun oi ho => ?_)
                simp only [List.getElem?_toArray, List.getElem?_cons_succ, List.getElem?_cons_zero, Option.some.injEq] at ho
                subst ho
                refine ⟨?_, Or.inl ⟨by rfl, fun w _ => ?_⟩, ?_⟩
                rotate_left
                · (go_simp <;> with_reducible rfl)
                try simp only [Act.put, List.setIfInBounds_toArray, List.set_cons_zero, List.set_cons_succ]
                refine s_take 2 (by as_aux_lemma => kernel_rfl) (by as_aux_lemma => kernel_rfl) (by as_aux_lemma => kernel_rfl) (by as_aux_lemma => kernel_rfl) HD3.out (fun oi ho => ?_)
                simp only [List.getElem?_toArray, List.getElem?_cons_succ, List.getElem?_cons_zero, Option.some.injEq] at ho
                subst ho
                refine ⟨?_, Or.inl ⟨by rfl, fun w _ => ?_⟩, ?_⟩
                rotate_left
                · (go_simp <;> with_reducible rfl)
                try simp only [Act.put, List.setIfInBounds_toArray, List.set_cons_zero, List.set_cons_succ]
                refine s_take 3 (by as_aux_lemma => kernel_rfl) (by as_aux_lemma => kernel_rfl) (by as_aux_lemma => kernel_rfl) (by as_aux_lemma => kernel_rfl) HD3.out (fun oi ho => ?_)
                simp only [List.getElem?_toArray, List.getElem?_cons_succ, List.getElem?_cons_zero, Option.some.injEq] at ho
                subst ho
                refine ⟨?_, Or.inl ⟨by rfl, fun w _ => ?_⟩, ?_⟩
                rotate_left
                · (go_simp <;> with_reducible rfl)
                try simp only [Act.put, List.setIfInBounds_toArray, List.set_cons_zero, List.set_cons_succ]
                refine s_take 4 (by as_aux_lemma => kernel_rfl) (by as_aux_lemma => kernel_rfl) (by as_aux_lemma => kernel_rfl) (by as_aux_lemma => kernel_rfl) HD3.out (fun oi ho => ?_)
                simp only [List.getElem?_toArray, List.getElem?_cons_succ, List.getElem?_cons_zero, Option.some.injEq] at ho
                subst ho
                refine ⟨.int .i64 ia, Or.inl ⟨by rfl, fun w' hS' => ?_⟩, ?_⟩
                · have z := (hS'.cell (p := ⟨g, off + a * 2, none⟩) (blt x0)).trans x0
                  clear x0 y0
                  (go_simp <;> with_reducible rfl)
                try simp only [Act.put, List.setIfInBounds_toArray, List.set_cons_zero, List.set_cons_succ]
                refine s_take 5 (by as_aux_lemma => kernel_rfl) (by as_aux_lemma => kernel_rfl) (by as_aux_lemma => kernel_rfl) (by as_aux_lemma => kernel_rfl) HD3.out (fun oi ho => ?_)
                simp only [List.getElem?_toArray, List.getElem?_cons_succ, List.getElem?_cons_zero, Option.some.injEq] at ho
                subst ho
                refine ⟨?_, Or.inl ⟨by rfl, fun w _ => ?_⟩, ?_⟩
                rotate_left
                · (go_simp <;> with_reducible rfl)
                try simp only [Act.put, List.setIfInBounds_toArray, List.set_cons_zero, List.set_cons_succ]
                refine s_take 6 (by as_aux_lemma => kernel_rfl) (by as_aux_lemma => kernel_rfl) (by as_aux_lemma => kernel_rfl) (by as_aux_lemma => kernel_rfl) HD3.out (fun oi ho => ?_)
                simp only [List.getElem?_toArray, List.getElem?_cons_succ, List.getElem?_cons_zero, Option.some.injEq] at ho
                subst ho
                refine ⟨?_, Or.inl ⟨by rfl, fun w _ => ?_⟩, ?_⟩
                rotate_left
                · (go_simp <;> with_reducible rfl)
                try simp only [Act.put, List.setIfInBounds_toArray, List.set_cons_zero, List.set_cons_succ]
                refine s_take 7 (by as_aux_lemma => kernel_rfl) (by as_aux_lemma => kernel_rfl) (by as_aux_lemma => kernel_rfl) (by as_aux_lemma => kernel_rfl) HD3.out (fun oi ho => ?_)
                simp only [List.getElem?_toArray, List.getElem?_cons_succ, List.getElem?_cons_zero, Option.some.injEq] at ho
                subst ho
                refine ⟨?_, Or.inl ⟨by rfl, fun w _ => ?_⟩, ?_⟩
                rotate_left
                · (go_simp <;> with_reducible rfl)
                try simp only [Act.put, List.setIfInBounds_toArray, List.set_cons_zero, List.set_cons_succ]
                refine s_take 8 (by as_aux_lemma => kernel_rfl) (by as_aux_lemma => kernel_rfl) (by as_aux_lemma => kernel_rfl) (by as_aux_lemma => kernel_rfl) HD3.out (fun oi ho => ?_)
                simp only [List.getElem?_toArray, List.getElem?_cons_succ, List.getElem?_cons_zero, Option.some.injEq] at ho
                subst ho
                refine ⟨?_, Or.inl ⟨by rfl, fun w _ => ?_⟩, ?_⟩
                rotate_left
                · (go_simp <;> with_reducible rfl)
                try simp only [Act.put, List.setIfInBounds_toArray, List.set_cons_zero, List.set_cons_succ]
                refine s_take 9 (by as_aux_lemma => kernel_rfl) (by as_aux_lemma => kernel_rfl) (by as_aux_lemma => kernel_rfl) (by as_aux_lemma => kernel_rfl) HD3.out (fun oi ho => ?_)
                simp only [List.getElem?_toArray, List.getElem?_cons_succ, List.getElem?_cons_zero, Option.some.injEq] at ho
                subst ho
                refine ⟨.int .i64 ib, Or.inl ⟨by rfl, fun w' hS' => ?_⟩, ?_⟩
                · have z := (hS'.cell (p := ⟨g, off + b * 2, none⟩) (blt y0)).trans y0
                  clear x0 y0
                  (go_simp <;> with_reducible rfl)
                try simp only [Act.put, List.setIfInBounds_toArray, List.set_cons_zero, List.set_cons_succ]
                refine s_take 10 (by as_aux_lemma => kernel_rfl) (by as_aux_lemma => kernel_rfl) (by as_aux_lemma => kernel_rfl) (by as_aux_lemma => kernel_rfl) HD3.out (fun oi ho => ?_)
                simp only [List.getElem?_toArray, List.getElem?_cons_succ, List.getElem?_cons_zero, Option.some.injEq] at ho
                subst ho
                refine ⟨.bool true, Or.inl ⟨by rfl, fun w' hS' => ?_⟩, ?_⟩
                · clear x0 y0
                  (go_simp <;> first | with_reducible rfl | simp [heq])
                try simp only [Act.put, List.setIfInBounds_toArray, List.set_cons_zero, List.set_cons_succ]
                refine s_done (by as_aux_lemma => kernel_rfl) ?_
                skip
                go_wp2
                go_ret2
                first | exact ⟨_, rfl, rfl, HD3.out⟩ | exact ⟨_, rfl, fun h => absurd h (by omega), fun _ => rfl, HD3.out⟩
              · go_wp2_with fail
                refine s_start 11 (fun W => Below w.heap.size w W) (by as_aux_lemma => kernel_rfl) (by as_aux_lemma => kernel_rfl) HD3.out ?_
                refine s_take 0 (by as_aux_lemma => kernel_rfl) (by as_aux_lemma => kernel_rfl) (by as_aux_lemma => kernel_rfl) (by as_aux_lemma => kernel_rfl) HD3.out (fun oi ho => ?_)
                simp only [List.getElem?_toArray, List.getElem?_cons_succ, List.getElem?_cons_zero, Option.some.injEq] at ho
                subst ho
                refine ⟨?_, Or.inl ⟨by rfl, fun w _ => ?_⟩, ?_⟩
                rotate_left
                · (go_simp <;> with_reducible rfl)
                try simp only [Act.put, List.setIfInBounds_toArray, List.set_cons_zero, List.set_cons_succ]
                refine s_take 1 (by as_aux_lemma => kernel_rfl) (by as_aux_lemma => kernel_rfl) (by as_aux_lemma => kernel_rfl) (by as_aux_lemma => kernel_rfl) HD3.out (fun oi ho => ?_)
                simp only [List.getElem?_toArray, List.getElem?_cons_succ, List.getElem?_cons_zero, Option.some.injEq] at ho
                subst ho
                refine ⟨?_, Or.inl ⟨by rfl, fun w _ => ?_⟩, ?_⟩
                rotate_left
                · (go_simp <;> with_reducible rfl)
                try simp only [Act.put, List.setIfInBounds_toArray, List.set_cons_zero, List.set_cons_succ]
                refine s_take 2 (by as_aux_lemma => kernel_rfl) (by as_aux_lemma => kernel_rfl) (by as_aux_lemma => kernel_rfl) (by as_aux_lemma => kernel_rfl) HD3.out (fun oi ho => ?_)
                simp only [List.getElem?_toArray, List.getElem?_cons_succ, List.getElem?_cons_zero, Option.some.injEq] at ho
                subst ho
                refine ⟨?_, Or.inl ⟨by rfl, fun w _ => ?_⟩, ?_⟩
                rotate_left
                · (go_simp <;> with_reducible rfl)
                try simp only [Act.put, List.setIfInBounds_toArray, List.set_cons_zero, List.set_cons_succ]
                refine s_take 3 (by as_aux_lemma => kernel_rfl) (by as_aux_lemma => kernel_rfl) (by as_aux_lemma => kernel_rfl) (by as_aux_lemma => kernel_rfl) HD3.out (fun oi ho => ?_)
                simp only [List.getElem?_toArray, List.getElem?_cons_succ, List.getElem?_cons_zero, Option.some.injEq] at ho
                subst ho
                refine ⟨?_, Or.inl ⟨by rfl, fun w _ => ?_⟩, ?_⟩
                rotate_left
                · (go_simp <;> with_reducible rfl)
                try simp only [Act.put, List.setIfInBounds_toArray, List.set_cons_zero, List.set_cons_succ]
                refine s_take 4 (by as_aux_lemma => kernel_rfl) (by as_aux_lemma => kernel_rfl) (by as_aux_lemma => kernel_rfl) (by as_aux_lemma => kernel_rfl) HD3.out (fun oi ho => ?_)
                simp only [List.getElem?_toArray, List.getElem?_cons_succ, List.getElem?_cons_zero, Option.some.injEq] at ho
                subst ho
                refine ⟨.int .i64 ia, Or.inl ⟨by rfl, fun w' hS' => ?_⟩, ?_⟩
                · have z := (hS'.cell (p := ⟨g, off + a * 2, none⟩) (blt x0)).trans x0
                  clear x0 y0
                  (go_simp <;> with_reducible rfl)
                try simp only [Act.put, List.setIfInBounds_toArray, List.set_cons_zero, List.set_cons_succ]
                refine s_take 5 (by as_aux_lemma => kernel_rfl) (by as_aux_lemma => kernel_rfl) (by as_aux_lemma => kernel_rfl) (by as_aux_lemma => kernel_rfl) HD3.out (fun oi ho => ?_)
                simp only [List.getElem?_toArray, List.getElem?_cons_succ, List.getElem?_cons_zero, Option.some.injEq] at ho
                subst ho
                refine ⟨?_, Or.inl ⟨by rfl, fun w _ => ?_⟩, ?_⟩
                rotate_left
                · (go_simp <;> with_reducible rfl)
                try simp only [Act.put, List.setIfInBounds_toArray, List.set_cons_zero, List.set_cons_succ]
                refine s_take 6 (by as_aux_lemma => kernel_rfl) (by as_aux_lemma => kernel_rfl) (by as_aux_lemma => kernel_rfl) (by as_aux_lemma => kernel_rfl) HD3.out (fun oi ho => ?_)
                simp only [List.getElem?_toArray, List.getElem?_cons_succ, List.getElem?_cons_zero, Option.some.injEq] at ho
                subst ho
                refine ⟨?_, Or.inl ⟨by rfl, fun w _ => ?_⟩, ?_⟩
                rotate_left
                · (go_simp <;> with_reducible rfl)
                try simp only [Act.put, List.setIfInBounds_toArray, List.set_cons_zero, List.set_cons_succ]
                refine s_take 7 (by as_aux_lemma => kernel_rfl) (by as_aux_lemma => kernel_rfl) (by as_aux_lemma => kernel_rfl) (by as_aux_lemma => kernel_rfl) HD3.out (fun oi ho => ?_)
                simp only [List.getElem?_toArray, List.getElem?_cons_succ, List.getElem?_cons_zero, Option.some.injEq] at ho
                subst ho
                refine ⟨?_, Or.inl ⟨by rfl, fun w _ => ?_⟩, ?_⟩
                rotate_left
                · (go_simp <;> with_reducible rfl)
                try simp only [Act.put, List.setIfInBounds_toArray, List.set_cons_zero, List.set_cons_succ]
                refine s_take 8 (by as_aux_lemma => kernel_rfl) (by as_aux_lemma => kernel_rfl) (by as_aux_lemma => kernel_rfl) (by as_aux_lemma => kernel_rfl) HD3.out (fun oi ho => ?_)
                simp only [List.getElem?_toArray, List.getElem?_cons_succ, List.getElem?_cons_zero, Option.some.injEq] at ho
                subst ho
                refine ⟨?_, Or.inl ⟨by rfl, fun w _ => ?_⟩, ?_⟩
                rotate_left
                · (go_simp <;> with_reducible rfl)
                try simp only [Act.put, List.setIfInBounds_toArray, List.set_cons_zero, List.set_cons_succ]
                refine s_take 9 (by as_aux_lemma => kernel_rfl) (by as_aux_lemma => kernel_rfl) (by as_aux_lemma => kernel_rfl) (by as_aux_lemma => kernel_rfl) HD3.out (fun oi ho => ?_)
                simp only [List.getElem?_toArray, List.getElem?_cons_succ, List.getElem?_cons_zero, Option.some.injEq] at ho
                subst ho
                refine ⟨.int .i64 ib, Or.inl ⟨by rfl, fun w' hS' => ?_⟩, ?_⟩
                · have z := (hS'.cell (p := ⟨g, off + b * 2, none⟩) (blt y0)).trans y0
                  clear x0 y0
                  (go_simp <;> with_reducible rfl)
                try simp only [Act.put, List.setIfInBounds_toArray, List.set_cons_zero, List.set_cons_succ]
                refine s_take 10 (by as_aux_lemma => kernel_rfl) (by as_aux_lemma => kernel_rfl) (by as_aux_lemma => kernel_rfl) (by as_aux_lemma => kernel_rfl) HD3.out (fun oi ho => ?_)
                simp only [List.getElem?_toArray, List.getElem?_cons_succ, List.getElem?_cons_zero, Option.some.injEq] at ho
                subst ho
                refine ⟨.bool false, Or.inl ⟨by rfl, fun w' hS' => ?_⟩, ?_⟩
                · clear x0 y0
                  (go_simp <;> first | with_reducible rfl | simp [heq])
                try simp only [Act.put, List.setIfInBounds_toArray, List.set_cons_zero, List.set_cons_succ]
                refine s_done (by as_aux_lemma => kernel_rfl) ?_
                skip
                go_wp2
                go_roundw
                case rel =>
                  refine ⟨b + 1, by omega, by go_num, fun j hj => ?_, HD3.out⟩
                  by_cases q : j = b
                  · subst q; rw [HIA.out, HIB.out]; exact fun e => heq e.symm
                  · exact HNE.out j (by omega)
                case measure => simp [intOf]; omega
            · obtain rfl : b = a := by omega
              go_wp2
              go_roundw
              case rel =>
                refine ⟨b + 1, by omega, by go_num, ?_, HB3.out⟩
                rw [hIdx_snocT (by rw [HM.out]; omega), nodup_snoc]
                refine ⟨HND.out, List.count_eq_zero.2 fun hmem => ?_⟩
                obtain ⟨j, hj, e⟩ := List.mem_iff_getElem.1 hmem
                rw [List.length_take] at hj
                rw [List.getElem_take] at e
                have e1 := hIdxT_get (hs := hs) (i := j) (by rw [HM.out]; omega)
                rw [List.getD_eq_getElem?_getD, List.getElem?_eq_getElem (by simp [hIdx]; rw [HM.out]; omega), Option.getD_some] at e1
                exact HNE.out j (by omega) (e1.symm.trans e)
              case measure => simp [intOf]; omega
        · obtain rfl : a = i := by omega
          have HKO := Lib.hid (show HeldOk N LO hs from ⟨fun j hj => HOK.out j (by rw [HM.out] at hj; exact hj), by have := HND.out; rw [List.take_of_length_le (by simp [hIdx]; rw [HM.out]; omega)] at this; exact this⟩)
          obtain rfl : E = 0 := by rw [← HE.out]; exact heldE_ok HKO.out
          have HRD := Lib.hid (rready_any w2 N (a : Int) _ t (HV.out.below HB2.out))
          rw [show readyV N t (a : Int) = ((readyT t (a : Int) : Nat) : Int) from if_pos HD.out, show tabE N t = 0 from if_pos HD.out] at HRD
          obtain ⟨R, hR⟩ : ∃ x, readyT t (a : Int) = x := ⟨_, rfl⟩
          have HRE := Lib.hid hR
          have hRT : R ≤ T := by have := readyT_le t (a : Int); rw [hR, HTL.out] at this; exact this
          have HRK := Lib.hid (show ∀ q, q < R → (t.getD q (0, 0)).1 ≤ (a : Int) from fun q hq => readyT_lt (by rw [hR]; exact hq))
          rw [hR] at HRD
          clear hR
          go_wp2_with fail
          refine HRD.out.mono ?_
          rintro e w3 ⟨rfl, hB3⟩
          have HB3 := Lib.hid (below_more HB2.out hB3 HB2.out.size)
          clear hB3
          go_wp2
          go_loopw [13, 14, 17, 18, 19, 20, 21, 22, 23, 24, 25, 26] (fun vo va vi _ _ _ _ _ _ _ _ _ wr => ∃ q : Nat, q ≤ R ∧ vi = .int .i64 (q : Int) ∧ va = .int .i64 ((atT t q : Nat) : Int) ∧ RowsOwn wr w.heap.size vo (layersL t hs q) ∧ Below w.heap.size w wr) (fun _ _ vi _ _ _ _ _ _ _ _ _ _ => R - (intOf vi).toNat)
          case atStart => exact ⟨0, Nat.zero_le _, rfl, by rw [atT_zero]; rfl, RowsOwn.nil _ _, HB3.out⟩
          case round =>
            obtain ⟨w4, rfl⟩ : ∃ x, x = wr := ⟨_, rfl⟩
            obtain ⟨q, hq, rfl, rfl, ho, hB4⟩ := hrel
            obtain ⟨po, co, rfl⟩ := ho.rows.shape
            have HO4 := Lib.hid ho
            have HB4 := Lib.hid hB4
            have HLL := Lib.hid (show (layersL t hs q).length = q by simp [layersL])
            rw [HLL.out] at HO4 ⊢
            clear ho hB4
            by_cases hlq : q < R
            · have hqT : q < T := by omega
              obtain ⟨gt, ot, rfl, htc⟩ := HTC.out (by omega)
              obtain ⟨t0, t1⟩ := htc q hqT
              have t0 := (HB4.out.cell (p := ⟨gt, ot + q * 2, none⟩) (blt t0)).trans t0
              have t1 := (HB4.out.cell (p := ⟨gt, ot + q * 2 + 1, none⟩) (blt t1)).trans t1
              have hrow := HD.out.2.2.2.2 q (by rw [HTL.out]; exact hqT)
              have hge := (HD.out.2.2.2.2.ge q (by rw [HTL.out]; exact hqT)).1
              have hkm := HRK.out q hlq
              have hsu := atT_succ (t := t) (i := q) (by rw [HTL.out]; exact hqT)
              have htop := atT_top t (q + 1)
              rw [HLE.out] at htop
              have HLY := Lib.hid (layersL_snoc t hs q)
              have HLD := Lib.hid (show layerL t hs q = joinL (decL (t.getD q (0, 0)).1.toNat (idxB ((hIdx hs).take (t.getD q (0, 0)).1.toNat)) ((hRow hs).map fun b => (b.drop (atT t q)).take (wdT (t.getD q (0, 0)))) (wdT (t.getD q (0, 0)))) (t.getD q (0, 0)).2.toNat from rfl)
              obtain ⟨r, hr⟩ : ∃ x, t.getD q (0, 0) = x := ⟨_, rfl⟩
              rw [hr] at t0 t1 hrow hge hkm hsu HLD
              obtain ⟨r1, r2⟩ := r
              obtain ⟨_, hr2, hr3, hr4⟩ := hrow
              dsimp only at t0 t1 hge hkm hr2 hr3 hr4 HLD
              obtain ⟨K, rfl⟩ : ∃ x : Nat, r1 = (x : Int) := ⟨r1.toNat, by omega⟩
              obtain ⟨L, rfl⟩ : ∃ x : Nat, r2 = (x : Int) := ⟨r2.toNat, by omega⟩
              have HWR := Lib.hid (rwidth_any w4 ((K : Int), (L : Int)) N (by show 1 ≤ (K : Int); omega) (by show (K : Int) ≤ 255; omega) (by show 0 ≤ (L : Int); omega) (by show (L : Int) ≤ 65535; omega))
              have hww : wdT ((K : Int), (L : Int)) = wdN L K := rfl
              rw [hww] at HWR hsu HLD
              rw [Int.toNat_natCast, Int.toNat_natCast] at HLD
              obtain ⟨ww, hw2⟩ : ∃ x, wdN L K = x := ⟨_, rfl⟩
              have HWW := Lib.hid hw2
              rw [hw2] at HWR hsu HLD
              obtain ⟨aa, haa⟩ : ∃ x, atT t q = x := ⟨_, rfl⟩
              have HAA := Lib.hid haa
              rw [haa] at hsu HLD ⊢
              have HSU := Lib.hid hsu
              have hK1 : 1 ≤ K := by omega
              have hbl : aa + ww ≤ LO := by omega
              have hlo := HLO.out
              clear htc hr hww hw2 haa hsu htop hge
              go_wp2_with fail
              refine HWR.out.mono ?_
              rintro e w5 ⟨rfl, hB5⟩
              have HB5 := Lib.hid (below_more HB4.out hB5 HB4.out.size)
              have HO5 := Lib.hid (HO4.out.below hB5)
              have ht0 := (hB5.cell (p := ⟨gt, ot + q * 2, none⟩) (blt t0)).trans t0
              have ht1 := (hB5.cell (p := ⟨gt, ot + q * 2 + 1, none⟩) (blt t1)).trans t1
              clear hB5 t0 t1
              have HPS := Lib.hid (fun j (h : j < a) => partsH_snoc (hs := hs) (a := aa) (w := ww) (i := j) (by rw [HM.out]; exact h))
              have HPL := Lib.hid (show ∀ j, j ≤ a → ((partsH hs aa ww).take j).length = j from fun j hj => by rw [List.length_take, partsH_len, HM.out]; omega)
              obtain ⟨bb, hbb⟩ : ∃ x, aa + ww = x := ⟨_, rfl⟩
              have HADD := Lib.hid (show wrap64 ((aa : Int) + (ww : Int)) = (bb : Int) by rw [← Int.natCast_add, hbb]; unfold wrap64; omega)
              have HADD3 := Lib.hid (show IntKind.i64.wrap ((aa : Int) + (ww : Int)) = (bb : Int) by rw [← Int.natCast_add, hbb]; exact IntWalk.i64_in _ (by omega))
              have HBBW := Lib.hid (show IntKind.i64.wrap (bb : Int) = (bb : Int) from IntWalk.i64_in _ (by omega))
              have hadd2 : (aa : Int) + (ww : Int) = (bb : Int) := by omega
              have hbw : bb - aa = ww := by omega
              have hbL : bb ≤ LO := by omega
              have hab : aa ≤ bb := by omega
              go_wp2
              go_loopw [19, 20] (fun v i wr => ∃ k : Nat, k ≤ a ∧ i = .int .i64 (k : Int) ∧ HeldR w wr w5.heap.size v ((partsH hs aa ww).take k) ∧ Below w5.heap.size w5 wr) (fun _ i _ => a - (intOf i).toNat)
              case atStart => exact ⟨0, Nat.zero_le _, rfl, by rw [List.take_zero]; exact HeldR.nil _ _ _, Below.refl _ _⟩
              case round =>
                obtain ⟨w6, rfl⟩ : ∃ x, x = wr := ⟨_, rfl⟩
                obtain ⟨k, hk, rfl, hh, hB6⟩ := hrel
                have HHR := Lib.hid hh
                obtain ⟨us, ow, h2⟩ := hh
                have hpl := HPL.out k hk
                rw [hpl] at ow h2
                obtain ⟨pr, cr, rfl⟩ := own_shapeL ow
                have HOW := Lib.hid ow
                have HUS := Lib.hid h2
                have HB6 := Lib.hid hB6
                have HBA6 := Lib.hid (below_more HB5.out hB6 HB5.out.size)
                have hs6 := hB6.size
                clear ow h2 hB6
                by_cases hlk : k < a
                · obtain ⟨g, off, rfl, hc⟩ := HHC.out (by omega)
                  obtain ⟨x0, u, x1, xb⟩ := hc k hlk
                  have hcp := fun p n c' h => HCAP.out g off ch rfl k hlk p n c' h
                  obtain ⟨pu, cu, rfl⟩ := xb.shape
                  have hlu := (HKO.out.each k (by rw [HM.out]; exact hlk)).2.2
                  rw [hlu] at x1 xb
                  have hcu := hcp _ _ _ x1
                  have hsb := sub_bytes (a := aa) (b := bb) xb hab (by rw [hlu]; exact hbL) (by rw [hlu]; exact hcu)
                  obtain ⟨PP, hPP⟩ : ∃ x, (if cu = aa then pu else pu.map (·.add (aa * 1))) = x := ⟨_, rfl⟩
                  have hPP2 : (if cu = aa then pu else Option.map (fun x => x.add aa) pu) = PP := by rw [← hPP, Nat.mul_one]
                  obtain ⟨CC, hCC⟩ : ∃ x, cu - aa = x := ⟨_, rfl⟩
                  rw [hPP, hCC, hbw] at hsb
                  have HSB := Lib.hid hsb
                  have hpsn := HPS.out k hlk
                  obtain ⟨ix, hix⟩ : ∃ x, (hs.getD k (0, [])).1 = x := ⟨_, rfl⟩
                  rw [hix] at x0 hpsn
                  have HPSN := Lib.hid hpsn
                  have hbc : bb ≤ cu := by omega
                  have hbc' : (bb : Int) ≤ (cu : Int) := by omega
                  have hab' : (aa : Int) ≤ (bb : Int) := by omega
                  have HDD := Lib.hid (show Below w5.heap.size w5 w6.drew from below_more HB6.out (balD w6 1) hs6)
                  have HDW := Lib.hid (show Below w.heap.size w w6.drew from below_more HBA6.out (balD w6 1) HBA6.out.size)
                  have HBX := Lib.hid (show Below w5.heap.size w5 (w6.drew.alloc (.cells #[.int .i64 ix, .slice PP ww CC] 73)) from HDD.out.alloc hs6 _)
                  have HBXW := Lib.hid (show Below w.heap.size w (w6.drew.alloc (.cells #[.int .i64 ix, .slice PP ww CC] 73)) from HDW.out.alloc HBA6.out.size _)
                  have hsx : w5.heap.size ≤ (w6.drew.alloc (.cells #[.int .i64 ix, .slice PP ww CC] 73)).heap.size := by simp; omega
                  have HOX := Lib.hid (show (w6.drew.alloc (.cells #[.int .i64 ix, .slice PP ww CC] 73)).ownsRow w5.heap.size 73 2 (.slice pr k cr) k us from ownsRow_keptS HOW.out (Kept.below (below_more (balD w6 1) (balT w6.drew _) (Nat.le_refl _))) (fun _ _ h => h))
                  have hul : us.length = k * 2 := by have := HOW.out.1; omega
                  clear hc hcp xb hsb hix hlu hpsn
                  go_wp2_with fail
                  refine s_start 20 (fun W => Below w.heap.size w W ∧ Below w5.heap.size w5 W) (by as_aux_lemma => kernel_rfl) (by as_aux_lemma => kernel_rfl) ⟨HDW.out, HDD.out⟩ ?_
                  refine s_take 0 (by as_aux_lemma => kernel_rfl) (by as_aux_lemma => kernel_rfl) (by as_aux_lemma => kernel_rfl) (by as_aux_lemma => kernel_rfl) ⟨HDW.out, HDD.out⟩ (fun oi ho => ?_)
                  simp only [List.getElem?_toArray, List.getElem?_cons_succ, List.getElem?_cons_zero, Option.some.injEq] at ho
                  subst ho
                  refine ⟨?_, Or.inl ⟨by rfl, fun w _ => ?_⟩, ?_⟩
                  rotate_left
                  · (go_simp <;> with_reducible rfl)
                  try simp only [Act.put, List.setIfInBounds_toArray, List.set_cons_zero, List.set_cons_succ]
                  refine s_take 1 (by as_aux_lemma => kernel_rfl) (by as_aux_lemma => kernel_rfl) (by as_aux_lemma => kernel_rfl) (by as_aux_lemma => kernel_rfl) ⟨HDW.out, HDD.out⟩ (fun oi ho => ?_)
                  simp only [List.getElem?_toArray, List.getElem?_cons_succ, List.getElem?_cons_zero, Option.some.injEq] at ho
                  subst ho
                  refine ⟨?_, Or.inl ⟨by rfl, fun w _ => ?_⟩, ?_⟩
                  rotate_left
                  · (go_simp <;> with_reducible rfl)
                  try simp only [Act.put, List.setIfInBounds_toArray, List.set_cons_zero, List.set_cons_succ]
                  refine s_take 2 (by as_aux_lemma => kernel_rfl) (by as_aux_lemma => kernel_rfl) (by as_aux_lemma => kernel_rfl) (by as_aux_lemma => kernel_rfl) ⟨HDW.out, HDD.out⟩ (fun oi ho => ?_)
                  simp only [List.getElem?_toArray, List.getElem?_cons_succ, List.getElem?_cons_zero, Option.some.injEq] at ho
                  subst ho
                  refine ⟨?_, Or.inl ⟨by rfl, fun w _ => ?_⟩, ?_⟩
                  rotate_left
                  · (go_simp <;> with_reducible rfl)
                  try simp only [Act.put, List.setIfInBounds_toArray, List.set_cons_zero, List.set_cons_succ]
                  refine s_take 3 (by as_aux_lemma => kernel_rfl) (by as_aux_lemma => kernel_rfl) (by as_aux_lemma => kernel_rfl) (by as_aux_lemma => kernel_rfl) ⟨HDW.out, HDD.out⟩ (fun oi ho => ?_)
                  simp only [List.getElem?_toArray, List.getElem?_cons_succ, List.getElem?_cons_zero, Option.some.injEq] at ho
                  subst ho
                  refine ⟨?_, Or.inl ⟨by rfl, fun w _ => ?_⟩, ?_⟩
                  rotate_left
                  · (go_simp <;> with_reducible rfl)
                  try simp only [Act.put, List.setIfInBounds_toArray, List.set_cons_zero, List.set_cons_succ]
                  refine s_take 4 (by as_aux_lemma => kernel_rfl) (by as_aux_lemma => kernel_rfl) (by as_aux_lemma => kernel_rfl) (by as_aux_lemma => kernel_rfl) ⟨HDW.out, HDD.out⟩ (fun oi ho => ?_)
                  simp only [List.getElem?_toArray, List.getElem?_cons_succ, List.getElem?_cons_zero, Option.some.injEq] at ho
                  subst ho
                  refine ⟨?_, Or.inl ⟨by rfl, fun w _ => ?_⟩, ?_⟩
                  rotate_left
                  · (go_simp <;> with_reducible rfl)
                  try simp only [Act.put, List.setIfInBounds_toArray, List.set_cons_zero, List.set_cons_succ]
                  refine s_take 5 (by as_aux_lemma => kernel_rfl) (by as_aux_lemma => kernel_rfl) (by as_aux_lemma => kernel_rfl) (by as_aux_lemma => kernel_rfl) ⟨HDW.out, HDD.out⟩ (fun oi ho => ?_)
                  simp only [List.getElem?_toArray, List.getElem?_cons_succ, List.getElem?_cons_zero, Option.some.injEq] at ho
                  subst ho
                  refine ⟨.int .i64 ix, Or.inl ⟨by rfl, fun w' hS' => ?_⟩, ?_⟩
                  · have z := (hS'.1.cell (p := ⟨g, off + k * 2, none⟩) (blt x0)).trans x0
                    clear x0 x1 ht0 ht1
                    (go_simp <;> with_reducible rfl)
                  try simp only [Act.put, List.setIfInBounds_toArray, List.set_cons_zero, List.set_cons_succ]
                  refine s_take 6 (by as_aux_lemma => kernel_rfl) (by as_aux_lemma => kernel_rfl) (by as_aux_lemma => kernel_rfl) (by as_aux_lemma => kernel_rfl) ⟨HDW.out, HDD.out⟩ (fun oi ho => ?_)
                  simp only [List.getElem?_toArray, List.getElem?_cons_succ, List.getElem?_cons_zero, Option.some.injEq] at ho
                  subst ho
                  refine ⟨?_, Or.inl ⟨by rfl, fun w _ => ?_⟩, ?_⟩
                  rotate_left
                  · (go_simp <;> with_reducible rfl)
                  try simp only [Act.put, List.setIfInBounds_toArray, List.set_cons_zero, List.set_cons_succ]
                  refine s_take 7 (by as_aux_lemma => kernel_rfl) (by as_aux_lemma => kernel_rfl) (by as_aux_lemma => kernel_rfl) (by as_aux_lemma => kernel_rfl) ⟨HDW.out, HDD.out⟩ (fun oi ho => ?_)
                  simp only [List.getElem?_toArray, List.getElem?_cons_succ, List.getElem?_cons_zero, Option.some.injEq] at ho
                  subst ho
                  refine ⟨?_, Or.inl ⟨by rfl, fun w _ => ?_⟩, ?_⟩
                  rotate_left
                  · (go_simp <;> with_reducible rfl)
                  try simp only [Act.put, List.setIfInBounds_toArray, List.set_cons_zero, List.set_cons_succ]
                  refine s_take 8 (by as_aux_lemma => kernel_rfl) (by as_aux_lemma => kernel_rfl) (by as_aux_lemma => kernel_rfl) (by as_aux_lemma => kernel_rfl) ⟨HDW.out, HDD.out⟩ (fun oi ho => ?_)
                  simp only [List.getElem?_toArray, List.getElem?_cons_succ, List.getElem?_cons_zero, Option.some.injEq] at ho
                  subst ho
                  refine ⟨?_, Or.inl ⟨by rfl, fun w _ => ?_⟩, ?_⟩
                  rotate_left
                  · (go_simp <;> with_reducible rfl)
                  try simp only [Act.put, List.setIfInBounds_toArray, List.set_cons_zero, List.set_cons_succ]
                  refine s_take 9 (by as_aux_lemma => kernel_rfl) (by as_aux_lemma => kernel_rfl) (by as_aux_lemma => kernel_rfl) (by as_aux_lemma => kernel_rfl) ⟨HDW.out, HDD.out⟩ (fun oi ho => ?_)
                  simp only [List.getElem?_toArray, List.getElem?_cons_succ, List.getElem?_cons_zero, Option.some.injEq] at ho
                  subst ho
                  refine ⟨?_, Or.inl ⟨by rfl, fun w _ => ?_⟩, ?_⟩
                  rotate_left
                  · (go_simp <;> with_reducible rfl)
                  try simp only [Act.put, List.setIfInBounds_toArray, List.set_cons_zero, List.set_cons_succ]
                  refine s_take 10 (by as_aux_lemma => kernel_rfl) (by as_aux_lemma => kernel_rfl) (by as_aux_lemma => kernel_rfl) (by as_aux_lemma => kernel_rfl) ⟨HDW.out, HDD.out⟩ (fun oi ho => ?_)
                  simp only [List.getElem?_toArray, List.getElem?_cons_succ, List.getElem?_cons_zero, Option.some.injEq] at ho
                  subst ho
                  refine ⟨.slice pu LO cu, Or.inl ⟨by rfl, fun w' hS' => ?_⟩, ?_⟩
                  · have z := (hS'.1.cell (p := ⟨g, off + k * 2 + 1, none⟩) (blt x1)).trans x1
                    clear x0 x1 ht0 ht1
                    (go_simp <;> with_reducible rfl)
                  try simp only [Act.put, List.setIfInBounds_toArray, List.set_cons_zero, List.set_cons_succ]
                  refine s_take 11 (by as_aux_lemma => kernel_rfl) (by as_aux_lemma => kernel_rfl) (by as_aux_lemma => kernel_rfl) (by as_aux_lemma => kernel_rfl) ⟨HDW.out, HDD.out⟩ (fun oi ho => ?_)
                  simp only [List.getElem?_toArray, List.getElem?_cons_succ, List.getElem?_cons_zero, Option.some.injEq] at ho
                  subst ho
                  refine ⟨?_, Or.inl ⟨by rfl, fun w _ => ?_⟩, ?_⟩
                  rotate_left
                  · (go_simp <;> with_reducible rfl)
                  try simp only [Act.put, List.setIfInBounds_toArray, List.set_cons_zero, List.set_cons_succ]
                  refine s_take 12 (by as_aux_lemma => kernel_rfl) (by as_aux_lemma => kernel_rfl) (by as_aux_lemma => kernel_rfl) (by as_aux_lemma => kernel_rfl) ⟨HDW.out, HDD.out⟩ (fun oi ho => ?_)
                  simp only [List.getElem?_toArray, List.getElem?_cons_succ, List.getElem?_cons_zero, Option.some.injEq] at ho
                  subst ho
                  refine ⟨?_, Or.inl ⟨by rfl, fun w _ => ?_⟩, ?_⟩
                  rotate_left
                  · (go_simp <;> with_reducible rfl)
                  try simp only [Act.put, List.setIfInBounds_toArray, List.set_cons_zero, List.set_cons_succ]
                  refine s_take 13 (by as_aux_lemma => kernel_rfl) (by as_aux_lemma => kernel_rfl) (by as_aux_lemma => kernel_rfl) (by as_aux_lemma => kernel_rfl) ⟨HDW.out, HDD.out⟩ (fun oi ho => ?_)
                  simp only [List.getElem?_toArray, List.getElem?_cons_succ, List.getElem?_cons_zero, Option.some.injEq] at ho
                  subst ho
                  refine ⟨?_, Or.inl ⟨by rfl, fun w _ => ?_⟩, ?_⟩
                  rotate_left
                  · (go_simp <;> with_reducible rfl)
                  try simp only [Act.put, List.setIfInBounds_toArray, List.set_cons_zero, List.set_cons_succ]
                  refine s_take 14 (by as_aux_lemma => kernel_rfl) (by as_aux_lemma => kernel_rfl) (by as_aux_lemma => kernel_rfl) (by as_aux_lemma => kernel_rfl) ⟨HDW.out, HDD.out⟩ (fun oi ho => ?_)
                  simp only [List.getElem?_toArray, List.getElem?_cons_succ, List.getElem?_cons_zero, Option.some.injEq] at ho
                  subst ho
                  refine ⟨.int .i64 (bb : Int), Or.inl ⟨by rfl, fun w' hS' => ?_⟩, ?_⟩
                  · clear x0 x1 ht0 ht1
                    (go_simp <;> first | with_reducible rfl | exact HBBW.out)
                  try simp only [Act.put, List.setIfInBounds_toArray, List.set_cons_zero, List.set_cons_succ]
                  refine s_take 15 (by as_aux_lemma => kernel_rfl) (by as_aux_lemma => kernel_rfl) (by as_aux_lemma => kernel_rfl) (by as_aux_lemma => kernel_rfl) ⟨HDW.out, HDD.out⟩ (fun oi ho => ?_)
                  simp only [List.getElem?_toArray, List.getElem?_cons_succ, List.getElem?_cons_zero, Option.some.injEq] at ho
                  subst ho
                  refine ⟨.slice PP ww CC, Or.inl ⟨by rfl, fun w' hS' => ?_⟩, ?_⟩
                  · clear x0 x1 ht0 ht1
                    (go_simp <;> exact hPP2)
                  try simp only [Act.put, List.setIfInBounds_toArray, List.set_cons_zero, List.set_cons_succ]
                  refine s_take 16 (by as_aux_lemma => kernel_rfl) (by as_aux_lemma => kernel_rfl) (by as_aux_lemma => kernel_rfl) (by as_aux_lemma => kernel_rfl) ⟨HDW.out, HDD.out⟩ (fun oi ho => ?_)
                  simp only [List.getElem?_toArray, List.getElem?_cons_succ, List.getElem?_cons_zero, Option.some.injEq] at ho
                  subst ho
                  refine ⟨?_, Or.inl ⟨by rfl, fun w _ => ?_⟩, ?_⟩
                  rotate_left
                  · (go_simp <;> with_reducible rfl)
                  try simp only [Act.put, List.setIfInBounds_toArray, List.set_cons_zero, List.set_cons_succ]
                  refine s_all (rs := [17]) (by as_aux_lemma => kernel_rfl) (by simp) ?_
                  refine s_step 17 (by as_aux_lemma => kernel_rfl) (fun o ho K hK => ?_) AllReadyH.nil
                  simp only [List.getElem?_toArray, List.getElem?_cons_succ, List.getElem?_cons_zero, Option.some.injEq] at ho
                  subst ho
                  go_simp
                  refine hK.out _ _ ⟨HBXW.out, HBX.out⟩ ?_
                  clear hK K
                  try simp only [Act.put, List.setIfInBounds_toArray, List.set_cons_zero, List.set_cons_succ]
                  refine s_all (rs := [18]) (by as_aux_lemma => kernel_rfl) (by simp) ?_
                  refine s_step 18 (by as_aux_lemma => kernel_rfl) (fun o ho K hK => ?_) AllReadyH.nil
                  simp only [List.getElem?_toArray, List.getElem?_cons_succ, List.getElem?_cons_zero, Option.some.injEq] at ho
                  subst ho
                  refine step_appN 43 73 2 32 (.agg #[.int .i64 0, .slice none 0 0]) Tryz.underlying43 infoHR rfl (by decide) (by rfl) _ _ rfl w5.heap.size k (.slice pr k cr) _ rfl HOX.out w6.drew.heap.size [.int .i64 ix, .slice PP ww CC] rfl (by simp [Value.oneCell']) rfl (lit_twoK w6.drew _ _ _) (by omega) hsx ?_
                  intro g' c' w7 hR7 hk7 hg7
                  have HR7 := Lib.hid (HeldR.snoc (w := w) (hs := (partsH hs aa ww).take k) hpl hul (by rw [hpl]; exact HUS.out) HSB.out hR7)
                  have HB7 := Lib.hid (HBX.out.trans (hk7.toBelow hsx (fun i hi => (HOX.out.lt i hi).1)))
                  have HBW7 := Lib.hid (below_more HB5.out HB7.out HB5.out.size)
                  clear hR7 hk7 hg7
                  refine hK.out _ _ ⟨HBW7.out, HB7.out⟩ ?_
                  clear hK K
                  try simp only [Act.put, List.setIfInBounds_toArray, List.set_cons_zero, List.set_cons_succ]
                  refine s_take 19 (by as_aux_lemma => kernel_rfl) (by as_aux_lemma => kernel_rfl) (by as_aux_lemma => kernel_rfl) (by as_aux_lemma => kernel_rfl) ⟨HBW7.out, HB7.out⟩ (fun oi ho => ?_)
                  simp only [List.getElem?_toArray, List.getElem?_cons_succ, List.getElem?_cons_zero, Option.some.injEq] at ho
                  subst ho
                  refine ⟨?_, Or.inl ⟨by rfl, fun w _ => ?_⟩, ?_⟩
                  rotate_left
                  · (go_simp <;> with_reducible rfl)
                  try simp only [Act.put, List.setIfInBounds_toArray, List.set_cons_zero, List.set_cons_succ]
                  refine s_done (by as_aux_lemma => kernel_rfl) ?_
                  skip
                  go_wp2
                  go_roundw
                  case rel => exact ⟨k + 1, by omega, by go_num, by rw [← HPSN.out]; exact HR7.out, HB7.out⟩
                  case measure => simp [intOf]; omega
                · obtain rfl : k = a := by omega
                  have hha := HHR.out.toAt HBA6.out
                  rw [List.take_of_length_le (by rw [partsH_len, HM.out]; exact Nat.le_refl _)] at hha
                  have HHA := Lib.hid hha
                  have ht0 := (HB6.out.cell (p := ⟨gt, ot + q * 2, none⟩) (blt ht0)).trans ht0
                  have ht1 := (HB6.out.cell (p := ⟨gt, ot + q * 2 + 1, none⟩) (blt ht1)).trans ht1
                  have HO6 := Lib.hid (HO5.out.below HB6.out)
                  have HDE := Lib.hid (show decE N K (partsH hs aa ww) = 0 from partsH_dec HKO.out (by rw [HM.out]; omega) hbl)
                  have HPW := Lib.hid (show ((partsH hs aa ww).getD 0 (0, [])).2.length = ww from partsH_wide HKO.out hbl (by rw [HM.out]; omega))
                  have HDL := Lib.hid (decL_len K (idxB ((hIdx (partsH hs aa ww)).take K)) (hRow (partsH hs aa ww)) ww)
                  have HDW := Lib.hid (decL_wide (k := K) (ys := idxB ((hIdx (partsH hs aa ww)).take K)) (l := hRow (partsH hs aa ww)) (d := ww))
                  have HLR := Lib.hid (show joinL (decL K (idxB ((hIdx (partsH hs aa ww)).take K)) (hRow (partsH hs aa ww)) ww) L = layerL t hs q from by rw [HLD.out, partsH_idx, partsH_row])
                  clear hha hpl
                  go_wp2_with fail
                  refine (rnew_any w6 N K (by omega) (by omega) hn255).mono ?_
                  rintro e w8 ⟨bc, rfl, hcc, hB8⟩
                  have HCC := Lib.hid hcc
                  have HH8 := Lib.hid (HHA.out.below hB8)
                  have HO8 := Lib.hid (HO6.out.below hB8)
                  have HB8 := Lib.hid (below_more HBA6.out hB8 HBA6.out.size)
                  have ht1 := (hB8.cell (p := ⟨gt, ot + q * 2 + 1, none⟩) (blt ht1)).trans ht1
                  clear hcc hB8 ht0
                  go_wp2_with fail
                  refine (rdecode_any w8 HCC.out (by omega) (by omega) hn255 _ (partsH hs aa ww) ww (by exact HH8.out) (by rw [partsH_len, HM.out]; omega) HPW.out (by omega)).mono ?_
                  rw [HDE.out]
                  rintro e w9 ⟨vr, rfl, hok9, _, hB9⟩
                  have HR9 := Lib.hid (hok9 rfl)
                  have HO9 := Lib.hid (HO8.out.below hB9)
                  have HB9 := Lib.hid (below_more HB8.out hB9 HB8.out.size)
                  have ht1 := (hB9.cell (p := ⟨gt, ot + q * 2 + 1, none⟩) (blt ht1)).trans ht1
                  clear hok9 hB9
                  go_wp2_with fail
                  refine (rjoin_any w9 vr _ L K HR9.out HDL.out (by omega) (by omega) (by omega) (by rw [HWW.out]; exact HDW.out)).mono ?_
                  rw [HLR.out]
                  rintro e w10 ⟨vb, rfl, hown, hB10⟩
                  obtain ⟨pz, cz, rfl⟩ := hown.shape
                  have HOB := Lib.hid hown.bytes
                  have HOG := Lib.hid (show ∀ b, (Value.slice pz (layerL t hs q).length cz).ownBlock = some b → b < w10.heap.size ∧ (Value.slice po q co).ownBlock ≠ some b from fun b e => by
                    have h1 := hown.blk b e
                    refine ⟨h1.2, fun e2 => ?_⟩
                    have h2 := (HO9.out.lt b e2).2
                    omega)
                  have HO10 := Lib.hid (HO9.out.below hB10)
                  have HB10 := Lib.hid (below_more HB9.out hB10 HB9.out.size)
                  have hs10 := HB10.out.size
                  clear hown hB10 ht1
                  obtain ⟨lz, hlz⟩ : ∃ x, (layerL t hs q).length = x := ⟨_, rfl⟩
                  rw [hlz] at HOB HOG ⊢
                  have hbbw := HBBW.out
                  have hq12 : q < 1000000000000 := by omega
                  have HAR := Lib.hid (fun (ops : Array Oper) (rest : List Oper) (o : Oper) (act : Act) (Q : Exit → Act → World → Prop) hgd s x ho hev hx h => app_row (ops := ops) (rest := rest) (o := o) (a := act) (Q := Q) (W := w10) hgd s x ho w.heap.size q (.slice po q co) (layersL t hs q) HLL.out hev HO10.out (.slice pz lz cz) (layerL t hs q) HOB.out HOG.out rfl hx hq12 hs10 h)
                  go_wp2_with (at_builtin; refine HAR.out _ _ _ _ _ rfl _ _ rfl rfl rfl ?_; intro g' c' w11 hR11 hk11 hs11 hg11)
                  go_roundw
                  case rel => exact ⟨q + 1, by omega, by go_num, by rw [HSU.out, hbb], by rw [← HLY.out]; exact hR11, HB10.out.trans (hk11.toBelow hs10 (fun i hi => (HO10.out.lt i hi).1))⟩
                  case measure => simp [intOf]; omega
            · obtain rfl : q = R := by omega
              have HRR := Lib.hid (show RowsAt w4 (.slice po q co) (layersL t hs (readyT t (a : Int))) from by rw [HRE.out]; exact HO4.out.rows)
              go_wp2
              go_ret2
              first | exact ⟨_, rfl, HRR.out, HB4.out⟩ | exact ⟨_, rfl, fun _ => HRR.out, fun h => absurd rfl h, HB4.out⟩
end Go.Proofs.YtanjchpkekehgaaGreat
