/-
  Walk of layer 5 (code): Turn.
-/
import Derived.Test.YtojbbmfndlcgkaaGreatMxam
import Derived.Test.YtojbbmfndlcgkaaGreatMxaq
import Derived.Test.YtojbbmfndlcgkaaGreatMxas
namespace Go.Proofs.YtojbbmfndlcgkaaGreat
open Go.RowKit Go.Maps
set_option linter.unusedVariables false
set_option maxRecDepth 100000
set_option maxHeartbeats 2000000

/-- Indexes as bytes; their rows of the table. -/
def idxB (xs : List Int) : List B := xs.map fun x => ofB x.toNat
def someL (k : Nat) (xs : List Int) : List (List B) := xs.map fun x => wtsL (ptsL k) (ofB x.toNat)
theorem someL_len (k : Nat) (xs : List Int) : (someL k xs).length = xs.length := by simp [someL]
theorem idxB_len (xs : List Int) : (idxB xs).length = xs.length := by simp [idxB]
theorem someL_snoc {k m : Nat} {xs : List Int} (h : m < xs.length) : someL k (xs.take m) ++ [wtsL (ptsL k) (ofB (xs.getD m 0).toNat)] = someL k (xs.take (m + 1)) := by
  rw [← int_snoc h]; simp [someL]
theorem someL_get {k r : Nat} {xs : List Int} (h : r < xs.length) : (someL k xs).getD r [] = wtsL (ptsL k) ((idxB xs).getD r 0) := by
  simp [someL, idxB, List.getD_eq_getElem?_getD, List.getElem?_eq_getElem h]
theorem someL_lsM {k r c : Nat} {xs : List Int} (h : r < xs.length) (hc : c < k) : lsM (someL k xs) r c = lag (ptsL k) c ((idxB xs).getD r 0) := by
  unfold lsM
  rw [someL_get h, wtsL_get (by rw [ptsL_len]; exact hc)]

structure AskOk (n k : Nat) (xs : List Int) : Prop where
  range : ∀ x ∈ xs, 0 ≤ x ∧ x < n
  nodup : xs.Nodup
  len : k ≤ xs.length
theorem askE_zero {n k : Nat} {xs : List Int} (h : askE n k xs = 0) : AskOk n k xs := by
  unfold askE at h
  by_cases h1 : xs.all (fun x => decide (0 ≤ x) && decide (x < n)) = true
  · rw [if_pos h1] at h
    by_cases h2 : xs.Nodup
    · rw [if_pos h2] at h
      by_cases h3 : xs.length < k
      · rw [if_pos h3] at h; cases h
      · refine ⟨fun x hx => ?_, h2, by omega⟩
        have := List.all_eq_true.1 h1 x hx
        simpa using this
    · rw [if_neg h2] at h; cases h
  · rw [if_neg h1] at h; cases h
theorem askE_ok {n k : Nat} {xs : List Int} (h : AskOk n k xs) : askE n k xs = 0 := by
  unfold askE
  rw [if_pos (List.all_eq_true.2 fun x hx => by have := h.range x hx; simp; omega), if_pos h.nodup, if_neg (by have := h.len; omega)]
theorem AskOk.getD {n k : Nat} {xs : List Int} (h : AskOk n k xs) {m : Nat} (hm : m < xs.length) : 0 ≤ xs.getD m 0 ∧ xs.getD m 0 < n := by
  rw [List.getD_eq_getElem?_getD, List.getElem?_eq_getElem hm]
  exact h.range _ (List.getElem_mem hm)
theorem idxB_nodup {n k : Nat} {xs : List Int} (h : AskOk n k xs) (hn : n ≤ 255) (m : Nat) : (idxB (xs.take m)).Nodup := by
  have e : idxB (xs.take m) = ((xs.take m).map Int.toNat).map ofB := by unfold idxB; rw [List.map_map]; rfl
  rw [e]
  refine map_ofB_nodup (fun i hi => ?_) ?_
  · obtain ⟨x, hx, rfl⟩ := List.mem_map.1 hi
    have := h.range x (List.mem_of_mem_take hx)
    omega
  · rw [List.nodup_iff_pairwise_ne, List.pairwise_map]
    have hnd : (xs.take m).Nodup := h.nodup.sublist (List.take_sublist m xs)
    exact (List.nodup_iff_pairwise_ne.1 hnd).imp_of_mem (fun ha hb hne e => hne (by
      have h1 := h.range _ (List.mem_of_mem_take ha)
      have h2 := h.range _ (List.mem_of_mem_take hb)
      omega))

theorem turn_bad (w : World) {bc n k bf : Nat} {vt : Value} (hc : CoderAt w bc n k bf vt) (v : Value) (xs : List Int) (hv : IntsAt w v xs) (hl : xs.length ≤ 1000000) (he : askE n k xs ≠ 0) :
    Calls Tryz.prog 66 #[.pointer (some ⟨bc, 0, none⟩), v] w fun e w' => e = .returned (.tuple #[.slice none 0 0, .int .i64 (askE n k xs)]) ∧ Below w.heap.size w w' := by
  have HC := Lib.hid hc
  have HA := Lib.hid (asked_any w hc v xs hv hl)
  obtain ⟨p, cap, hvv, _⟩ := hv
  subst hvv
  obtain ⟨a, ha⟩ : ∃ a, askE n k xs = a := ⟨_, rfl⟩
  rw [ha] at HA he ⊢
  have h1 : (a == 0) = false := by simpa using he
  have HE := Lib.hid he
  clear hc ha he
  go_enter Tryz.func66, Tryz.ntmps66
  go_wp2_with fail
  refine (there_yes w HC.out).mono ?_
  rintro e w' ⟨rfl, rfl⟩
  go_wp2_with fail
  refine HA.out.mono ?_
  rintro e w1 ⟨rfl, hB1⟩
  have h2 : ¬ a = 0 := HE.out
  go_wp2
  go_ret2
  exact ⟨rfl, hB1⟩

theorem turn_any (w : World) {bc n k bf : Nat} {vt : Value} (hc : CoderAt w bc n k bf vt) (v : Value) (xs : List Int) (hv : IntsAt w v xs) (hl : xs.length ≤ 1000000) (he : AskOk n k xs) :
    Calls Tryz.prog 66 #[.pointer (some ⟨bc, 0, none⟩), v] w fun e w' => ∃ gm U, e = .returned (.tuple #[.slice (some ⟨gm, 0, none⟩) k k, .int .i64 0]) ∧ MatW w' gm k k U (fun r s => lag (idxB (xs.take k)) s (ofB r)) ∧ (∀ i, matB gm k U i → w.heap.size ≤ i) ∧ Below w.heap.size w w' := by
  have HC := Lib.hid hc
  have HA := Lib.hid (asked_any w hc v xs hv hl)
  rw [askE_ok he] at HA
  have HO := Lib.hid he
  have hkl := he.len
  have h1 := hc.k1
  have h2 := hc.kn
  have h3 := hc.n255
  have HV := Lib.hid hv
  obtain ⟨p, cap, hvv, hcap, _⟩ := hv
  subst hvv
  clear hc he
  go_enter Tryz.func66, Tryz.ntmps66
  go_wp2_with fail
  refine (there_yes w HC.out).mono ?_
  rintro e w' ⟨rfl, rfl⟩
  go_wp2_with fail
  refine HA.out.mono ?_
  rintro e w1 ⟨rfl, hB1⟩
  have HC1 := Lib.hid (HC.out.below hB1)
  have c2 := HC1.out.c2
  have c1 := HC1.out.c1
  have hlc := HC1.out.lt
  obtain ⟨p', cap', e', _, hxq⟩ := HV.out.below hB1
  simp only [Value.slice.injEq] at e'
  obtain ⟨rfl, _, rfl⟩ := e'
  obtain ⟨gi, oi, rfl, hxc⟩ := hxq (by omega)
  have HX := Lib.hid hxc
  have lgi := blt (hxc 0 (by omega))
  obtain ⟨pt, ct, hvt, hh⟩ := HC1.out.table
  rw [tblL_len] at hvt hh
  subst hvt
  obtain ⟨gt, ot, rfl, hrows⟩ := hh (by omega)
  have HR := Lib.hid hrows
  have hlt0 := blt (hrows 0 (by omega)).choose_spec.1
  have hs1 := hB1.size
  have HB1 := Lib.hid hB1
  have hkc : k ≤ cap := by omega
  clear hh hrows hxc hB1 hxq
  go_wp2
  go_loopw [7, 9, 26] (fun v _ i wr => ∃ m : Nat, m ≤ k ∧ i = .int .i64 (m : Int) ∧ RowsOwn wr w1.heap.size v (someL k (xs.take m)) ∧ Below w1.heap.size w1 wr) (fun _ _ i _ => k - (intOf i).toNat)
  case atStart => exact ⟨0, Nat.zero_le _, rfl, RowsOwn.nil _ _, Below.refl _ _⟩
  case round =>
    obtain ⟨m, hm, rfl, ho, hB⟩ := hrel
    have HR2 := Lib.hid ho
    have HB := Lib.hid hB
    have hsr := hB.size
    clear ho
    by_cases hlt : m < k
    · have x0 := (hB.cell (p := ⟨gi, oi + m, none⟩) lgi).trans (HX.out m (by omega))
      have y1 := (hB.cell (p := ⟨bc, 1, none⟩) hlc).trans c1
      obtain ⟨q1, q2⟩ := HO.out.getD (m := m) (by omega)
      have HSN := Lib.hid (someL_snoc (k := k) (m := m) (xs := xs) (by omega))
      obtain ⟨x, hx⟩ : ∃ x, xs.getD m 0 = x := ⟨_, rfl⟩
      rw [hx] at x0 q1 q2 HSN
      clear hx
      obtain ⟨t, rfl⟩ := Int.eq_ofNat_of_zero_le q1
      have ht : t < n := by omega
      obtain ⟨u, hu, hub⟩ := HR.out t ht
      have y2 := (hB.cell (p := ⟨gt, ot + t, none⟩) hlt0).trans hu
      rw [tblL_get ht] at hub
      obtain ⟨pu, cu, rfl, hbc⟩ := hub
      have HWL := Lib.hid (show (wtsL (ptsL k) (ofB t)).length = k by rw [wtsL_len, ptsL_len])
      rw [HWL.out] at hbc y2 hu
      have HBY := Lib.hid (show BytesAt wr (.slice pu k cu) (wtsL (ptsL k) (ofB t)) from (show BytesAt w1 (.slice pu k cu) (wtsL (ptsL k) (ofB t)) from ⟨pu, cu, by rw [HWL.out], by rw [HWL.out]; exact hbc⟩).below hB)
      obtain ⟨gu, ou, rfl, hbd⟩ := hbc (by omega)
      have lgu := blt (hbd 0 (by omega))
      have HLV := Lib.hid HR2.out.lt
      have HTL := Lib.hid (show (someL k (xs.take m)).length = m by rw [someL_len]; simp; omega)
      clear hbc hbd hu hB
      go_wp2_with (at_builtin; refine app_row rfl _ _ rfl w1.heap.size m _ _ HTL.out rfl HR2.out (.slice (some ⟨gu, ou, none⟩) k cu) _ HBY.out (fun b hb => own_is hb ▸ ⟨by omega, fun h => by have := (HLV.out _ h).1; omega⟩) rfl rfl (by omega) hsr ?_; intro g' c' w6 hR6 hk6 hs6 hg6)
      go_roundw
      case rel =>
        refine ⟨m + 1, by omega, by go_num, ?_, HB.out.trans (hk6.toBelow hsr (fun i h => (HLV.out i h).1))⟩
        have := HSN.out
        simp only [Int.toNat_natCast] at this
        rw [← this]; exact hR6
      case measure => simp [intOf]; omega
    · obtain rfl : m = k := by omega
      have hyn := idxB_nodup HO.out h3 m
      have hyl : (idxB (xs.take m)).length = m := by rw [idxB_len]; simp; omega
      have htl : (xs.take m).length = m := by simp; omega
      have HI := Lib.hid (inverse_any wr u7 (someL m (xs.take m)) m HR2.out.rows (by rw [someL_len, htl]) h1 (by omega) (fun i hi => by
          rw [someL_len] at hi
          rw [someL_get hi, wtsL_len, ptsL_len]) (fun r s => lag (idxB (xs.take m)) s (ofB r))
        (fun v hv => by
          have := lag_ker (xs := ptsL m) (ys := idxB (xs.take m)) (ptsL_nodup (by omega)) hyn (by rw [hyl, ptsL_len]) v (fun r hr => by
            rw [ptsL_len] at hr ⊢
            exact (sm_congr (fun j hj => by rw [someL_lsM (by omega) hj])).trans (hv r hr))
          rw [ptsL_len] at this
          exact this)
        (fun t s ht hs => by
          have := lag_inverse (xs := ptsL m) (ys := idxB (xs.take m)) (ptsL_nodup (by omega)) (by rw [hyl, ptsL_len]) (t := t) (s := s) (by rw [ptsL_len]; exact ht) (by rw [ptsL_len]; exact hs) hyn
          rw [ptsL_len] at this
          rw [← this]
          exact sm_congr (fun j hj => by rw [someL_lsM (by omega) hj, ptsL_get hj])))
      clear hyn hyl htl
      go_wp2_with fail
      refine HI.out.mono ?_
      rintro e w7 ⟨gm, U, rfl, hM, hU, hB7⟩
      have HM := Lib.hid hM
      have HU := Lib.hid hU
      clear hM hU
      go_wp2
      go_ret2
      exact ⟨gm, U, rfl, HM.out, fun i h => by have := HU.out i h; omega, below_more (below_more HB1.out HB.out hs1) hB7 (by omega)⟩

end Go.Proofs.YtojbbmfndlcgkaaGreat
