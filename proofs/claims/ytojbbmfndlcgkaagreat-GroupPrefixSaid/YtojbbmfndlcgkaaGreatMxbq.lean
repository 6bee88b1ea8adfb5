/-
  Layer 10, walks: the error of bodies that are held.
-/
import Derived.Test.YtojbbmfndlcgkaaGreatMxbe
import Derived.Test.YtojbbmfndlcgkaaGreatMxau
namespace Go.Proofs.YtojbbmfndlcgkaaGreat
open Go.RowKit Go.Maps
set_option linter.unusedVariables false
set_option linter.unusedSimpArgs false
set_option maxRecDepth 100000
set_option maxHeartbeats 4000000

theorem zero255 : Tryz.zeroCells101 = Array.replicate 255 (Value.int .i64 0) := by kernel_rfl
theorem heldE_bad {n : Int} {long : Nat} {hs : List (Int × List B)} {j : Nat} (hj : j < hs.length) (h : ¬ (0 ≤ (hs.getD j (0, [])).1 ∧ (hs.getD j (0, [])).1 < n ∧ (hs.getD j (0, [])).2.length = long)) : heldE n long hs = 2 := by
  unfold heldE
  rw [if_neg (fun h2 => h (heldE_all.1 h2 j hj))]
theorem hIdx_snocT {hs : List (Int × List B)} {j : Nat} (h : j < hs.length) : (hIdx hs).take (j + 1) = (hIdx hs).take j ++ [(hs.getD j (0, [])).1] := by
  have hl : j < (hIdx hs).length := by simpa [hIdx] using h
  rw [List.take_add_one, List.getElem?_eq_getElem hl]
  have := hIdxT_get h
  rw [List.getD_eq_getElem?_getD, List.getElem?_eq_getElem hl] at this
  simp only [Option.getD_some] at this
  rw [this]
  rfl
theorem nodup_snoc {l : List Int} {x : Int} : (l ++ [x]).Nodup ↔ l.Nodup ∧ l.count x = 0 := by
  rw [List.nodup_append, List.count_eq_zero]
  constructor
  · rintro ⟨h1, _, h3⟩
    exact ⟨h1, fun h => h3 x h x (by simp) rfl⟩
  · rintro ⟨h1, h2⟩
    refine ⟨h1, by simp, fun a ha b hb e => ?_⟩
    rw [List.mem_singleton] at hb
    subst hb
    exact h2 (e ▸ ha)
theorem count_snoc (l : List Int) (x y : Int) : (l ++ [x]).count y = l.count y + if x = y then 1 else 0 := by
  rw [List.count_append, List.count_singleton]
  by_cases h : x = y
  · subst h; simp
  · simp [h]

theorem basked_any (w : World) (n long : Nat) (v : Value) (hs : List (Int × List B)) (hv : HeldAt w v hs) (hn : n ≤ 255) (hl : hs.length ≤ 1000000) (hlong : long ≤ 1000000000) :
    Calls Tryz.prog 40 #[.int .i64 (n : Int), .int .i64 (long : Int), v] w fun e w' => e = .returned (.int .i64 (heldE n long hs)) ∧ Below w.heap.size w w' := by
  obtain ⟨p, cap, rfl, hcap, hh⟩ := hv
  have HH := Lib.hid hh
  obtain ⟨M, hM⟩ : ∃ M, hs.length = M := ⟨_, rfl⟩
  have HM := Lib.hid hM
  rw [hM] at HH hcap hl ⊢
  clear hh hM
  go_enter Tryz.func40, Tryz.ntmps40
  go_wp2
  have hz : ∀ q : Nat, q < 255 → (Tryz.zeroCells101)[q]? = some (Value.int .i64 0) := fun q hq => by rw [zero255]; simp [hq]
  have HZ := Lib.hid hz
  have HZS := Lib.hid (show (Tryz.zeroCells101).size = 255 by rw [zero255]; simp)
  have HB0 := Lib.hid (balT w (.cells Tryz.zeroCells101 101))
  have HC0 := Lib.hid (heap_alloc_new w (.cells Tryz.zeroCells101 101))
  clear hz
  go_loopw [8, 10, 13] (fun tw _ i wr => ∃ (j : Nat) (C : Array Value), j ≤ M ∧ i = .int .i64 (j : Int) ∧ tw = .bool (!decide ((hIdx hs).take j).Nodup) ∧ wr.heap[w.heap.size]? = some (.cells C 101 (0, 0)) ∧ C.size = 255 ∧ (∀ q : Nat, q < 255 → C[q]? = some (.int .i64 ((((hIdx hs).take j).count (q : Int) : Nat) : Int))) ∧ (∀ t, t < j → 0 ≤ (hs.getD t (0, [])).1 ∧ (hs.getD t (0, [])).1 < (n : Int) ∧ (hs.getD t (0, [])).2.length = long) ∧ Below w.heap.size w wr) (fun _ _ i _ => M - (intOf i).toNat)
  case atStart => exact ⟨0, _, Nat.zero_le _, rfl, by simp, HC0.out, HZS.out, fun q hq => by rw [List.take_zero]; exact HZ.out q hq, fun t h => absurd h (by omega), HB0.out⟩
  case round =>
    obtain ⟨wo, rfl⟩ : ∃ wo, wo = wr := ⟨_, rfl⟩
    obtain ⟨j, C, hj, rfl, rfl, hC, hCs, hcnt, hok, hB⟩ := hrel
    have HC := Lib.hid hC
    have HCS := Lib.hid hCs
    have HCNT := Lib.hid hcnt
    have HOK := Lib.hid hok
    have HB := Lib.hid hB
    clear hcnt hok
    by_cases hlt : j < M
    · obtain ⟨g, off, rfl, hc⟩ := HH.out (by omega)
      obtain ⟨d0, u, d1, hub⟩ := hc j hlt
      have d0 := (hB.cell (p := ⟨g, off + j * 2, none⟩) (blt d0)).trans d0
      have d1 := (hB.cell (p := ⟨g, off + j * 2 + 1, none⟩) (blt d1)).trans d1
      obtain ⟨pu, cu, rfl⟩ := hub.shape
      have HBAD := Lib.hid (fun h => heldE_bad (n := n) (long := long) (hs := hs) (j := j) (by rw [HM.out]; exact hlt) h)
      have HSN := Lib.hid (hIdx_snocT (hs := hs) (j := j) (by rw [HM.out]; exact hlt))
      have HGOOD := Lib.hid (fun (h : 0 ≤ (hs.getD j (0, [])).1 ∧ (hs.getD j (0, [])).1 < (n : Int) ∧ (hs.getD j (0, [])).2.length = long) => show ∀ t, t < j + 1 → 0 ≤ (hs.getD t (0, [])).1 ∧ (hs.getD t (0, [])).1 < (n : Int) ∧ (hs.getD t (0, [])).2.length = long from fun t ht => by
        by_cases e : t = j
        · subst e; exact h
        · exact HOK.out t (by omega))
      obtain ⟨x, hx⟩ : ∃ x, (hs.getD j (0, [])).1 = x := ⟨_, rfl⟩
      obtain ⟨lr, hlr⟩ : ∃ x, (hs.getD j (0, [])).2.length = x := ⟨_, rfl⟩
      rw [hx] at d0 HBAD HSN HGOOD
      rw [hlr] at d1 HBAD HGOOD
      have HB2 := Lib.hid (show Below w.heap.size w (wo.alloc (.cells #[.int .i64 x, .slice pu lr cu] 66)) from HB.out.alloc HB.out.size _)
      have hws : w.heap.size < wo.heap.size := (Array.getElem?_eq_some_iff.1 hC).1
      have hC2 : (wo.alloc (.cells #[.int .i64 x, .slice pu lr cu] 66)).heap[w.heap.size]? = some (.cells C 101 (0, 0)) := (Below.heap_alloc wo _ _ hws).trans hC
      have HC2 := Lib.hid hC2
      clear hc hub hx hlr hB hC hC2
      by_cases c1 : x < 0
      · have HE := Lib.hid (HBAD.out (fun h => by omega))
        go_wp2
        go_ret
        exact ⟨by rw [HE.out]; rfl, HB2.out⟩
      by_cases c2 : (n : Int) ≤ x
      · have HE := Lib.hid (HBAD.out (fun h => by omega))
        go_wp2
        go_ret
        exact ⟨by rw [HE.out]; rfl, HB2.out⟩
      by_cases c3 : lr ≠ long
      · have HE := Lib.hid (HBAD.out (fun h => c3 h.2.2))
        have c4 : ¬ (lr : Int) = (long : Int) := by omega
        clear c3
        go_wp2
        go_ret
        exact ⟨by rw [HE.out]; rfl, HB2.out⟩
      have hlr : lr = long := by omega
      subst hlr
      obtain ⟨q, rfl⟩ : ∃ q : Nat, x = (q : Int) := ⟨x.toNat, by omega⟩
      have hq : q < 255 := by omega
      have hcq := HCNT.out q hq
      have HGD := Lib.hid (HGOOD.out ⟨by omega, by omega, rfl⟩)
      have e1 : (wo.alloc (.cells #[.int .i64 (q : Int), .slice pu lr cu] 66)).cell? ⟨w.heap.size, q, none⟩ = some (.int .i64 ((((hIdx hs).take j).count (q : Int) : Nat) : Int)) := by rw [cell_of HC2.out, hcq]
      have f1 := fz_of HC2.out q
      have hcl : ((hIdx hs).take j).count (q : Int) ≤ j := Nat.le_trans List.count_le_length (by rw [List.length_take]; exact Nat.min_le_left _ _)
      obtain ⟨c, hcc⟩ : ∃ c, ((hIdx hs).take j).count (q : Int) = c := ⟨_, rfl⟩
      rw [hcc] at e1 hcl
      have HCC := Lib.hid hcc
      have HCN := Lib.hid (show ∀ y : Nat, y < 255 → (C.setIfInBounds q (.int .i64 ((c : Int) + 1)))[y]? = some (.int .i64 ((((hIdx hs).take (j + 1)).count (y : Int) : Nat) : Int)) from fun y hy => by
        rw [HSN.out, count_snoc]
        by_cases e : y = q
        · subst e
          rw [Array.getElem?_setIfInBounds_self_of_lt (by rw [HCS.out]; omega), if_pos rfl, HCC.out]
          rfl
        · rw [Array.getElem?_setIfInBounds_ne (fun r => e r.symm), HCNT.out y hy, if_neg (by omega), Nat.add_zero])
      have HND := Lib.hid (show ((hIdx hs).take (j + 1)).Nodup ↔ ((hIdx hs).take j).Nodup ∧ c = 0 from by rw [HSN.out, nodup_snoc, HCC.out])
      have hS7 : ((wo.setCell ⟨w.heap.size, q, none⟩ (.int .i64 ((c : Int) + 1))).alloc (.cells #[.int .i64 (q : Int), .slice pu lr cu] 66)).heap[w.heap.size]? = some (.cells (C.setIfInBounds q (.int .i64 ((c : Int) + 1))) 101 (0, 0)) := (Below.heap_alloc _ _ _ (by simp [World.setCell]; exact hws)).trans (heap_set (i := q) HC.out (.int .i64 ((c : Int) + 1)))
      have g1 : ((wo.setCell ⟨w.heap.size, q, none⟩ (.int .i64 ((c : Int) + 1))).alloc (.cells #[.int .i64 (q : Int), .slice pu lr cu] 66)).cell? ⟨w.heap.size, q, none⟩ = some (.int .i64 ((c : Int) + 1)) := by rw [cell_of hS7, Array.getElem?_setIfInBounds_self_of_lt (by rw [HCS.out]; omega)]
      have HSET := Lib.hid hS7
      have HB7 := Lib.hid (show Below w.heap.size w ((wo.setCell ⟨w.heap.size, q, none⟩ (.int .i64 ((c : Int) + 1))).alloc (.cells #[.int .i64 (q : Int), .slice pu lr cu] 66)) from (HB.out.setCell (p := ⟨w.heap.size, q, none⟩) (Nat.le_refl _) _).alloc (by simp [World.setCell]; omega) _)
      clear hS7
      clear hcq hcc
      by_cases hd : ((hIdx hs).take j).Nodup
      · rw [decide_eq_true hd]
        by_cases hc0 : c = 0
        · have HN1 := Lib.hid (show ((hIdx hs).take (j + 1)).Nodup from HND.out.2 ⟨hd, hc0⟩)
          have hc1 : ¬ (1 : Int) < (c : Int) + 1 := by omega
          clear hd hc0
          go_wp2
          go_roundw
          case rel => exact ⟨j + 1, _, by omega, by go_num, by rw [decide_eq_true HN1.out]; rfl, HSET.out, by simp [HCS.out], HCN.out, HGD.out, HB7.out⟩
          case measure => simp [intOf]; omega
        · have HN1 := Lib.hid (show ¬ ((hIdx hs).take (j + 1)).Nodup from fun h => hc0 (HND.out.1 h).2)
          have hc1 : (1 : Int) < (c : Int) + 1 := by omega
          clear hd hc0
          go_wp2
          go_roundw
          case rel => exact ⟨j + 1, _, by omega, by go_num, by rw [decide_eq_false HN1.out]; rfl, HSET.out, by simp [HCS.out], HCN.out, HGD.out, HB7.out⟩
          case measure => simp [intOf]; omega
      · rw [decide_eq_false hd]
        have HN1 := Lib.hid (show ¬ ((hIdx hs).take (j + 1)).Nodup from fun h => hd (HND.out.1 h).1)
        clear hd
        go_wp2
        go_roundw
        case rel => exact ⟨j + 1, _, by omega, by go_num, by rw [decide_eq_false HN1.out]; rfl, HSET.out, by simp [HCS.out], HCN.out, HGD.out, HB7.out⟩
        case measure => simp [intOf]; omega
    · obtain rfl : j = M := by omega
      have HTK := Lib.hid (show (hIdx hs).take j = hIdx hs from List.take_of_length_le (by simp [hIdx, HM.out]))
      have HALL := Lib.hid (show (hs.all fun h => decide (0 ≤ h.1) && decide (h.1 < (n : Int)) && h.2.length == long) = true from heldE_all.2 (fun i hi => HOK.out i (by rw [← HM.out]; exact hi)))
      rw [HTK.out]
      clear hC hCs hB
      by_cases hd : (hIdx hs).Nodup
      · have HE := Lib.hid (show heldE n long hs = 0 from by unfold heldE; rw [if_pos HALL.out, if_pos hd])
        rw [decide_eq_true hd]
        clear hd
        go_wp2
        go_ret
        exact ⟨by rw [HE.out]; rfl, HB.out⟩
      · have HE := Lib.hid (show heldE n long hs = 9 from by unfold heldE; rw [if_pos HALL.out, if_neg hd])
        rw [decide_eq_false hd]
        clear hd
        go_wp2
        go_ret
        exact ⟨by rw [HE.out]; rfl, HB.out⟩
end Go.Proofs.YtojbbmfndlcgkaaGreat
