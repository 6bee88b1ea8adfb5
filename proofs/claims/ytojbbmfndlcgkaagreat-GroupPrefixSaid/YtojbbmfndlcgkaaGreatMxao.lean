/-
  Walks of layer 3 (rows): IndexFunc, steps.
-/
import Derived.Test.YtojbbmfndlcgkaaGreatMxan
import Derived.BigRegion
namespace Go.Proofs.YtojbbmfndlcgkaaGreat
open Go.RowKit Go.Maps
set_option linter.unusedVariables false
set_option maxRecDepth 100000
set_option maxHeartbeats 2000000

theorem indexGrid_any (w : World) (bc gm k W c : Nat) (U : Nat → Nat × Nat) (M : Nat → Nat → B) (cp : Nat) (hb : w.cell? ⟨bc, 0, none⟩ = some (.int .i64 (c : Int))) (hM : MatW w gm k W U M) (hc : c < k) (hcW : c < W) (hk : k ≤ 1000) (hW : W ≤ 1000000)
    (hp : ∃ p, c ≤ p ∧ p < k ∧ M p c ≠ 0) :
    Calls Tryz.prog 103 #[.slice (some ⟨gm, c, none⟩) (k - c) cp, .func (.func 104) #[] #[.pointer (some ⟨bc, 0, none⟩)]] w fun e w' => ∃ at' : Nat, e = .returned (.int .i64 (at' : Int)) ∧ c + at' < k ∧ M (c + at') c ≠ 0 ∧ w = w' := by
  have HM := Lib.hid hM
  have HP := Lib.hid hp
  clear hM hp
  obtain ⟨L, hL⟩ : ∃ L, k - c = L := ⟨_, rfl⟩
  rw [hL]
  have hL1 : c + L = k := by omega
  clear hL
  go_enter Tryz.func103, Tryz.ntmps103
  go_wp2
  go_loop [5, 8] (fun _ i => ∃ j : Nat, j ≤ L ∧ i = .int .i64 (j : Int) ∧ ∀ t, t < j → M (c + t) c = 0) (fun _ i => L - (intOf i).toNat)
  case atStart => exact ⟨0, Nat.zero_le _, rfl, fun j h => absurd h (by omega)⟩
  case round =>
    obtain ⟨j, hj, rfl, hno⟩ := hrel
    have HN := Lib.hid hno
    clear hno
    have hjlt : j < L := by
      rcases Nat.lt_or_ge j L with h | h
      · exact h
      · obtain ⟨p, p1, p2, p3⟩ := HP.out
        exact absurd (by have := HN.out (p - c) (by omega); rwa [show c + (p - c) = p by omega] at this) p3
    have d1 := HM.out.out (r := c + j) (by omega)
    have d2 := HM.out.cell (r := c + j) (j := c) (by omega) hcW
    have HC := Lib.hid (steps1_any w bc (U (c + j)).1 c (M (c + j)) W (U (c + j)).2 hb d2 hcW (by omega))
    clear d2
    by_cases e : M (c + j) c = 0
    · have e1 : ((M (c + j) c).v != 0) = false := by rw [e]; rfl
      rw [e1] at HC
      have HE := Lib.hid e
      clear e e1
      go_wp2_with fail
      refine HC.out.mono ?_
      rintro e w' ⟨rfl, rfl⟩
      go_wp2
      go_round
      case rel =>
        refine ⟨j + 1, by omega, by go_num, fun t ht => ?_⟩
        by_cases q : t = j
        · subst q; exact HE.out
        · exact HN.out t (by omega)
      case measure => simp [intOf]; omega
    · have e1 : ((M (c + j) c).v != 0) = true := by
        have : (M (c + j) c).v ≠ 0 := fun q => e (B.ext q)
        simpa using this
      rw [e1] at HC
      have HE := Lib.hid e
      clear e e1
      go_wp2_with fail
      refine HC.out.mono ?_
      rintro e w' ⟨rfl, rfl⟩
      go_wp2
      go_ret
      exact ⟨j, rfl, by omega, HE.out, rfl⟩

theorem steps_any (w : World) (bf gm k kc : Nat) (U : Nat → Nat × Nat) (A M : Nat → Nat → B) (hF : FieldAt w bf) (hM : MatW w gm k (k + k) U M) (hD : Done k 0 A M) (hk : k ≤ 255) (hkc : k ≤ kc) (hfn : ¬ matB gm k U bf) :
    Calls Tryz.prog 99 #[.agg #[.pointer (some ⟨bf, 0, none⟩)], .slice (some ⟨gm, 0, none⟩) k kc, .int .i64 (k : Int)] w fun e w' => e = .returned (.int .i64 (k : Int)) ∧ (∃ U' M', MatW w' gm k (k + k) U' M' ∧ Done k k A M' ∧ ∀ i, matB gm k U' i → matB gm k U i) ∧ Kept (matB gm k U) w w' := by
  have HF := Lib.hid hF
  have HM := Lib.hid hM
  have HD := Lib.hid hD
  have HN := Lib.hid hfn
  have hml := hM.lt
  have HUL := Lib.hid (show ∀ r, r < k → (U r).1 < w.heap.size from fun r hr => (hM.row r hr).lt)
  clear hF hM hD hfn
  go_enter Tryz.func99, Tryz.ntmps99
  go_wp2
  have kA0 := Kept.alloc (fun _ => False) w (.cells #[.pointer (some ⟨bf, 0, none⟩)] 157)
  have e0 : (w.alloc (.cells #[.pointer (some ⟨bf, 0, none⟩)] 157)).heap[w.heap.size]? = some (.cells #[.pointer (some ⟨bf, 0, none⟩)] 157 (0, 0)) := heap_alloc_new w _
  have HE0 := Lib.hid e0
  clear e0
  have HM1 := Lib.hid (HM.out.kept kA0 (fun _ _ h => h))
  have HF1 := Lib.hid (HF.out.kept kA0 (fun h => h))
  have sA : w.heap.size < (w.alloc (.cells #[.pointer (some ⟨bf, 0, none⟩)] 157)).heap.size := by simp
  generalize (w.alloc (.cells #[.pointer (some ⟨bf, 0, none⟩)] 157)) = w1 at *
  have HBL := Lib.hid (show ∀ i, matB gm k U i → i < w.heap.size from fun i h => by
    rcases h with h | ⟨r, hr, h⟩
    · omega
    · have := HUL.out r hr; omega)
  go_loopw [6, 7, 8, 9, 10, 11, 13] (fun n _ _ _ _ _ i wr => ∃ (c : Nat) (U' : Nat → Nat × Nat) (M' : Nat → Nat → B), c ≤ k ∧ i = .int .i64 (c : Int) ∧ n = .int .i64 (c : Int) ∧ MatW wr gm k (k + k) U' M' ∧ Done k c A M' ∧ (∀ i, matB gm k U' i → matB gm k U i) ∧ Kept (matB gm k U) w1 wr) (fun _ _ _ _ _ _ i _ => k - (intOf i).toNat)
  case atStart => exact ⟨0, U, M, Nat.zero_le _, rfl, rfl, HM1.out, HD.out, fun _ h => h, Kept.refl _ _⟩
  case round =>
    obtain ⟨c, U', M', hc, rfl, rfl, hm, hd, hu, kk⟩ := hrel
    have HM2 := Lib.hid hm
    have HD2 := Lib.hid hd
    have HU2 := Lib.hid hu
    have hs2 := kk.size
    clear hm hd hu
    by_cases hlt : c < k
    · have hkc1 : c < kc := by omega
      have hcb : wr.cell? ⟨w.heap.size, 0, none⟩ = some (.pointer (some ⟨bf, 0, none⟩)) := by
        rw [cell_of ((kk.block w.heap.size sA (fun h => by have := HBL.out _ h; omega)).trans HE0.out)]; rfl
      have kB := Kept.alloc (fun _ => False) wr (.cells #[.int .i64 (c : Int)] 3)
      have kB0 := Kept.alloc (fun _ => False) wr (.cells #[.int .i64 0] 3)
      have HPV := Lib.hid (HD2.out.pivot hlt)
      go_wp2_with fail
      have HM3 := Lib.hid (HM2.out.kept kB (fun _ _ h => h))
      have hv3 : (wr.alloc (.cells #[.int .i64 (c : Int)] 3)).heap[wr.heap.size]? = some (.cells #[.int .i64 (c : Int)] 3 (0, 0)) := heap_alloc_new wr _
      have hw3 := (kB.block w.heap.size (by omega) (fun h => h)).trans ((kk.block w.heap.size sA (fun h => by have := HBL.out _ h; omega)).trans HE0.out)
      have HF3 := Lib.hid ((HF1.out.kept kk HN.out).kept kB (fun h => h))
      have hs3 : wr.heap.size < (wr.alloc (.cells #[.int .i64 (c : Int)] 3)).heap.size := by simp
      have kk3 := kk.trans kB (fun _ _ h => h.elim)
      have HV3 := Lib.hid hv3
      have HW3 := Lib.hid hw3
      clear hv3 hw3 kB0 hcb
      generalize (wr.alloc (.cells #[.int .i64 (c : Int)] 3)) = w3 at *
      refine (indexGrid_any w3 wr.heap.size gm k (k + k) c U' M' (kc - c) (by rw [cell_of HV3.out]; rfl) HM3.out hlt (by omega) (by omega) (by omega) HPV.out).mono ?_
      rintro e w' ⟨q, rfl, hq1, hq2, rfl⟩
      have HQ2 := Lib.hid hq2
      have o1 := HM3.out.out (r := c) hlt
      have o2 := HM3.out.out (r := c + q) hq1
      have o3 := HM3.out.fz c
      have o4 := HM3.out.fz (c + q)
      have q1 : c + q < kc := by omega
      have q2 : ¬ (q : Int) < 0 := by omega
      have HSW := Lib.hid (HM3.out.swap hlt hq1)
      have HDS := Lib.hid (HD2.out.swap (p := c + q) (by omega) hq1)
      clear hq2
      have HKS : ∀ (a b : Nat) (u v : Value), Kept (fun i => i = gm) w3 ((w3.setCell ⟨gm, a, none⟩ u).setCell ⟨gm, b, none⟩ v).drew := fun a b u v =>
        ((Kept.set1 w3 gm a u).trans (Kept.set1 _ gm b v) (fun _ _ h => h)).drew
      have HKS' := Lib.hid HKS
      clear HKS
      by_cases hz : q = 0
      all_goals first
        | (subst hz
           simp only [Nat.add_zero] at o2 o4 hq1 q1 HSW HDS HQ2
           go_wp2
           go_region
           have k34 := HKS'.out c c (.slice (some ⟨(U' c).1, 0, none⟩) (k + k) (U' c).2) (.slice (some ⟨(U' c).1, 0, none⟩) (k + k) (U' c).2)
           have HM4 := Lib.hid (show MatW ((w3.setCell ⟨gm, c, none⟩ (.slice (some ⟨(U' c).1, 0, none⟩) (k + k) (U' c).2)).setCell ⟨gm, c, none⟩ (.slice (some ⟨(U' c).1, 0, none⟩) (k + k) (U' c).2)).drew gm k (k + k) _ _ from HSW.out.dr 1)
           generalize ((w3.setCell ⟨gm, c, none⟩ (.slice (some ⟨(U' c).1, 0, none⟩) (k + k) (U' c).2)).setCell ⟨gm, c, none⟩ (.slice (some ⟨(U' c).1, 0, none⟩) (k + k) (U' c).2)).drew = w4 at *
           have HX4 := Lib.hid (show swapM M' c c c c ≠ 0 from by have := HQ2.out; unfold swapM; rw [if_pos rfl]; exact this)
           have HU4 := Lib.hid (show ∀ i, matB gm k (swapU U' c c) i → matB gm k U i from fun i h => HU2.out i (matB_swap hlt hlt h))
           generalize swapU U' c c = U4 at *
           generalize swapM M' c c = M4 at *)
        | (have n1 : ¬ c + q = c := by omega
           have n2 : ¬ c = c + q := by omega
           go_wp2
           go_region
           have k34 := HKS'.out c (c + q) (.slice (some ⟨(U' (c + q)).1, 0, none⟩) (k + k) (U' (c + q)).2) (.slice (some ⟨(U' c).1, 0, none⟩) (k + k) (U' c).2)
           have HM4 := Lib.hid (show MatW ((w3.setCell ⟨gm, c, none⟩ (.slice (some ⟨(U' (c + q)).1, 0, none⟩) (k + k) (U' (c + q)).2)).setCell ⟨gm, c + q, none⟩ (.slice (some ⟨(U' c).1, 0, none⟩) (k + k) (U' c).2)).drew gm k (k + k) _ _ from HSW.out.dr 1)
           generalize ((w3.setCell ⟨gm, c, none⟩ (.slice (some ⟨(U' (c + q)).1, 0, none⟩) (k + k) (U' (c + q)).2)).setCell ⟨gm, c + q, none⟩ (.slice (some ⟨(U' c).1, 0, none⟩) (k + k) (U' c).2)).drew = w4 at *
           have HX4 := Lib.hid (show swapM M' c (c + q) c c ≠ 0 from by have := HQ2.out; unfold swapM; rw [if_pos rfl]; exact this)
           have HU4 := Lib.hid (show ∀ i, matB gm k (swapU U' c (c + q)) i → matB gm k U i from fun i h => HU2.out i (matB_swap hlt hq1 h))
           generalize swapU U' c (c + q) = U4 at *
           generalize swapM M' c (c + q) = M4 at *)
      all_goals
        clear o1 o2 o3 o4 HSW HKS' HQ2 HM3 HM2 HD2 HU2 HPV
        have s34 := k34.size
        have HF4 := Lib.hid (HF3.out.kept k34 (fun h => HN.out (.inl h)))
        have v1 : w4.cell? ⟨w.heap.size, 0, none⟩ = some (.pointer (some ⟨bf, 0, none⟩)) := by
          rw [cell_of ((k34.block w.heap.size (by omega) (by omega)).trans HW3.out)]; rfl
        have v2 : w4.cell? ⟨wr.heap.size, 0, none⟩ = some (.int .i64 (c : Int)) := by
          rw [cell_of ((k34.block wr.heap.size (by omega) (by omega)).trans HV3.out)]; rfl
        have v3 := HM4.out.out (r := c) hlt
        have v4 := HM4.out.cell (r := c) (j := c) hlt (by omega)
        have v5 : c < k + k := by omega
        have kk4 := kk3.trans k34 (fun i _ h => .inl h)
        obtain ⟨x, hx⟩ : ∃ x, M4 c c = x := ⟨_, rfl⟩
        rw [hx] at v4 HX4
        have HX := Lib.hid hx
        clear hx
        go_wp2_with fail
        go_quiet ((go_at_call 87; exact q_one (finv_any _ bf (by exact HF4.out) x HX4.out)))
        go_wp2_with fail
        refine wp_still_tail 6 (by kernel_rfl) (by kernel_rfl) ?_
        simp only [List.take_succ_cons, List.take_zero, List.drop_succ_cons, List.drop_zero]
        repeat still_step
        refine wpStill_nil ?_
        go_wp2_with fail
        have hub : ∀ r, r < k → (U4 r).1 < w.heap.size := fun r hr => HBL.out _ (HU4.out _ (.inr ⟨r, hr, rfl⟩))
        have HUB := Lib.hid hub
        clear hub
        have hbfU : ∀ r, r < k → bf ≠ (U4 r).1 := fun r hr e => HN.out (HU4.out _ (.inr ⟨r, hr, e.symm⟩))
        have HBU := Lib.hid hbfU
        clear hbfU
        have HUC := Lib.hid (HUB.out c hlt)
        have HM4' := Lib.hid (show MatW (w4.drewN nq).drew gm k (k + k) U4 M4 from (HM4.out.dr nq).dr 1)
        have HV3' := Lib.hid (show (w4.drewN nq).drew.heap[wr.heap.size]? = _ from ((k34.block wr.heap.size (by omega) (by omega)).trans HV3.out))
        have HW3' := Lib.hid (show (w4.drewN nq).drew.heap[w.heap.size]? = _ from ((k34.block w.heap.size (by omega) (by omega)).trans HW3.out))
        have hs4' : w3.heap.size ≤ (w4.drewN nq).drew.heap.size := s34
        have kk4' : Kept (matB gm k U) w1 (w4.drewN nq).drew := (kk4.drewN nq).drew
        refine (scale_any (w4.drewN nq).drew bf (U4 c).1 (k + k) (U4 c).2 (M4 c) x.inv (show FieldAt _ _ from HF4.out) (show RowC _ _ _ _ from HM4.out.row c hlt) (HBU.out c hlt) (by omega)).mono ?_
        rintro e w5 ⟨⟨ev, rfl⟩, hr5, k45⟩
        have HM5 := Lib.hid (show MatW w5 gm k (k + k) U4 (scaleM M4 c x.inv) from (HM4'.out.turn hlt k45 hr5).congr (fun r j hr hj => by
          unfold scaleM
          by_cases e : r = c
          · rw [if_pos e, if_pos e, e]
          · rw [if_neg e, if_neg e]))
        have HD5 := Lib.hid (HDS.out.scale (b := x.inv) (B.inv_ne HX4.out))
        have HX5 := Lib.hid (show scaleM M4 c x.inv c c = 1 by unfold scaleM; rw [if_pos rfl, HX.out]; exact B.mul_inv HX4.out)
        have HF5 := Lib.hid ((show FieldAt (w4.drewN nq).drew bf from HF4.out).kept k45 (HBU.out c hlt))
        have HUCo := HUC.out
        have HV5 := Lib.hid ((k45.block wr.heap.size (by omega) (by omega)).trans HV3'.out)
        have HW5 := Lib.hid ((k45.block w.heap.size (by omega) (by omega)).trans HW3'.out)
        have s45 := k45.size
        have kk5 := kk4'.trans k45 (fun i _ h => HU4.out i (.inr ⟨c, hlt, h.symm⟩))
        have hs5 : w3.heap.size ≤ w5.heap.size := by omega
        clear hr5 k45 v1 v2 v3 v4 HM4 HM4' HDS HX HV3' HW3' hs4' kk4' s45 s34 k34 kk4 kk3
        generalize scaleM M4 c x.inv = M5 at *
        generalize wr.heap.size = vb at *
        go_wp2
        go_loopw [11, 63] (fun _ i wi => ∃ r : Nat, r ≤ k ∧ i = .int .i64 (r : Int) ∧ MatW wi gm k (k + k) U4 (fun i j => if i < r then clearM M5 c i j else M5 i j) ∧ Kept (matB gm k U) w5 wi) (fun _ i _ => k - (intOf i).toNat)
        case atStart => exact ⟨0, Nat.zero_le _, rfl, HM5.out.congr (fun r j _ _ => by rw [if_neg (by omega)]), Kept.refl _ _⟩
        case round =>
          obtain ⟨r, hr, rfl, hm6, kk6⟩ := hrel
          have HM6 := Lib.hid hm6
          clear hm6
          by_cases hlr : r < k
          · by_cases hrc : r = c
            · have t1 : (r == c) = true := by simpa using hrc
              have HRC := Lib.hid hrc
              clear hrc
              go_wp2
              go_roundw
              case rel => exact ⟨r + 1, by omega, by go_num, HM6.out.congr (fun i j _ _ => by
                  by_cases e : i < r
                  · rw [if_pos e, if_pos (by omega)]
                  · rw [if_neg e]
                    by_cases q : i < r + 1
                    · rw [if_pos q]; unfold clearM; rw [if_pos (by have := HRC.out; omega)]
                    · rw [if_neg q]), kk6⟩
              case measure => simp [intOf]; omega
            · have t1 : (r == c) = false := by simpa using hrc
              have t2 : ¬ (r : Int) = c := by omega
              have HRC := Lib.hid hrc
              clear hrc
              have s56 := kk6.size
              have v1 : wr.cell? ⟨w.heap.size, 0, none⟩ = some (.pointer (some ⟨bf, 0, none⟩)) := by
                rw [cell_of ((kk6.block w.heap.size (by omega) (fun h => by have := HBL.out _ h; omega)).trans HW5.out)]; rfl
              have v2 : wr.cell? ⟨vb, 0, none⟩ = some (.int .i64 (c : Int)) := by
                rw [cell_of ((kk6.block vb (by omega) (fun h => by have := HBL.out _ h; omega)).trans HV5.out)]; rfl
              have v3 := HM6.out.out (r := c) hlt
              have v4 := HM6.out.out (r := r) hlr
              have v5 := HM6.out.cell (r := r) (j := c) hlr (by omega)
              have v6 : c < k + k := by omega
              have v7 : r < kc := by omega
              have v8 : (c : Int) < (k : Int) + (k : Int) := by omega
              have HF6 := Lib.hid (HF5.out.kept kk6 HN.out)
              have HR6 := Lib.hid (HM6.out.row r hlr)
              have HC6 := Lib.hid (show ∀ i, i < k + k → wr.cell? ⟨(U4 c).1, 0 + i, none⟩ = some (bv (M5 c i)) from fun i hi => by
                have := HM6.out.cell (r := c) (j := i) hlt hi
                rw [Nat.zero_add, this]
                by_cases e : c < r
                · rw [if_pos e]; unfold clearM; rw [if_pos rfl]
                · rw [if_neg e])
              have HNE := Lib.hid (show (U4 c).1 ≠ (U4 r).1 from fun e => HRC.out (HM6.out.inj r c hlr hlt e.symm))
              simp only [Nat.lt_irrefl, if_false] at v5
              rw [show (fun j => if r < r then clearM M5 c r j else M5 r j) = M5 r from funext fun j => if_neg (Nat.lt_irrefl r)] at HR6
              have HBR := Lib.hid (HBU.out r hlr)
              obtain ⟨y, hy⟩ : ∃ y, M5 r c = y := ⟨_, rfl⟩
              rw [hy] at v5
              have HY := Lib.hid hy
              clear hy
              go_wp2_with fail
              refine wp_still_tail 16 (by kernel_rfl) (by kernel_rfl) ?_
              simp only [List.take_succ_cons, List.take_zero, List.drop_succ_cons, List.drop_zero]
              repeat still_step
              refine wpStill_nil ?_
              go_wp2_with fail
              refine (add_any wr.drew bf (U4 r).1 (k + k) (U4 r).2 (U4 c).1 0 (k + k) (U4 c).2 (M5 r) (M5 c) y (show FieldAt _ _ from HF6.out) (show RowC _ _ _ _ from HR6.out) HBR.out (by omega) HNE.out (Nat.le_refl _) (by omega) HC6.out).mono ?_
              rintro e w7 ⟨⟨ev, rfl⟩, hr7, k67⟩
              have HM7 := Lib.hid ((show MatW wr.drew gm k (k + k) U4 _ from HM6.out.dr 1).turn hlr k67 hr7)
              have kk7 := (kk6.drew).trans k67 (fun i _ h => HU4.out i (.inr ⟨r, hlr, h.symm⟩))
              clear hr7 k67 v1 v2 v3 v4 v5
              go_wp2
              go_roundw
              case rel =>
                refine ⟨r + 1, by omega, by go_num, HM7.out.congr (fun i j _ _ => ?_), kk7⟩
                by_cases e : i = r
                · subst e
                  rw [if_pos rfl, if_pos (by omega)]
                  unfold clearM
                  rw [if_neg HRC.out, HY.out]
                · rw [if_neg e]
                  by_cases q : i < r
                  · rw [if_pos q, if_pos (by omega)]
                  · rw [if_neg q, if_neg (by omega)]
              case measure => simp [intOf]; omega
          · obtain rfl : r = k := by omega
            have HM8 := Lib.hid (HM6.out.congr (M' := clearM M5 c) (fun i j hi _ => if_pos hi))
            have HD8 := Lib.hid (HD5.out.clear hlt HX5.out)
            have kk8 := kk5.trans kk6 (fun _ _ h => h)
            go_wp2
            go_roundw
            case rel => exact ⟨c + 1, U4, _, by omega, by go_num, by go_num, HM8.out, HD8.out, HU4.out, kk8⟩
            case measure => simp [intOf]; omega
    · obtain rfl : c = k := by omega
      go_wp2
      go_ret
      exact ⟨rfl, ⟨U', M', HM2.out, HD2.out, HU2.out⟩, (kA0.mono (S' := matB gm c U) (fun _ _ h => h.elim)).trans kk (fun _ _ h => h)⟩

end Go.Proofs.YtojbbmfndlcgkaaGreat
