/-
  LayH: Layer 10, walks: Long (the program's, the reference's).
  LayF: Layer 10, walks: the reference's Right.
-/
import Derived.Test.YtanjchpkekehgaaGreatMxau
import Derived.Test.YtanjchpkekehgaaGreatMxat
namespace Go.Proofs.YtanjchpkekehgaaGreat

section -- LayH
open Go.RowKit Go.Maps Go.Shelf

attribute [local go_sem] Oper.semAt_some
set_option linter.unusedVariables false
set_option linter.unusedSimpArgs false
set_option maxRecDepth 100000
set_option maxHeartbeats 2000000

theorem long_bad (w : World) (n : Int) (v : Value) (t : List (Int × Int)) (hv : TableAt w v t) (hd : ¬ TableOk n t) :
    Calls Tryz.prog 37 #[.int .i64 n, v] w fun e w' => e = .returned (.tuple #[.int .i64 0, .int .i64 2]) ∧ Below w.heap.size w w' := by
  have HR := Lib.hid (tright_any (w.alloc (.cells #[.int .i64 0] 3)) n v t (hv.below (balT w _)))
  rw [decide_eq_false hd] at HR
  have HB := Lib.hid (balT w (.cells #[.int .i64 0] 3))
  have hx0 := Boxed.new w 3 (.int .i64 0)
  clear hd
  obtain ⟨p, c, rfl⟩ := hv.shape
  clear hv
  go_enter Tryz.func37, Tryz.ntmps37
  go_wp2_with fail
  refine HR.out.mono ?_
  rintro e w2 ⟨rfl, hB2⟩
  have hx2 := (KC.below (S := fun _ => False) hB2).boxed (fun h => h) hx0
  have hxc := hx2.cell
  have hxf := hx2.frozen
  have HX3 := Lib.hid (hx2.set (.int .i64 0)).cell
  have HB2 := Lib.hid (below_more HB.out hB2 HB.out.size)
  clear hB2 hx2 hx0
  go_wp2
  refine bodyPost_ret (v := .tuple #[.int .i64 0, .int .i64 2]) ?_ rfl ⟨rfl, HB2.out.setCell (p := ⟨w.heap.size, 0, none⟩) (Nat.le_refl _) _⟩
  have h := HX3.out
  simp [results, Tryz.f37, go_sem, h]

def lastT (t : List (Int × Int)) (pre : List Nat) : Int := match pre.getLast? with | some x => ((atT t (x + 1) : Nat) : Int) | none => 0
theorem lastT_snoc (t : List (Int × Int)) (pre : List Nat) (x : Nat) : lastT t (pre ++ [x]) = ((atT t (x + 1) : Nat) : Int) := by simp [lastT]
theorem lastT_spans (t : List (Int × Int)) {m : Nat} (h : 1 ≤ m) : lastT t (List.range m) = ((atT t m : Nat) : Int) := by
  obtain ⟨k, rfl⟩ : ∃ k, m = k + 1 := ⟨m - 1, by omega⟩
  rw [List.range_succ, lastT_snoc]

theorem long_ok (w : World) (n : Int) (v : Value) (t : List (Int × Int)) (hv : TableAt w v t) (hd : TableOk n t) :
    Calls Tryz.prog 37 #[.int .i64 n, v] w fun e w' => e = .returned (.tuple #[.int .i64 ((atT t t.length : Nat) : Int), .int .i64 0]) ∧ Below w.heap.size w w' := by
  have HR := Lib.hid (tright_any (w.alloc (.cells #[.int .i64 0] 3)) n v t (hv.below (balT w _)))
  rw [decide_eq_true hd] at HR
  have HB := Lib.hid (balT w (.cells #[.int .i64 0] 3))
  have hx0 := Boxed.new w 3 (.int .i64 0)
  obtain ⟨hn1, hn2, hl1, hl2, hok⟩ := hd
  obtain ⟨p, c, rfl⟩ := hv.shape
  have HV := Lib.hid hv
  have HOK := Lib.hid hok
  clear hv hok
  refine (callsIn_wide (n := 8)).1 ?_
  have h1 : 1 ≤ 8 := by omega
  have hf12 : Fence.wide.fn 27 := trivial
  have hf22 : Fence.wide.fn 40 := trivial
  refine callsIn_of_wp_marks Tryz.func37 rfl trivial ?_ rfl
  simp only [Tryz.ntmps37, List.size_toArray, List.length_cons, List.length_nil, Nat.reduceAdd, Nat.reduceSub, Array.replicate_succ, Array.replicate_zero, List.push_toArray, List.append_toArray, List.nil_append, List.cons_append]
  gi_wp2_with (gi_at_call 27; refine (callsIn_wide.2 HR.out).mono ?_; rintro e w2 ⟨rfl, hB2⟩; have hx2 := (KC.below (S := fun _ => False) hB2).boxed (fun h => h) hx0; have HX2 := Lib.hid hx2; have HB2 := Lib.hid (below_more HB.out hB2 HB.out.size); have HS2 := Lib.hid (show w.heap.size < w2.heap.size from Nat.lt_of_lt_of_le (by simp) hB2.size); clear hB2 hx2 hx0)
  gi_wp2_with (gi_at_call 40; refine (stripes_in _ _ _ _ _).mono ?_; rintro e w3 ⟨rfl, rfl⟩)
  have hbx := Boxed.new w2 36 (.slice p t.length c)
  have hB3 : Below w.heap.size w (w2.alloc (.cells #[.slice p t.length c] 36)) := HB2.out.alloc HB2.out.size _
  have hx3 := HX2.out.alloc (.cells #[.slice p t.length c] 36)
  obtain ⟨w3, hw3⟩ : ∃ x, w2.alloc (.cells #[.slice p t.length c] 36) = x := ⟨_, rfl⟩
  have hs3 : w3.heap.size = w2.heap.size + 1 := by rw [← hw3]; simp
  rw [hw3] at hbx hB3 hx3
  rw [hw3]
  have hlt2 := HS2.out
  clear hw3
  refine wpIn_rangeFunc_ownG rfl h1 (gf := 58) (lb := #[.pointer (some ⟨w2.heap.size, 0, none⟩)]) rfl trivial (enters_of Tryz.func58 (by kernel_rfl) rfl)
    (stripes_stops (8 - 1) (by omega) w2.heap.size _ t n HOK.out hn2 hl2 w w3 HV.out (hB3) (fun k => k = w.heap.size) (fun k hk e => by omega) (by omega) hbx) kc_t kc_b (Below.refl _ _) (fun _ => rfl)
    (fun pre W => Boxed W w.heap.size 3 (.int .i64 (lastT t pre)) ∧ Below w.heap.size w W)
    (fun _ _ _ => False)
    (OwnFrom.and (Own.from (boxed_own w.heap.size 3 (fun pre : List Nat => .int .i64 (lastT t pre))) _) (ownFrom_below (Nat.le_refl _) (by omega)))
    (fun _ _ _ _ _ hs _ _ => hs)
    ⟨hx3, hB3⟩
    (fun x => { tmps := #[.int .i64 n, .slice p t.length c, undef, undef, .pointer (some ⟨w.heap.size, 0, none⟩), .int .i64 0, undef, .int .i64 ((atT t (x + 1) : Nat) : Int), .int .i64 n, .slice p t.length c, .bool true, .bool false, .slice p t.length c, .func (.func 58) #[] #[.pointer (some ⟨w2.heap.size, 0, none⟩)], .int .i64 ((atT t x : Nat) : Int), .int .i64 ((atT t (x + 1) : Nat) : Int), undef, undef], defers := [] }) ?assign ?body ?done ?stop
  case assign =>
    intro l x W K hK
    gi_wp2
    exact hK
  case body =>
    rintro l pre x W ⟨hv, hB⟩ hlt
    have hc := hv.cell
    have hf := hv.frozen
    gi_wp2
    exact ⟨(KeepsOthers.setCell W ⟨w.heap.size, 0, none⟩ _).from _, KC.grown (grownBy_setCell' W w.heap.size _) (fun j e => by cases e; rfl), by rw [lastT_snoc]; exact hv.set _, hB.setCell (p := ⟨w.heap.size, 0, none⟩) (Nat.le_refl _) _⟩
  case done =>
    rintro D ys W hD rfl ⟨hv, hB⟩ hK
    rw [lastT_spans t hl1] at hv
    obtain ⟨a, ha⟩ : ∃ a, atT t t.length = a := ⟨_, rfl⟩
    rw [ha] at hv
    have HA := Lib.hid ha
    clear ha
    have hc := hv.cell
    have hf := hv.frozen
    gi_wp2
    have hK' : (W.setCell ⟨w.heap.size, 0, none⟩ (.int .i64 (a : Int))).heap[D]? = some (.deferred (some [])) := (KeepsOthers.setCell W ⟨w.heap.size, 0, none⟩ _).same D _ hK rfl
    refine ⟨by simp, .inl ⟨_, _, rfl, run_takeDeferred hK', ?_⟩⟩
    have hv2 := hv.set (.int .i64 (a : Int))
    have hc5 := cell_kept hv2.cell (grownBy_putObj' _ D (.deferred none)) (fun r e => by cases e; exact ⟨_, hK', rfl⟩)
    refine ⟨.tuple #[.int .i64 (a : Int), .int .i64 0], ?_, by rw [HA.out], ?_⟩
    · simp [results, Tryz.f37, go_sem, hc5]
    · exact (hB.setCell (p := ⟨w.heap.size, 0, none⟩) (Nat.le_refl _) _).trans (belowK_b (w := w) (Nat.le_refl _) _ D _ _ (by omega) hK' rfl rfl)
  case stop =>
    rintro D c pre W _ _ h _
    exact h.elim
end -- LayH

section -- LayF
open Go.RowKit Go.Maps
set_option linter.unusedVariables false
set_option linter.unusedSimpArgs false
set_option maxRecDepth 100000
set_option maxHeartbeats 4000000

theorem balD (w : World) (q : Nat) : Below w.heap.size w (w.drewN q) := (Kept.refl (fun _ => False) w).drewN q |>.toBelow (Nat.le_refl _) (fun _ h => h.elim)
theorem rtright_any (w : World) (n : Int) (v : Value) (t : List (Int × Int)) (hv : TableAt w v t) :
    Calls Tryz.prog 29 #[.int .i64 n, v] w fun e w' => e = .returned (.bool (decide (TableOk n t))) ∧ Below w.heap.size w w' := by
  obtain ⟨p, cap, rfl, hcap, hh⟩ := hv
  have HH := Lib.hid hh
  have HNT := Lib.hid (fun h => not_table (n := n) (t := t) h)
  have HNR := Lib.hid (fun (i : Nat) (hi : i < t.length) h => not_row (n := n) (t := t) hi h)
  obtain ⟨L, hL⟩ : ∃ L, t.length = L := ⟨_, rfl⟩
  have HL := Lib.hid hL
  rw [hL] at HH HNT HNR hcap ⊢
  clear hh hL
  go_enter Tryz.func29, Tryz.ntmps29
  by_cases hn1 : n < 1
  · go_wp2
    go_ret
    exact ⟨by rw [HNT.out (by omega)]; rfl, Below.refl _ _⟩
  by_cases hn2 : 255 < n
  · go_wp2
    go_ret
    exact ⟨by rw [HNT.out (by omega)]; rfl, Below.refl _ _⟩
  by_cases hn3 : L < 1
  · obtain rfl : L = 0 := by omega
    go_wp2
    go_ret
    exact ⟨by rw [HNT.out (by omega)]; rfl, Below.refl _ _⟩
  by_cases hn4 : 8 < L
  · go_wp2
    go_ret
    exact ⟨by rw [HNT.out (by omega)]; rfl, Below.refl _ _⟩
  go_wp2
  go_loopw [5] (fun i wr => ∃ (k q : Nat), i = .int .i64 (k : Int) ∧ k ≤ L ∧ RowsOk n t k ∧ wr = w.drewN q) (fun i _ => L - (intOf i).toNat)
  case atStart => exact ⟨0, 0, rfl, by omega, fun i hi => absurd hi (by omega), rfl⟩
  case round =>
    obtain ⟨k, q, rfl, hk, hR, rfl⟩ := hrel
    have HR := Lib.hid hR
    clear hR
    by_cases hlt : k < L
    · obtain ⟨g, off, rfl, hc⟩ := HH.out (by omega)
      obtain ⟨d0, d1⟩ := hc k hlt
      obtain ⟨kk, hkk⟩ : ∃ x, (t.getD k (0, 0)).1 = x := ⟨_, rfl⟩
      obtain ⟨ll, hll⟩ : ∃ x, (t.getD k (0, 0)).2 = x := ⟨_, rfl⟩
      obtain ⟨le, hle⟩ : ∃ x, leastT t k = x := ⟨_, rfl⟩
      have HOK := Lib.hid (show RowOk n (leastT t k) (t.getD k (0, 0)) ↔ le ≤ kk ∧ kk ≤ n ∧ 0 ≤ ll ∧ ll ≤ 65535 by unfold RowOk; rw [hkk, hll, hle])
      have HLE := Lib.hid (show 1 ≤ le ∧ (k = 0 → le = 1) from by
        subst hle
        cases k with
        | zero => exact ⟨Int.le_refl _, fun _ => rfl⟩
        | succ j => exact ⟨(HR.out.ge j (by omega)).1, fun h => absurd h (by omega)⟩)
      rw [hkk] at d0
      rw [hll] at d1
      have HD2 := Lib.hid (fun a => balD w a)
      have HD := Lib.hid (fun a => below_more (balD w q) (balD (w.drewN q) a) (Nat.le_refl _))
      go_wp2_with fail
      refine wp_region_quiet_lit (by kernel_rfl) (by kernel_rfl) ?_
      by_cases c1 : kk < 1
      · clear hc hkk hll hle
        iterate 49 (with_reducible refine wpQuiet_step (fun K hK => ?_); go_simp; first | (with_reducible refine hK _ ?_) | (rw [if_neg (by first | (simp [undef]; done) | (simp; omega))]; with_reducible refine hK _ ?_); clear hK K)
        refine wpQuiet_nil ?_
        rintro w5 ⟨nq, rfl⟩
        go_wp2
        go_ret
        exact ⟨by rw [HNR.out k hlt (fun h => by have := HOK.out.1 h; have := HLE.out.1; omega)]; rfl, by first | exact HD.out _ | exact HD2.out _⟩
      by_cases c2 : n < kk
      · clear hc hkk hll hle
        iterate 49 (with_reducible refine wpQuiet_step (fun K hK => ?_); go_simp; first | (with_reducible refine hK _ ?_) | (rw [if_neg (by first | (simp [undef]; done) | (simp; omega))]; with_reducible refine hK _ ?_); clear hK K)
        refine wpQuiet_nil ?_
        rintro w5 ⟨nq, rfl⟩
        go_wp2
        go_ret
        exact ⟨by rw [HNR.out k hlt (fun h => by have := HOK.out.1 h; have := HLE.out.1; omega)]; rfl, by first | exact HD.out _ | exact HD2.out _⟩
      by_cases c3 : ll < 0
      · clear hc hkk hll hle
        iterate 49 (with_reducible refine wpQuiet_step (fun K hK => ?_); go_simp; first | (with_reducible refine hK _ ?_) | (rw [if_neg (by first | (simp [undef]; done) | (simp; omega))]; with_reducible refine hK _ ?_); clear hK K)
        refine wpQuiet_nil ?_
        rintro w5 ⟨nq, rfl⟩
        go_wp2
        go_ret
        exact ⟨by rw [HNR.out k hlt (fun h => by have := HOK.out.1 h; have := HLE.out.1; omega)]; rfl, by first | exact HD.out _ | exact HD2.out _⟩
      by_cases c4 : 65535 < ll
      · clear hc hkk hll hle
        iterate 49 (with_reducible refine wpQuiet_step (fun K hK => ?_); go_simp; first | (with_reducible refine hK _ ?_) | (rw [if_neg (by first | (simp [undef]; done) | (simp; omega))]; with_reducible refine hK _ ?_); clear hK K)
        refine wpQuiet_nil ?_
        rintro w5 ⟨nq, rfl⟩
        go_wp2
        go_ret
        exact ⟨by rw [HNR.out k hlt (fun h => by have := HOK.out.1 h; have := HLE.out.1; omega)]; rfl, by first | exact HD.out _ | exact HD2.out _⟩
      by_cases hk0 : k = 0
      · have hk1 : ¬ (0 : Int) < (k : Int) := by omega
        have HK0 := Lib.hid (show le ≤ 1 from by have := HLE.out.2 hk0; omega)
        clear hk0
        clear hc hkk hll hle
        iterate 49 (with_reducible refine wpQuiet_step (fun K hK => ?_); go_simp; first | (with_reducible refine hK _ ?_) | (rw [if_neg (by first | (simp [undef]; done) | (simp; omega))]; with_reducible refine hK _ ?_); clear hK K)
        refine wpQuiet_nil ?_
        rintro w5 ⟨nq, rfl⟩
        go_wp2
        go_roundw
        case rel => exact ⟨k + 1, _, by go_num, by omega, HR.out.succ (HOK.out.2 (by have := HK0.out; omega)), by first | rfl | rw [World.drewN_drewN]⟩
        case measure => simp [intOf]; omega
      · obtain ⟨j, hjk⟩ : ∃ j, k = j + 1 := ⟨k - 1, by omega⟩
        obtain ⟨d2, _⟩ := hc j (by omega)
        have e2 : (t.getD j (0, 0)).1 = le := by rw [← hle, hjk]; rfl
        rw [e2] at d2
        have hj : IntKind.i64.wrap ((k : Int) - 1) = (j : Int) := by rw [show (k : Int) - 1 = (j : Int) by omega]; exact IntWalk.i64_in _ (by omega)
        have hjl : j < L := by omega
        have hj1 : (0 : Int) < (k : Int) := by omega
        have hj0 : 0 < k := by omega
        clear hjk
        by_cases c5 : kk < le
        · clear hc hkk hll hle e2
          iterate 49 (with_reducible refine wpQuiet_step (fun K hK => ?_); go_simp; first | (with_reducible refine hK _ ?_) | (rw [if_neg]; rotate_left; (first | (simp [undef]; done) | (simp; omega)); with_reducible refine hK _ ?_) | (rw [if_pos]; rotate_left; (simp; omega); go_simp; with_reducible refine hK _ ?_); clear hK K)
          refine wpQuiet_nil ?_
          rintro w5 ⟨nq, rfl⟩
          go_wp2
          go_ret
          exact ⟨by rw [HNR.out k hlt (fun h => by have := HOK.out.1 h; omega)]; rfl, by first | exact HD.out _ | exact HD2.out _⟩
        · clear hc hkk hll hle e2
          iterate 49 (with_reducible refine wpQuiet_step (fun K hK => ?_); go_simp; first | (with_reducible refine hK _ ?_) | (rw [if_neg]; rotate_left; (first | (simp [undef]; done) | (simp; omega)); with_reducible refine hK _ ?_) | (rw [if_pos]; rotate_left; (simp; omega); go_simp; with_reducible refine hK _ ?_); clear hK K)
          refine wpQuiet_nil ?_
          rintro w5 ⟨nq, rfl⟩
          go_wp2
          go_roundw
          case rel => exact ⟨k + 1, _, by go_num, by omega, HR.out.succ (HOK.out.2 (by omega)), by first | rfl | rw [World.drewN_drewN]⟩
          case measure => simp [intOf]; omega
    · obtain rfl : k = L := by omega
      have HD := Lib.hid (show decide (TableOk n t) = true from decide_eq_true ⟨by omega, by omega, by rw [HL.out]; omega, by rw [HL.out]; omega, by rw [HL.out]; exact HR.out⟩)
      have HB := Lib.hid (balD w q)
      go_wp2
      go_ret
      exact ⟨by rw [HD.out]; rfl, HB.out⟩
end -- LayF

end Go.Proofs.YtanjchpkekehgaaGreat
