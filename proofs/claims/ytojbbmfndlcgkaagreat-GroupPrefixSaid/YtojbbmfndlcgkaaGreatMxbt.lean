/-
  Layer 10, walks: Gather.
-/
import Derived.Test.YtojbbmfndlcgkaaGreatMxbr
import Derived.Test.YtojbbmfndlcgkaaGreatMxbk
import Derived.Test.YtojbbmfndlcgkaaGreatMxbn
import Derived.Test.YtojbbmfndlcgkaaGreatMxbs
namespace Go.Proofs.YtojbbmfndlcgkaaGreat
open Go.RowKit Go.Maps Go.Shelf

attribute [local go_sem] Oper.semAt_some
set_option linter.unusedVariables false
set_option linter.unusedSimpArgs false
set_option maxRecDepth 100000
set_option maxHeartbeats 4000000

theorem infoHd : (Tryz.prog.info? 66).map (fun i => (i.zero, i.size, i.bytes)) = some (some (.agg #[.int .i64 0, .slice none 0 0]), 2, 32) := by kernel_rfl
theorem run_make_held {w : World} (n : Nat) (hn : n ≤ 1000000000000) :
    ∃ C : Array Value, C.size = n * 2 ∧ (Instr.makeSlice 61 (.int .i64 (n : Int)) (.int .i64 (n : Int))).run Tryz.prog w = .ok (.slice (some ⟨w.heap.size, 0, none⟩) n n) (w.alloc (.cells C 66)) := by
  obtain ⟨i, hi, hz', hsize, hbytes⟩ := info_parts infoHd
  have hr := run_make (P := Tryz.prog) w 61 66 i _ Tryz.underlying61 hi hz' .i64 .i64 n n (by omega) (Int.le_refl _) (by rw [hbytes]; omega) (by omega)
  simp only [Int.toNat_natCast] at hr
  exact ⟨_, by rw [size_madeCells, hsize], hr⟩
/-- The variables that Gather boxes. -/
structure GBox (W : World) (b : Nat) (n : Int) (vt vh v : Value) : Prop where
  x0 : Boxed W b 3 (.int .i64 n)
  x1 : Boxed W (b + 1) 29 vt
  x2 : Boxed W (b + 2) 61 vh
  x3 : Boxed W (b + 3) 22 v
theorem GBox.made (w : World) (n : Int) (pt ph : Option Addr) (nt ct nh ch : Nat) : GBox ((((w.alloc (.cells #[.int .i64 n] 3)).alloc (.cells #[.slice pt nt ct] 29)).alloc (.cells #[.slice ph nh ch] 61)).alloc (.cells #[.slice none 0 0] 22)) w.heap.size n (.slice pt nt ct) (.slice ph nh ch) (.slice none 0 0) := by
  have y1 := Boxed.new (w.alloc (.cells #[.int .i64 n] 3)) 29 (.slice pt nt ct)
  have y2 := Boxed.new ((w.alloc (.cells #[.int .i64 n] 3)).alloc (.cells #[.slice pt nt ct] 29)) 61 (.slice ph nh ch)
  have y3 := Boxed.new (((w.alloc (.cells #[.int .i64 n] 3)).alloc (.cells #[.slice pt nt ct] 29)).alloc (.cells #[.slice ph nh ch] 61)) 22 (.slice none 0 0)
  simp only [World.size_alloc] at y1 y2 y3
  exact ⟨(((Boxed.new w 3 (.int .i64 n)).alloc _).alloc _).alloc _, (y1.alloc _).alloc _, y2.alloc _, y3⟩
theorem GBox.below {W W' : World} {b : Nat} {n : Int} {vt vh v : Value} (h : GBox W b n vt vh v) (hb : Below W.heap.size W W') : GBox W' b n vt vh v :=
  have k : KC (fun _ => False) W W' := KC.below hb
  ⟨k.boxed (fun h => h) h.x0, k.boxed (fun h => h) h.x1, k.boxed (fun h => h) h.x2, k.boxed (fun h => h) h.x3⟩

theorem gather_bad (w : World) (n : Int) (vt vh : Value) (t : List (Int × Int)) (hs : List (Int × List B)) (hv : TableAt w vt t) (hh : HeldAt w vh hs) (hd : ¬ TableOk n t) :
    Calls Tryz.prog 28 #[.int .i64 n, vt, vh] w fun e w' => e = .returned (.tuple #[.slice none 0 0, .int .i64 2]) ∧ Below w.heap.size w w' := by
  obtain ⟨pt, ct, rfl⟩ := hv.shape
  obtain ⟨ph, ch, rfl, _⟩ := hh
  have hG := GBox.made w n pt ph t.length ct hs.length ch
  have hB : Below w.heap.size w ((((w.alloc (.cells #[.int .i64 n] 3)).alloc (.cells #[.slice pt t.length ct] 29)).alloc (.cells #[.slice ph hs.length ch] 61)).alloc (.cells #[.slice none 0 0] 22)) := ((((Below.refl _ w).alloc (Nat.le_refl _) _).alloc (by simp) _).alloc (by simp; omega) _).alloc (by simp; omega) _
  have HR := Lib.hid (long_bad _ n _ t (hv.below hB) hd)
  have HG := Lib.hid hG
  have HB := Lib.hid hB
  have e0 := hG.x0.cell
  have e1 := hG.x1.cell
  clear hv hd hG hB
  go_enter Tryz.func28, Tryz.ntmps28
  go_wp2_with fail
  refine HR.out.mono ?_
  rintro e w2 ⟨rfl, hB2⟩
  have hG2 := HG.out.below hB2
  have c6 := hG2.x3.cell
  have f6 := hG2.x3.frozen
  have HX := Lib.hid (hG2.x3.set (.slice none 0 0)).cell
  have HB2 := Lib.hid (below_more HB.out hB2 HB.out.size)
  clear hB2 hG2 e0 e1
  go_wp2
  refine bodyPost_ret (v := .tuple #[.slice none 0 0, .int .i64 2]) ?_ rfl ⟨rfl, HB2.out.setCell (p := ⟨w.heap.size + 3, 0, none⟩) (by show w.heap.size ≤ w.heap.size + 3; omega) _⟩
  have h := HX.out
  simp [results, Tryz.f28, go_sem, h]

theorem gather_err (w : World) (N : Nat) (vt vh : Value) (t : List (Int × Int)) (hs : List (Int × List B)) (hv : TableAt w vt t) (hh : HeldAt w vh hs) (hl : hs.length ≤ 1000000) (hd : TableOk N t) (he : heldE N (atT t t.length) hs ≠ 0) :
    Calls Tryz.prog 28 #[.int .i64 (N : Int), vt, vh] w fun e w' => e = .returned (.tuple #[.slice none 0 0, .int .i64 (heldE N (atT t t.length) hs)]) ∧ Below w.heap.size w w' := by
  obtain ⟨pt, ct, rfl⟩ := hv.shape
  have HH := Lib.hid hh
  obtain ⟨ph, ch, rfl, hch, hhc⟩ := hh
  have HHC := Lib.hid hhc
  have hG := GBox.made w (N : Int) pt ph t.length ct hs.length ch
  have hB : Below w.heap.size w ((((w.alloc (.cells #[.int .i64 (N : Int)] 3)).alloc (.cells #[.slice pt t.length ct] 29)).alloc (.cells #[.slice ph hs.length ch] 61)).alloc (.cells #[.slice none 0 0] 22)) := ((((Below.refl _ w).alloc (Nat.le_refl _) _).alloc (by simp) _).alloc (by simp; omega) _).alloc (by simp; omega) _
  have hsz : ((((w.alloc (.cells #[.int .i64 (N : Int)] 3)).alloc (.cells #[.slice pt t.length ct] 29)).alloc (.cells #[.slice ph hs.length ch] 61)).alloc (.cells #[.slice none 0 0] 22)).heap.size = w.heap.size + 4 := by simp
  have hlow := atT_low hd.2.2.2.2 (i := t.length) (Nat.le_refl _)
  have hl8 := hd.2.2.2.1
  have hn255 : N ≤ 255 := by have := hd.2.1; omega
  have HR := Lib.hid (long_ok _ (N : Int) _ t (hv.below hB) hd)
  have HV := Lib.hid hv
  have HD := Lib.hid hd
  have HG := Lib.hid hG
  have HB := Lib.hid hB
  have e0 := hG.x0.cell
  have e1 := hG.x1.cell
  obtain ⟨T, hT⟩ : ∃ x, atT t t.length = x := ⟨_, rfl⟩
  have HT := Lib.hid hT
  rw [hT] at HR he hlow ⊢
  obtain ⟨er, her⟩ : ∃ x, heldE N T hs = x := ⟨_, rfl⟩
  have HER := Lib.hid her
  rw [her] at he ⊢
  clear hv hd hG hB hT her hhc
  go_enter Tryz.func28, Tryz.ntmps28
  go_wp2_with fail
  refine HR.out.mono ?_
  rintro e w2 ⟨rfl, hB2⟩
  have hG2 := HG.out.below hB2
  have HA := Lib.hid (basked_any w2 N T _ hs (HH.out.below (below_more HB.out hB2 HB.out.size)) hn255 hl (by omega))
  rw [HER.out] at HA
  have c0 := hG2.x0.cell
  have c2 := hG2.x2.cell
  have HG2 := Lib.hid hG2
  have HB2 := Lib.hid (below_more HB.out hB2 HB.out.size)
  clear hB2 hG2 e0 e1
  go_wp2_with fail
  refine HA.out.mono ?_
  rintro e w3 ⟨rfl, hB3⟩
  have hG3 := HG2.out.below hB3
  have c6 := hG3.x3.cell
  have f6 := hG3.x3.frozen
  have HX := Lib.hid (hG3.x3.set (.slice none 0 0)).cell
  have HB3 := Lib.hid (below_more HB2.out hB3 HB2.out.size)
  have hne : ¬ er = 0 := he
  clear hB3 hG3 c0 c2
  go_wp2
  refine bodyPost_ret (v := .tuple #[.slice none 0 0, .int .i64 er]) ?_ rfl ⟨rfl, HB3.out.setCell (p := ⟨w.heap.size + 3, 0, none⟩) (by show w.heap.size ≤ w.heap.size + 3; omega) _⟩
  have h := HX.out
  simp [results, Tryz.f28, go_sem, h]

theorem gather_ok (w : World) (N : Nat) (vt vh : Value) (t : List (Int × Int)) (hs : List (Int × List B)) (hv : TableAt w vt t) (hh : HeldAt w vh hs) (hl : hs.length ≤ 1000000) (hcap : ∀ g o c, vh = .slice (some ⟨g, o, none⟩) hs.length c → ∀ i, i < hs.length → ∀ p n c', w.cell? ⟨g, o + i * 2 + 1, none⟩ = some (.slice p n c') → n ≤ c') (hd : TableOk N t) (he : heldE N (atT t t.length) hs = 0) :
    Calls Tryz.prog 28 #[.int .i64 (N : Int), vt, vh] w fun e w' => ∃ v, e = .returned (.tuple #[v, .int .i64 0]) ∧ RowsCut w' w.heap.size v (layersL t hs (readyT t (hs.length : Int))) ∧ Below w.heap.size w w' := by
  obtain ⟨pt, ct, rfl⟩ := hv.shape
  have HH := Lib.hid hh
  have HCAP := Lib.hid hcap
  clear hcap
  obtain ⟨ph, ch, rfl, hch, hhc⟩ := hh
  have HHC := Lib.hid hhc
  have hG := GBox.made w (N : Int) pt ph t.length ct hs.length ch
  have hB : Below w.heap.size w ((((w.alloc (.cells #[.int .i64 (N : Int)] 3)).alloc (.cells #[.slice pt t.length ct] 29)).alloc (.cells #[.slice ph hs.length ch] 61)).alloc (.cells #[.slice none 0 0] 22)) := ((((Below.refl _ w).alloc (Nat.le_refl _) _).alloc (by simp) _).alloc (by simp; omega) _).alloc (by simp; omega) _
  have hsz : ((((w.alloc (.cells #[.int .i64 (N : Int)] 3)).alloc (.cells #[.slice pt t.length ct] 29)).alloc (.cells #[.slice ph hs.length ch] 61)).alloc (.cells #[.slice none 0 0] 22)).heap.size = w.heap.size + 4 := by simp
  have hlow := atT_low hd.2.2.2.2 (i := t.length) (Nat.le_refl _)
  have hl8 := hd.2.2.2.1
  have hn255 : N ≤ 255 := by have := hd.2.1; omega
  have HR := Lib.hid (long_ok _ (N : Int) _ t (hv.below hB) hd)
  have HV := Lib.hid hv
  have HD := Lib.hid hd
  have HG := Lib.hid hG
  have HB := Lib.hid hB
  have HOKH := Lib.hid (heldE_zero he)
  have e0 := hG.x0.cell
  have e1 := hG.x1.cell
  obtain ⟨T, hT⟩ : ∃ x, atT t t.length = x := ⟨_, rfl⟩
  have HT := Lib.hid hT
  rw [hT] at HR he hlow HOKH
  have HE := Lib.hid he
  have hrl := readyT_le t (hs.length : Int)
  have hrv : readyV N t (hs.length : Int) = ((readyT t (hs.length : Int) : Nat) : Int) := by unfold readyV; rw [if_pos hd]
  have hte : tabE N t = 0 := by unfold tabE; rw [if_pos hd]
  have HRL := Lib.hid (fun (i : Nat) (hi : i < readyT t (hs.length : Int)) => readyT_lt hi)
  have hct : t.length ≤ ct := by
    obtain ⟨_, c, e, h, _⟩ := hv
    have := (Value.slice.inj e).2.2
    omega
  obtain ⟨R, hR⟩ : ∃ R, readyT t (hs.length : Int) = R := ⟨_, rfl⟩
  rw [hR] at hrl hrv HRL ⊢
  clear hR hv
  clear hd hG hB hT hhc he
  refine (callsIn_wide (n := 8)).1 ?_
  have h1 : 1 ≤ 8 := by omega
  have hf8 : Fence.wide.fn 20 := trivial
  have hf27 : Fence.wide.fn 40 := trivial
  have hf10 : Fence.wide.fn 25 := trivial
  have hf22 : Fence.wide.fn 33 := trivial
  refine callsIn_of_wp_marks Tryz.func28 rfl trivial ?_ rfl
  simp only [Tryz.ntmps28, List.size_toArray, List.length_cons, List.length_nil, Nat.reduceAdd, Nat.reduceSub, Array.replicate_succ, Array.replicate_zero, List.push_toArray, List.append_toArray, List.nil_append, List.cons_append]
  gi_wp2_with (gi_at_call 20; refine (callsIn_wide.2 HR.out).mono ?_; rintro e w2 ⟨rfl, hB2⟩; have hG2 := HG.out.below hB2; have HA := Lib.hid (basked_any w2 N T _ hs (HH.out.below (below_more HB.out hB2 HB.out.size)) hn255 hl (by omega)); rw [HE.out] at HA; have c0 := hG2.x0.cell; have c1 := hG2.x1.cell; have c2 := hG2.x2.cell; have HG2 := Lib.hid hG2; have HB2 := Lib.hid (below_more HB.out hB2 HB.out.size); have HS2 := Lib.hid hB2.size; clear hB2 hG2 e0 e1)
  gi_wp2_with (gi_at_call 40; refine (callsIn_wide.2 HA.out).mono ?_; rintro e w3 ⟨rfl, hB3⟩; have hG3 := HG2.out.below hB3; have d0 := hG3.x0.cell; have d1 := hG3.x1.cell; have d2 := hG3.x2.cell; have HG3 := Lib.hid hG3; have HB3 := Lib.hid (below_more HB2.out hB3 HB2.out.size); have HS3 := Lib.hid hB3.size; have HRD := Lib.hid (ready_any w3 (N : Int) (hs.length : Int) _ t (HV.out.below (below_more HB2.out hB3 HB2.out.size))); rw [hrv, hte] at HRD; clear hB3 hG3 c0 c1 c2)
  gi_wp2_with (gi_at_call 25; refine (callsIn_wide.2 HRD.out).mono ?_; rintro e w4 ⟨rfl, hB4⟩; have hG4 := HG3.out.below hB4; have d0 := hG4.x0.cell; have d1 := hG4.x1.cell; have d2 := hG4.x2.cell; have HG4 := Lib.hid hG4; have HB4 := Lib.hid (below_more HB3.out hB4 HB3.out.size); have HS4 := Lib.hid hB4.size; clear hB4 hG4)
  gi_wp2_with (gi_at_call 33; refine (stripes_in _ _ _ _ _).mono ?_; rintro e w5 ⟨rfl, rfl⟩)
  have HG5 := Lib.hid (HG4.out.below (balT w4 (.cells #[.slice pt R ct] 29)))
  have hbx := Boxed.new w4 29 (.slice pt R ct)
  have hB5 : Below w.heap.size w (w4.alloc (.cells #[.slice pt R ct] 29)) := HB4.out.alloc HB4.out.size _
  have hs4 : w.heap.size + 4 ≤ w4.heap.size := by
    have q2 := HS2.out
    have q3 := HS3.out
    have q4 := HS4.out
    rw [hsz] at q2
    omega
  obtain ⟨w5, hw5⟩ : ∃ x, w4.alloc (.cells #[.slice pt R ct] 29) = x := ⟨_, rfl⟩
  have hs5 : w5.heap.size = w4.heap.size + 1 := by rw [← hw5]; simp
  rw [hw5] at hbx hB5 HG5
  rw [hw5]
  obtain ⟨b4, hb4⟩ : ∃ x, w4.heap.size = x := ⟨_, rfl⟩
  rw [hb4] at hbx hs4 hs5
  rw [hb4]
  clear hw5 d0 d1 d2
  have hlen : (t.take R).length = R := by rw [List.length_take]; omega
  have HOKT := Lib.hid (show RowsOk N (t.take R) (t.take R).length from HD.out.2.2.2.2.take hrl)
  have HVT := Lib.hid (HV.out.take hrl)
  have hG5 := HG5.out
  have hx0 := hG5.x0
  have hx1 := hG5.x1
  have hx2 := hG5.x2
  have hx3 := hG5.x3
  refine wpIn_rangeFunc_ownG rfl h1 (gf := 49) (lb := #[.pointer (some ⟨b4, 0, none⟩)]) rfl trivial (enters_of Tryz.func49 (by kernel_rfl) rfl)
    (stripes_stops (8 - 1) (by omega) b4 _ (t.take R) N HOKT.out (by omega) (by rw [hlen]; omega) w w5 HVT.out hB5 (fun k => k = w.heap.size + 3 ∨ w5.heap.size ≤ k) (fun k hk e => by omega) (by omega) hbx) kc_t kc_b (Below.refl _ _) (fun _ => rfl)
    (fun pre W => (∃ v, Boxed W (w.heap.size + 3) 22 v ∧ RowsCut W w5.heap.size v (laysG t (t.take R) hs pre)) ∧ (W.heap[w.heap.size]? = some (.cells #[.int .i64 (N : Int)] 3 (0, 0)) ∧ (W.heap[w.heap.size + 1]? = some (.cells #[.slice pt t.length ct] 29 (0, 0)) ∧ (W.heap[w.heap.size + 2]? = some (.cells #[.slice ph hs.length ch] 61 (0, 0)) ∧ (w5.heap.size ≤ W.heap.size ∧ Below w.heap.size w W)))))
    (fun _ _ _ => False)
    (OwnFrom.and (Own.from (rowsCut_own w5.heap.size (w.heap.size + 3) 22 (fun pre : List Nat => laysG t (t.take R) hs pre)) _) (OwnFrom.and (Own.from (heap_own _ _ _ _) _) (OwnFrom.and (Own.from (heap_own _ _ _ _) _) (OwnFrom.and (Own.from (heap_own _ _ _ _) _) (OwnFrom.and (ownFrom_size _ _) (ownFrom_below (Nat.le_refl _) (by omega)))))))
    (fun _ _ _ _ _ hs _ _ => hs)
    ⟨⟨_, hx3, RowsCut.nil _ _⟩, hx0, hx1, hx2, Nat.le_refl _, hB5⟩
    (fun x => { tmps := #[.int .i64 (N : Int), .slice pt t.length ct, .slice ph hs.length ch, .pointer (some ⟨w.heap.size, 0, none⟩), .pointer (some ⟨w.heap.size + 1, 0, none⟩), .pointer (some ⟨w.heap.size + 1 + 1, 0, none⟩), .pointer (some ⟨w.heap.size + 1 + 1 + 1, 0, none⟩), .int .i64 0, .int .i64 (T : Int), .int .i64 (R : Int), .int .i64 0, .int .i64 ((atT (t.take R) x : Nat) : Int), .int .i64 ((atT (t.take R) (x + 1) : Nat) : Int), undef, undef, undef, .tuple #[.int .i64 (T : Int), .int .i64 0], .int .i64 (N : Int), .slice pt t.length ct, .tuple #[.int .i64 (T : Int), .int .i64 0], .int .i64 (T : Int), .int .i64 0, .int .i64 0, .bool false, undef, .int .i64 (N : Int), .int .i64 (T : Int), .slice ph hs.length ch, .int .i64 0, .int .i64 0, .bool false, undef, .tuple #[.int .i64 (R : Int), .int .i64 0], .int .i64 (N : Int), .slice pt t.length ct, .slice ph hs.length ch, .int .i64 (hs.length : Int), .tuple #[.int .i64 (R : Int), .int .i64 0], .int .i64 (R : Int), .int .i64 0, .slice pt t.length ct, .int .i64 (R : Int), .slice pt R ct, .func (.func 49) #[] #[.pointer (some ⟨b4, 0, none⟩)], .int .i64 ((atT (t.take R) x : Nat) : Int), .int .i64 ((atT (t.take R) (x + 1) : Nat) : Int), undef, undef, undef, undef, undef, undef, undef, undef, undef, undef, undef, undef, undef, undef, undef, undef, undef, undef, undef, undef, undef, undef, undef, undef, undef, undef, undef, undef, undef, undef, undef, undef, undef, undef, undef, undef, undef, undef, undef, undef], defers := [] }) ?assign ?body ?done ?stop
  case assign =>
    intro l x W K hK
    gi_wp2
    exact hK
  case body =>
    rintro l pre x W ⟨⟨v, hv, hrow⟩, h0, h1', h2, hsz5, hBW⟩ hlt
    rw [hlen] at hlt
    have hlg := laysG_len t (t.take R) hs pre
    obtain ⟨m, hm⟩ : ∃ m, pre.length = m := ⟨_, rfl⟩
    have HM := Lib.hid hm
    rw [hm] at hlt hlg
    have hrok := HD.out.2.2.2.2 m (by omega)
    have hge := (HD.out.2.2.2.2.ge m (by omega)).1
    have hkl := HRL.out m hlt
    obtain ⟨_, _, ev, _, hvh⟩ := HV.out
    obtain ⟨e1, e2, e3⟩ := Value.slice.inj ev
    subst e1
    obtain ⟨gt, ot, rfl, hvc⟩ := hvh (by omega)
    obtain ⟨q0, q1⟩ := hvc m (by omega)
    have q0 := (hBW.cell (p := ⟨gt, ot + m * 2, none⟩) (blt q0)).trans q0
    have q1 := (hBW.cell (p := ⟨gt, ot + m * 2 + 1, none⟩) (blt q1)).trans q1
    obtain ⟨_, hkN, hlo0, hlo1⟩ := hrok
    obtain ⟨k, hk⟩ : ∃ k : Nat, (t.getD m (0, 0)).1 = (k : Int) := ⟨(t.getD m (0, 0)).1.toNat, by omega⟩
    obtain ⟨long, hlong⟩ : ∃ k : Nat, (t.getD m (0, 0)).2 = (k : Int) := ⟨(t.getD m (0, 0)).2.toNat, by omega⟩
    have HKK := Lib.hid hk
    have HLO := Lib.hid hlong
    rw [hk] at q0 hkN hge hkl
    rw [hlong] at q1 hlo1
    have c0 := (show Boxed W w.heap.size 3 (.int .i64 (N : Int)) from h0).cell
    have c1 := (show Boxed W (w.heap.size + 1) 29 _ from h1').cell
    have c2 := (show Boxed W (w.heap.size + 2) 61 _ from h2).cell
    have c3 := hv.cell
    obtain ⟨pv, cv, hvs⟩ := hrow.rows.shape
    rw [hlg] at hvs
    have HVS := Lib.hid hvs
    rw [hvs] at c3
    obtain ⟨C, hC, hmk⟩ := run_make_held (w := W.alloc (.cells #[.int .i64 (k : Int), .int .i64 (long : Int)] 46)) k (by omega)
    have hmR : m < t.length := by omega
    have HI := Lib.hid (And.intro h0 (And.intro h1' h2))
    clear hlo0 ev hvh hvc e2 e3 hk hlong h0 h1' h2 hvs hm hlg
    gi_wp2
    -- BODY>
    obtain ⟨wb, hwb⟩ : ∃ x, (W.alloc (.cells #[.int .i64 (k : Int), .int .i64 (long : Int)] 46)).alloc (.cells C 66) = x := ⟨_, rfl⟩
    have hszb : wb.heap.size = W.heap.size + 2 := by rw [← hwb]; simp
    have HBX := Lib.hid (show Below W.heap.size W wb from by rw [← hwb]; exact ((Below.refl _ W).alloc (Nat.le_refl _) _).alloc (by simp) _)
    have HCB := Lib.hid (show wb.heap[W.heap.size + 1]? = some (.cells C 66 (0, 0)) from by
      have h := heap_alloc_new (W.alloc (.cells #[.int .i64 (k : Int), .int .i64 (long : Int)] 46)) (.cells C 66)
      rw [World.size_alloc, hwb] at h
      exact h)
    have HRB := Lib.hid (show wb.heap[W.heap.size]? = some (.cells #[.int .i64 (k : Int), .int .i64 (long : Int)] 46 (0, 0)) from by
      rw [← hwb]
      exact (Below.heap_alloc _ _ _ (by simp)).trans (heap_alloc_new W _))
    rw [hwb]
    clear hwb hmk q0 q1
    have hac : atT (t.take R) x ≤ atT (t.take R) (x + 1) := atT_over _ (Nat.le_succ x)
    have hcT : atT (t.take R) (x + 1) ≤ T := by
      have h1 := atT_top (t.take R) (x + 1)
      rw [hlen, atT_take (Nat.le_refl _)] at h1
      have h2 := atT_over t (i := R) (j := t.length) hrl
      rw [HT.out] at h2
      omega
    have HLG := Lib.hid (show layG t (t.take R) hs m x = layD k long (spW (t.take R) x) (partH hs k (atT (t.take R) x) (spW (t.take R) x)) from by unfold layG; simp only [HKK.out, HLO.out, Int.toNat_natCast])
    have HSP := Lib.hid (show spW (t.take R) x = atT (t.take R) (x + 1) - atT (t.take R) x from rfl)
    obtain ⟨aa, haa⟩ : ∃ y, atT (t.take R) x = y := ⟨_, rfl⟩
    obtain ⟨cc, hcc⟩ : ∃ y, atT (t.take R) (x + 1) = y := ⟨_, rfl⟩
    rw [haa] at hac HLG HSP
    rw [hcc] at hac hcT HSP
    rw [haa, hcc]
    clear haa hcc
    obtain ⟨gh, oh, rfl, hhc⟩ := HHC.out (by omega)
    have HHD := Lib.hid hhc
    clear hhc
    have HW2 := Lib.hid c2
    have HW0 := Lib.hid c0
    have HV3 := Lib.hid hv
    have HBW := Lib.hid hBW
    have HROW := Lib.hid hrow
    clear c0 c1 c2 c3 hrow hBW
    gi_loopw [15, 56] (fun _ i wr => ∃ (j : Nat) (C' : Array Value), j ≤ k ∧ i = .int .i64 (j : Int) ∧ wr.heap[W.heap.size + 1]? = some (.cells C' 66 (0, 0)) ∧ C'.size = k * 2 ∧ (∀ q, q < j → C'[q * 2]? = some (.int .i64 (hs.getD q (0, [])).1) ∧ ∃ u, C'[q * 2 + 1]? = some u ∧ BytesAt w u (((hs.getD q (0, [])).2.drop aa).take (cc - aa))) ∧ Kept (fun b => b = W.heap.size + 1) wb wr) (fun _ i _ => k - (intOf i).toNat)
    case atStart => exact ⟨0, C, Nat.zero_le _, rfl, HCB.out, hC, fun q h => absurd h (by omega), Kept.refl _ _⟩
    case round =>
      obtain ⟨j, C', hj, rfl, hC', hCs, hcs, hK⟩ := hrel
      have HC' := Lib.hid hC'
      have HCS := Lib.hid hCs
      have HPC := Lib.hid hcs
      have HK := Lib.hid hK
      clear hcs
      by_cases hlt2 : j < k
      · obtain ⟨x0, u, x1, xb⟩ := HHD.out j (by omega)
        obtain ⟨_, _, hul⟩ := HOKH.out.each j (by omega)
        obtain ⟨pu, cu, rfl⟩ := xb.shape
        rw [hul] at x1
        have hcu : T ≤ cu := HCAP.out gh oh ch rfl j (by omega) _ _ _ x1
        have HXB := Lib.hid xb
        have HX0 := Lib.hid x0
        have HX1 := Lib.hid x1
        have HUL := Lib.hid hul
        clear x0 x1 xb hul
        obtain ⟨ix, hix⟩ : ∃ y, (hs.getD j (0, [])).1 = y := ⟨_, rfl⟩
        rw [hix] at HX0
        have HIX := Lib.hid hix
        have hLW : ∀ (w' : World), Kept (fun b => b = W.heap.size + 1) wr w' → ∀ (p : Addr) (y : Value), W.cell? p = some y → w'.cell? p = some y := fun w' hk p y hy => by
          have hp : p.block < W.heap.size := World.block_lt_of_cell? W p hy
          have y1 := (HBX.out.cell (p := p) hp).trans hy
          have y2 := (hK.cell (p := p) (by rw [hszb]; omega) (by omega)).trans y1
          have hw : wb.heap.size ≤ wr.heap.size := hK.size
          exact (hk.cell (p := p) (by omega) (by omega)).trans y2
        have HLW := Lib.hid hLW
        have HX0 := Lib.hid ((HBW.out.cell (p := ⟨gh, oh + j * 2, none⟩) (blt HX0.out)).trans HX0.out)
        have HX1 := Lib.hid ((HBW.out.cell (p := ⟨gh, oh + j * 2 + 1, none⟩) (blt HX1.out)).trans HX1.out)
        have HKD := Lib.hid (show Kept (fun b => b = W.heap.size + 1) wr wr.drew from ⟨rfl, rfl, rfl, Nat.le_refl _, fun _ _ _ => rfl⟩)
        have hjh : j < hs.length := by omega
        clear hix hK hLW hC' hCs
        gi_wp2
        by_cases hz : aa = cc
        · subst hz
          have z1 : (aa : Int) ≤ (T : Int) := by omega
          have z2 : (aa : Int) ≤ (cu : Int) := by omega
          have HHDR := Lib.hid (show BytesAt w (.slice pu 0 0) (((hs.getD j (0, [])).2.drop aa).take (aa - aa)) from by rw [Nat.sub_self, List.take_zero]; exact ⟨pu, 0, rfl, fun h => absurd h (by simp)⟩)
          have f1 := fz_of HC'.out (j * 2)
          have e1 : wr.cell? ⟨W.heap.size + 1, j * 2, none⟩ = some (C'[j * 2]'(by rw [HCS.out]; omega)) := by rw [cell_of HC'.out]; exact Array.getElem?_eq_getElem _
          have hC6 : (wr.setCell ⟨W.heap.size + 1, j * 2, none⟩ (.int .i64 ix)).drew.heap[W.heap.size + 1]? = some (.cells (C'.setIfInBounds (j * 2) (.int .i64 ix)) 66 (0, 0)) := heap_set (i := j * 2) HC'.out (.int .i64 ix)
          have f2 := fz_of hC6 (j * 2 + 1)
          have e2 : (wr.setCell ⟨W.heap.size + 1, j * 2, none⟩ (.int .i64 ix)).drew.cell? ⟨W.heap.size + 1, j * 2 + 1, none⟩ = some (C'[j * 2 + 1]'(by rw [HCS.out]; omega)) := by
            rw [cell_of hC6, Array.getElem?_setIfInBounds_ne (by omega)]
            exact Array.getElem?_eq_getElem _
          have HC7 := Lib.hid (heap_set (i := j * 2 + 1) hC6 (.slice pu 0 0))
          have HK7 := Lib.hid (show Kept (fun b => b = W.heap.size + 1) wr ((wr.setCell ⟨W.heap.size + 1, j * 2, none⟩ (.int .i64 ix)).drew.setCell ⟨W.heap.size + 1, j * 2 + 1, none⟩ (.slice pu 0 0)) from ((Kept.set1 wr _ _ _).trans (show Kept (fun b => b = W.heap.size + 1) (wr.setCell ⟨W.heap.size + 1, j * 2, none⟩ (.int .i64 ix)) (wr.setCell ⟨W.heap.size + 1, j * 2, none⟩ (.int .i64 ix)).drew from ⟨rfl, rfl, rfl, Nat.le_refl _, fun _ _ _ => rfl⟩) (fun _ _ h => h)).trans (Kept.set1 _ _ _ _) (fun _ _ h => h))
          have HK8 := Lib.hid (HK.out.trans HK7.out (fun _ _ h => h))
          have HP7 := Lib.hid (show ∀ q, q < j + 1 → ((C'.setIfInBounds (j * 2) (.int .i64 ix)).setIfInBounds (j * 2 + 1) (.slice pu 0 0))[q * 2]? = some (.int .i64 (hs.getD q (0, [])).1) ∧ ∃ u, ((C'.setIfInBounds (j * 2) (.int .i64 ix)).setIfInBounds (j * 2 + 1) (.slice pu 0 0))[q * 2 + 1]? = some u ∧ BytesAt w u (((hs.getD q (0, [])).2.drop aa).take (aa - aa)) from fun q hq => by
            by_cases e : q = j
            · subst e
              rw [Array.getElem?_setIfInBounds_ne (by omega), Array.getElem?_setIfInBounds_self_of_lt (by rw [HCS.out]; omega), HIX.out, Array.getElem?_setIfInBounds_self_of_lt (by simp [HCS.out]; omega)]
              exact ⟨rfl, _, rfl, HHDR.out⟩
            · rw [Array.getElem?_setIfInBounds_ne (by omega), Array.getElem?_setIfInBounds_ne (by omega), Array.getElem?_setIfInBounds_ne (by omega), Array.getElem?_setIfInBounds_ne (by omega)]
              exact HPC.out q (by omega))
          clear hC6
          refine sr_start 19 (fun w' => Kept (fun b => b = W.heap.size + 1) wr w') (by as_aux_lemma => kernel_rfl) (by as_aux_lemma => kernel_rfl) (by as_aux_lemma => kernel_rfl) HKD.out ?_
          refine s_take 0 (by as_aux_lemma => kernel_rfl) (by as_aux_lemma => kernel_rfl) (by as_aux_lemma => kernel_rfl) (by as_aux_lemma => kernel_rfl) HKD.out (fun oi ho => ?_)
          simp only [List.getElem?_toArray, List.getElem?_cons_succ, List.getElem?_cons_zero, Option.some.injEq] at ho
          subst ho
          refine ⟨?_, Or.inl ⟨by rfl, fun w _ => ?_⟩, ?_⟩
          rotate_left
          · (go_simp <;> with_reducible rfl)
          try simp only [Act.put, List.setIfInBounds_toArray, List.set_cons_zero, List.set_cons_succ]
          refine s_take 1 (by as_aux_lemma => kernel_rfl) (by as_aux_lemma => kernel_rfl) (by as_aux_lemma => kernel_rfl) (by as_aux_lemma => kernel_rfl) HKD.out (fun oi ho => ?_)
          simp only [List.getElem?_toArray, List.getElem?_cons_succ, List.getElem?_cons_zero, Option.some.injEq] at ho
          subst ho
          refine ⟨?_, Or.inl ⟨by rfl, fun w _ => ?_⟩, ?_⟩
          rotate_left
          · (go_simp <;> with_reducible rfl)
          try simp only [Act.put, List.setIfInBounds_toArray, List.set_cons_zero, List.set_cons_succ]
          refine s_take 2 (by as_aux_lemma => kernel_rfl) (by as_aux_lemma => kernel_rfl) (by as_aux_lemma => kernel_rfl) (by as_aux_lemma => kernel_rfl) HKD.out (fun oi ho => ?_)
          simp only [List.getElem?_toArray, List.getElem?_cons_succ, List.getElem?_cons_zero, Option.some.injEq] at ho
          subst ho
          refine ⟨.slice (some ⟨gh, oh, none⟩) hs.length ch, Or.inl ⟨by rfl, fun w' hS' => ?_⟩, ?_⟩
          · have q := HLW.out w' hS' ⟨w.heap.size + 2, 0, none⟩ _ HW2.out
            (go_simp <;> with_reducible rfl)
          try simp only [Act.put, List.setIfInBounds_toArray, List.set_cons_zero, List.set_cons_succ]
          refine s_take 3 (by as_aux_lemma => kernel_rfl) (by as_aux_lemma => kernel_rfl) (by as_aux_lemma => kernel_rfl) (by as_aux_lemma => kernel_rfl) HKD.out (fun oi ho => ?_)
          simp only [List.getElem?_toArray, List.getElem?_cons_succ, List.getElem?_cons_zero, Option.some.injEq] at ho
          subst ho
          refine ⟨?_, Or.inl ⟨by rfl, fun w _ => ?_⟩, ?_⟩
          rotate_left
          · (go_simp <;> with_reducible rfl)
          try simp only [Act.put, List.setIfInBounds_toArray, List.set_cons_zero, List.set_cons_succ]
          refine s_take 4 (by as_aux_lemma => kernel_rfl) (by as_aux_lemma => kernel_rfl) (by as_aux_lemma => kernel_rfl) (by as_aux_lemma => kernel_rfl) HKD.out (fun oi ho => ?_)
          simp only [List.getElem?_toArray, List.getElem?_cons_succ, List.getElem?_cons_zero, Option.some.injEq] at ho
          subst ho
          refine ⟨?_, Or.inl ⟨by rfl, fun w _ => ?_⟩, ?_⟩
          rotate_left
          · (go_simp <;> with_reducible rfl)
          try simp only [Act.put, List.setIfInBounds_toArray, List.set_cons_zero, List.set_cons_succ]
          refine s_take 5 (by as_aux_lemma => kernel_rfl) (by as_aux_lemma => kernel_rfl) (by as_aux_lemma => kernel_rfl) (by as_aux_lemma => kernel_rfl) HKD.out (fun oi ho => ?_)
          simp only [List.getElem?_toArray, List.getElem?_cons_succ, List.getElem?_cons_zero, Option.some.injEq] at ho
          subst ho
          refine ⟨?_, Or.inl ⟨by rfl, fun w _ => ?_⟩, ?_⟩
          rotate_left
          · (go_simp <;> with_reducible rfl)
          try simp only [Act.put, List.setIfInBounds_toArray, List.set_cons_zero, List.set_cons_succ]
          refine s_take 6 (by as_aux_lemma => kernel_rfl) (by as_aux_lemma => kernel_rfl) (by as_aux_lemma => kernel_rfl) (by as_aux_lemma => kernel_rfl) HKD.out (fun oi ho => ?_)
          simp only [List.getElem?_toArray, List.getElem?_cons_succ, List.getElem?_cons_zero, Option.some.injEq] at ho
          subst ho
          refine ⟨.int .i64 ix, Or.inl ⟨by rfl, fun w' hS' => ?_⟩, ?_⟩
          · have q := HLW.out w' hS' ⟨gh, oh + j * 2, none⟩ _ HX0.out
            (go_simp <;> with_reducible rfl)
          try simp only [Act.put, List.setIfInBounds_toArray, List.set_cons_zero, List.set_cons_succ]
          refine s_take 7 (by as_aux_lemma => kernel_rfl) (by as_aux_lemma => kernel_rfl) (by as_aux_lemma => kernel_rfl) (by as_aux_lemma => kernel_rfl) HKD.out (fun oi ho => ?_)
          simp only [List.getElem?_toArray, List.getElem?_cons_succ, List.getElem?_cons_zero, Option.some.injEq] at ho
          subst ho
          refine ⟨.slice (some ⟨gh, oh, none⟩) hs.length ch, Or.inl ⟨by rfl, fun w' hS' => ?_⟩, ?_⟩
          · have q := HLW.out w' hS' ⟨w.heap.size + 2, 0, none⟩ _ HW2.out
            (go_simp <;> with_reducible rfl)
          try simp only [Act.put, List.setIfInBounds_toArray, List.set_cons_zero, List.set_cons_succ]
          refine s_take 8 (by as_aux_lemma => kernel_rfl) (by as_aux_lemma => kernel_rfl) (by as_aux_lemma => kernel_rfl) (by as_aux_lemma => kernel_rfl) HKD.out (fun oi ho => ?_)
          simp only [List.getElem?_toArray, List.getElem?_cons_succ, List.getElem?_cons_zero, Option.some.injEq] at ho
          subst ho
          refine ⟨?_, Or.inl ⟨by rfl, fun w _ => ?_⟩, ?_⟩
          rotate_left
          · (go_simp <;> with_reducible rfl)
          try simp only [Act.put, List.setIfInBounds_toArray, List.set_cons_zero, List.set_cons_succ]
          refine s_take 9 (by as_aux_lemma => kernel_rfl) (by as_aux_lemma => kernel_rfl) (by as_aux_lemma => kernel_rfl) (by as_aux_lemma => kernel_rfl) HKD.out (fun oi ho => ?_)
          simp only [List.getElem?_toArray, List.getElem?_cons_succ, List.getElem?_cons_zero, Option.some.injEq] at ho
          subst ho
          refine ⟨?_, Or.inl ⟨by rfl, fun w _ => ?_⟩, ?_⟩
          rotate_left
          · (go_simp <;> with_reducible rfl)
          try simp only [Act.put, List.setIfInBounds_toArray, List.set_cons_zero, List.set_cons_succ]
          refine s_take 10 (by as_aux_lemma => kernel_rfl) (by as_aux_lemma => kernel_rfl) (by as_aux_lemma => kernel_rfl) (by as_aux_lemma => kernel_rfl) HKD.out (fun oi ho => ?_)
          simp only [List.getElem?_toArray, List.getElem?_cons_succ, List.getElem?_cons_zero, Option.some.injEq] at ho
          subst ho
          refine ⟨?_, Or.inl ⟨by rfl, fun w _ => ?_⟩, ?_⟩
          rotate_left
          · (go_simp <;> with_reducible rfl)
          try simp only [Act.put, List.setIfInBounds_toArray, List.set_cons_zero, List.set_cons_succ]
          refine s_take 11 (by as_aux_lemma => kernel_rfl) (by as_aux_lemma => kernel_rfl) (by as_aux_lemma => kernel_rfl) (by as_aux_lemma => kernel_rfl) HKD.out (fun oi ho => ?_)
          simp only [List.getElem?_toArray, List.getElem?_cons_succ, List.getElem?_cons_zero, Option.some.injEq] at ho
          subst ho
          refine ⟨.slice pu T cu, Or.inl ⟨by rfl, fun w' hS' => ?_⟩, ?_⟩
          · have q := HLW.out w' hS' ⟨gh, oh + j * 2 + 1, none⟩ _ HX1.out
            (go_simp <;> with_reducible rfl)
          try simp only [Act.put, List.setIfInBounds_toArray, List.set_cons_zero, List.set_cons_succ]
          refine s_take 12 (by as_aux_lemma => kernel_rfl) (by as_aux_lemma => kernel_rfl) (by as_aux_lemma => kernel_rfl) (by as_aux_lemma => kernel_rfl) HKD.out (fun oi ho => ?_)
          simp only [List.getElem?_toArray, List.getElem?_cons_succ, List.getElem?_cons_zero, Option.some.injEq] at ho
          subst ho
          refine ⟨?_, Or.inl ⟨by rfl, fun w _ => ?_⟩, ?_⟩
          rotate_left
          · (go_simp <;> with_reducible rfl)
          try simp only [Act.put, List.setIfInBounds_toArray, List.set_cons_zero, List.set_cons_succ]
          refine s_take 13 (by as_aux_lemma => kernel_rfl) (by as_aux_lemma => kernel_rfl) (by as_aux_lemma => kernel_rfl) (by as_aux_lemma => kernel_rfl) HKD.out (fun oi ho => ?_)
          simp only [List.getElem?_toArray, List.getElem?_cons_succ, List.getElem?_cons_zero, Option.some.injEq] at ho
          subst ho
          refine ⟨?_, Or.inl ⟨by rfl, fun w _ => ?_⟩, ?_⟩
          rotate_left
          · (go_simp <;> with_reducible rfl)
          try simp only [Act.put, List.setIfInBounds_toArray, List.set_cons_zero, List.set_cons_succ]
          refine s_take 14 (by as_aux_lemma => kernel_rfl) (by as_aux_lemma => kernel_rfl) (by as_aux_lemma => kernel_rfl) (by as_aux_lemma => kernel_rfl) HKD.out (fun oi ho => ?_)
          simp only [List.getElem?_toArray, List.getElem?_cons_succ, List.getElem?_cons_zero, Option.some.injEq] at ho
          subst ho
          refine ⟨?_, Or.inl ⟨by rfl, fun w _ => ?_⟩, ?_⟩
          rotate_left
          · (go_simp <;> with_reducible rfl)
          try simp only [Act.put, List.setIfInBounds_toArray, List.set_cons_zero, List.set_cons_succ]
          refine s_take 15 (by as_aux_lemma => kernel_rfl) (by as_aux_lemma => kernel_rfl) (by as_aux_lemma => kernel_rfl) (by as_aux_lemma => kernel_rfl) HKD.out (fun oi ho => ?_)
          simp only [List.getElem?_toArray, List.getElem?_cons_succ, List.getElem?_cons_zero, Option.some.injEq] at ho
          subst ho
          refine ⟨.slice pu 0 0, Or.inl ⟨by rfl, fun w' hS' => ?_⟩, ?_⟩
          · (go_simp <;> first | with_reducible rfl | (intro h; omega))
          try simp only [Act.put, List.setIfInBounds_toArray, List.set_cons_zero, List.set_cons_succ]
          refine s_take 16 (by as_aux_lemma => kernel_rfl) (by as_aux_lemma => kernel_rfl) (by as_aux_lemma => kernel_rfl) (by as_aux_lemma => kernel_rfl) HKD.out (fun oi ho => ?_)
          simp only [List.getElem?_toArray, List.getElem?_cons_succ, List.getElem?_cons_zero, Option.some.injEq] at ho
          subst ho
          refine ⟨?_, Or.inl ⟨by rfl, fun w _ => ?_⟩, ?_⟩
          rotate_left
          · (go_simp <;> with_reducible rfl)
          try simp only [Act.put, List.setIfInBounds_toArray, List.set_cons_zero, List.set_cons_succ]
          refine s_take 17 (by as_aux_lemma => kernel_rfl) (by as_aux_lemma => kernel_rfl) (by as_aux_lemma => kernel_rfl) (by as_aux_lemma => kernel_rfl) HKD.out (fun oi ho => ?_)
          simp only [List.getElem?_toArray, List.getElem?_cons_succ, List.getElem?_cons_zero, Option.some.injEq] at ho
          subst ho
          refine ⟨?_, Or.inl ⟨by rfl, fun w _ => ?_⟩, ?_⟩
          rotate_left
          · (go_simp <;> with_reducible rfl)
          try simp only [Act.put, List.setIfInBounds_toArray, List.set_cons_zero, List.set_cons_succ]
          refine s_all (rs := [18]) (by as_aux_lemma => kernel_rfl) (by simp) ?_
          refine s_step 18 (by as_aux_lemma => kernel_rfl) (fun o ho K hK => ?_) AllReadyH.nil
          simp only [List.getElem?_toArray, List.getElem?_cons_succ, List.getElem?_cons_zero, Option.some.injEq] at ho
          subst ho
          go_simp
          refine hK.out _ _ HK7.out ?_
          clear hK K
          try simp only [Act.put, List.setIfInBounds_toArray, List.set_cons_zero, List.set_cons_succ]
          refine s_done (by as_aux_lemma => kernel_rfl) ?_
          simp only [Only]
          gi_wp2
          go_roundw
          case rel => exact ⟨j + 1, _, by omega, by go_num, HC7.out, by simp [HCS.out], HP7.out, HK8.out⟩
          case measure => simp [intOf]; omega
        · have z1 : (aa : Int) ≤ (cc : Int) := by omega
          have z2 : (cc : Int) ≤ (cu : Int) := by omega
          have z3 : ¬ (cc : Int) - (aa : Int) = 0 := by omega
          have z4 : ¬ (cc : Int) = (aa : Int) := by omega
          obtain ⟨_, cu', eu, hxb⟩ := HXB.out
          have eu2 := (Value.slice.inj eu).1
          obtain ⟨gu, ou, eu3, hxc⟩ := hxb (by rw [HUL.out]; omega)
          have eu4 := eu2.trans eu3
          subst eu4
          have HHDR := Lib.hid (show BytesAt w (.slice (some ⟨gu, ou + aa, none⟩) (cc - aa) (cc - aa)) (((hs.getD j (0, [])).2.drop aa).take (cc - aa)) from by
            have hl9 : (((hs.getD j (0, [])).2.drop aa).take (cc - aa)).length = cc - aa := by rw [List.length_take, List.length_drop, HUL.out]; omega
            refine ⟨_, _, by rw [hl9], fun _ => ⟨gu, ou + aa, rfl, fun i hi => ?_⟩⟩
            rw [hl9] at hi
            have := hxc (aa + i) (by rw [HUL.out]; omega)
            rw [Nat.add_assoc, this]
            simp [List.getD_eq_getElem?_getD, List.getElem?_take, hi])
          clear hxb hxc eu eu2 eu3
          have f1 := fz_of HC'.out (j * 2)
          have e1 : wr.cell? ⟨W.heap.size + 1, j * 2, none⟩ = some (C'[j * 2]'(by rw [HCS.out]; omega)) := by rw [cell_of HC'.out]; exact Array.getElem?_eq_getElem _
          have hC6 : (wr.setCell ⟨W.heap.size + 1, j * 2, none⟩ (.int .i64 ix)).drew.heap[W.heap.size + 1]? = some (.cells (C'.setIfInBounds (j * 2) (.int .i64 ix)) 66 (0, 0)) := heap_set (i := j * 2) HC'.out (.int .i64 ix)
          have f2 := fz_of hC6 (j * 2 + 1)
          have e2 : (wr.setCell ⟨W.heap.size + 1, j * 2, none⟩ (.int .i64 ix)).drew.cell? ⟨W.heap.size + 1, j * 2 + 1, none⟩ = some (C'[j * 2 + 1]'(by rw [HCS.out]; omega)) := by
            rw [cell_of hC6, Array.getElem?_setIfInBounds_ne (by omega)]
            exact Array.getElem?_eq_getElem _
          have HC7 := Lib.hid (heap_set (i := j * 2 + 1) hC6 (.slice (some ⟨gu, ou + aa, none⟩) (cc - aa) (cc - aa)))
          have HK7 := Lib.hid (show Kept (fun b => b = W.heap.size + 1) wr ((wr.setCell ⟨W.heap.size + 1, j * 2, none⟩ (.int .i64 ix)).drew.setCell ⟨W.heap.size + 1, j * 2 + 1, none⟩ (.slice (some ⟨gu, ou + aa, none⟩) (cc - aa) (cc - aa))) from ((Kept.set1 wr _ _ _).trans (show Kept (fun b => b = W.heap.size + 1) (wr.setCell ⟨W.heap.size + 1, j * 2, none⟩ (.int .i64 ix)) (wr.setCell ⟨W.heap.size + 1, j * 2, none⟩ (.int .i64 ix)).drew from ⟨rfl, rfl, rfl, Nat.le_refl _, fun _ _ _ => rfl⟩) (fun _ _ h => h)).trans (Kept.set1 _ _ _ _) (fun _ _ h => h))
          have HK8 := Lib.hid (HK.out.trans HK7.out (fun _ _ h => h))
          have HP7 := Lib.hid (show ∀ q, q < j + 1 → ((C'.setIfInBounds (j * 2) (.int .i64 ix)).setIfInBounds (j * 2 + 1) (.slice (some ⟨gu, ou + aa, none⟩) (cc - aa) (cc - aa)))[q * 2]? = some (.int .i64 (hs.getD q (0, [])).1) ∧ ∃ u, ((C'.setIfInBounds (j * 2) (.int .i64 ix)).setIfInBounds (j * 2 + 1) (.slice (some ⟨gu, ou + aa, none⟩) (cc - aa) (cc - aa)))[q * 2 + 1]? = some u ∧ BytesAt w u (((hs.getD q (0, [])).2.drop aa).take (cc - aa)) from fun q hq => by
            by_cases e : q = j
            · subst e
              rw [Array.getElem?_setIfInBounds_ne (by omega), Array.getElem?_setIfInBounds_self_of_lt (by rw [HCS.out]; omega), HIX.out, Array.getElem?_setIfInBounds_self_of_lt (by simp [HCS.out]; omega)]
              exact ⟨rfl, _, rfl, HHDR.out⟩
            · rw [Array.getElem?_setIfInBounds_ne (by omega), Array.getElem?_setIfInBounds_ne (by omega), Array.getElem?_setIfInBounds_ne (by omega), Array.getElem?_setIfInBounds_ne (by omega)]
              exact HPC.out q (by omega))
          clear hC6
          refine sr_start 19 (fun w' => Kept (fun b => b = W.heap.size + 1) wr w') (by as_aux_lemma => kernel_rfl) (by as_aux_lemma => kernel_rfl) (by as_aux_lemma => kernel_rfl) HKD.out ?_
          refine s_take 0 (by as_aux_lemma => kernel_rfl) (by as_aux_lemma => kernel_rfl) (by as_aux_lemma => kernel_rfl) (by as_aux_lemma => kernel_rfl) HKD.out (fun oi ho => ?_)
          simp only [List.getElem?_toArray, List.getElem?_cons_succ, List.getElem?_cons_zero, Option.some.injEq] at ho
          subst ho
          refine ⟨?_, Or.inl ⟨by rfl, fun w _ => ?_⟩, ?_⟩
          rotate_left
          · (go_simp <;> with_reducible rfl)
          try simp only [Act.put, List.setIfInBounds_toArray, List.set_cons_zero, List.set_cons_succ]
          refine s_take 1 (by as_aux_lemma => kernel_rfl) (by as_aux_lemma => kernel_rfl) (by as_aux_lemma => kernel_rfl) (by as_aux_lemma => kernel_rfl) HKD.out (fun oi ho => ?_)
          simp only [List.getElem?_toArray, List.getElem?_cons_succ, List.getElem?_cons_zero, Option.some.injEq] at ho
          subst ho
          refine ⟨?_, Or.inl ⟨by rfl, fun w _ => ?_⟩, ?_⟩
          rotate_left
          · (go_simp <;> with_reducible rfl)
          try simp only [Act.put, List.setIfInBounds_toArray, List.set_cons_zero, List.set_cons_succ]
          refine s_take 2 (by as_aux_lemma => kernel_rfl) (by as_aux_lemma => kernel_rfl) (by as_aux_lemma => kernel_rfl) (by as_aux_lemma => kernel_rfl) HKD.out (fun oi ho => ?_)
          simp only [List.getElem?_toArray, List.getElem?_cons_succ, List.getElem?_cons_zero, Option.some.injEq] at ho
          subst ho
          refine ⟨.slice (some ⟨gh, oh, none⟩) hs.length ch, Or.inl ⟨by rfl, fun w' hS' => ?_⟩, ?_⟩
          · have q := HLW.out w' hS' ⟨w.heap.size + 2, 0, none⟩ _ HW2.out
            (go_simp <;> with_reducible rfl)
          try simp only [Act.put, List.setIfInBounds_toArray, List.set_cons_zero, List.set_cons_succ]
          refine s_take 3 (by as_aux_lemma => kernel_rfl) (by as_aux_lemma => kernel_rfl) (by as_aux_lemma => kernel_rfl) (by as_aux_lemma => kernel_rfl) HKD.out (fun oi ho => ?_)
          simp only [List.getElem?_toArray, List.getElem?_cons_succ, List.getElem?_cons_zero, Option.some.injEq] at ho
          subst ho
          refine ⟨?_, Or.inl ⟨by rfl, fun w _ => ?_⟩, ?_⟩
          rotate_left
          · (go_simp <;> with_reducible rfl)
          try simp only [Act.put, List.setIfInBounds_toArray, List.set_cons_zero, List.set_cons_succ]
          refine s_take 4 (by as_aux_lemma => kernel_rfl) (by as_aux_lemma => kernel_rfl) (by as_aux_lemma => kernel_rfl) (by as_aux_lemma => kernel_rfl) HKD.out (fun oi ho => ?_)
          simp only [List.getElem?_toArray, List.getElem?_cons_succ, List.getElem?_cons_zero, Option.some.injEq] at ho
          subst ho
          refine ⟨?_, Or.inl ⟨by rfl, fun w _ => ?_⟩, ?_⟩
          rotate_left
          · (go_simp <;> with_reducible rfl)
          try simp only [Act.put, List.setIfInBounds_toArray, List.set_cons_zero, List.set_cons_succ]
          refine s_take 5 (by as_aux_lemma => kernel_rfl) (by as_aux_lemma => kernel_rfl) (by as_aux_lemma => kernel_rfl) (by as_aux_lemma => kernel_rfl) HKD.out (fun oi ho => ?_)
          simp only [List.getElem?_toArray, List.getElem?_cons_succ, List.getElem?_cons_zero, Option.some.injEq] at ho
          subst ho
          refine ⟨?_, Or.inl ⟨by rfl, fun w _ => ?_⟩, ?_⟩
          rotate_left
          · (go_simp <;> with_reducible rfl)
          try simp only [Act.put, List.setIfInBounds_toArray, List.set_cons_zero, List.set_cons_succ]
          refine s_take 6 (by as_aux_lemma => kernel_rfl) (by as_aux_lemma => kernel_rfl) (by as_aux_lemma => kernel_rfl) (by as_aux_lemma => kernel_rfl) HKD.out (fun oi ho => ?_)
          simp only [List.getElem?_toArray, List.getElem?_cons_succ, List.getElem?_cons_zero, Option.some.injEq] at ho
          subst ho
          refine ⟨.int .i64 ix, Or.inl ⟨by rfl, fun w' hS' => ?_⟩, ?_⟩
          · have q := HLW.out w' hS' ⟨gh, oh + j * 2, none⟩ _ HX0.out
            (go_simp <;> with_reducible rfl)
          try simp only [Act.put, List.setIfInBounds_toArray, List.set_cons_zero, List.set_cons_succ]
          refine s_take 7 (by as_aux_lemma => kernel_rfl) (by as_aux_lemma => kernel_rfl) (by as_aux_lemma => kernel_rfl) (by as_aux_lemma => kernel_rfl) HKD.out (fun oi ho => ?_)
          simp only [List.getElem?_toArray, List.getElem?_cons_succ, List.getElem?_cons_zero, Option.some.injEq] at ho
          subst ho
          refine ⟨.slice (some ⟨gh, oh, none⟩) hs.length ch, Or.inl ⟨by rfl, fun w' hS' => ?_⟩, ?_⟩
          · have q := HLW.out w' hS' ⟨w.heap.size + 2, 0, none⟩ _ HW2.out
            (go_simp <;> with_reducible rfl)
          try simp only [Act.put, List.setIfInBounds_toArray, List.set_cons_zero, List.set_cons_succ]
          refine s_take 8 (by as_aux_lemma => kernel_rfl) (by as_aux_lemma => kernel_rfl) (by as_aux_lemma => kernel_rfl) (by as_aux_lemma => kernel_rfl) HKD.out (fun oi ho => ?_)
          simp only [List.getElem?_toArray, List.getElem?_cons_succ, List.getElem?_cons_zero, Option.some.injEq] at ho
          subst ho
          refine ⟨?_, Or.inl ⟨by rfl, fun w _ => ?_⟩, ?_⟩
          rotate_left
          · (go_simp <;> with_reducible rfl)
          try simp only [Act.put, List.setIfInBounds_toArray, List.set_cons_zero, List.set_cons_succ]
          refine s_take 9 (by as_aux_lemma => kernel_rfl) (by as_aux_lemma => kernel_rfl) (by as_aux_lemma => kernel_rfl) (by as_aux_lemma => kernel_rfl) HKD.out (fun oi ho => ?_)
          simp only [List.getElem?_toArray, List.getElem?_cons_succ, List.getElem?_cons_zero, Option.some.injEq] at ho
          subst ho
          refine ⟨?_, Or.inl ⟨by rfl, fun w _ => ?_⟩, ?_⟩
          rotate_left
          · (go_simp <;> with_reducible rfl)
          try simp only [Act.put, List.setIfInBounds_toArray, List.set_cons_zero, List.set_cons_succ]
          refine s_take 10 (by as_aux_lemma => kernel_rfl) (by as_aux_lemma => kernel_rfl) (by as_aux_lemma => kernel_rfl) (by as_aux_lemma => kernel_rfl) HKD.out (fun oi ho => ?_)
          simp only [List.getElem?_toArray, List.getElem?_cons_succ, List.getElem?_cons_zero, Option.some.injEq] at ho
          subst ho
          refine ⟨?_, Or.inl ⟨by rfl, fun w _ => ?_⟩, ?_⟩
          rotate_left
          · (go_simp <;> with_reducible rfl)
          try simp only [Act.put, List.setIfInBounds_toArray, List.set_cons_zero, List.set_cons_succ]
          refine s_take 11 (by as_aux_lemma => kernel_rfl) (by as_aux_lemma => kernel_rfl) (by as_aux_lemma => kernel_rfl) (by as_aux_lemma => kernel_rfl) HKD.out (fun oi ho => ?_)
          simp only [List.getElem?_toArray, List.getElem?_cons_succ, List.getElem?_cons_zero, Option.some.injEq] at ho
          subst ho
          refine ⟨.slice (some ⟨gu, ou, none⟩) T cu, Or.inl ⟨by rfl, fun w' hS' => ?_⟩, ?_⟩
          · have q := HLW.out w' hS' ⟨gh, oh + j * 2 + 1, none⟩ _ HX1.out
            (go_simp <;> with_reducible rfl)
          try simp only [Act.put, List.setIfInBounds_toArray, List.set_cons_zero, List.set_cons_succ]
          refine s_take 12 (by as_aux_lemma => kernel_rfl) (by as_aux_lemma => kernel_rfl) (by as_aux_lemma => kernel_rfl) (by as_aux_lemma => kernel_rfl) HKD.out (fun oi ho => ?_)
          simp only [List.getElem?_toArray, List.getElem?_cons_succ, List.getElem?_cons_zero, Option.some.injEq] at ho
          subst ho
          refine ⟨?_, Or.inl ⟨by rfl, fun w _ => ?_⟩, ?_⟩
          rotate_left
          · (go_simp <;> with_reducible rfl)
          try simp only [Act.put, List.setIfInBounds_toArray, List.set_cons_zero, List.set_cons_succ]
          refine s_take 13 (by as_aux_lemma => kernel_rfl) (by as_aux_lemma => kernel_rfl) (by as_aux_lemma => kernel_rfl) (by as_aux_lemma => kernel_rfl) HKD.out (fun oi ho => ?_)
          simp only [List.getElem?_toArray, List.getElem?_cons_succ, List.getElem?_cons_zero, Option.some.injEq] at ho
          subst ho
          refine ⟨?_, Or.inl ⟨by rfl, fun w _ => ?_⟩, ?_⟩
          rotate_left
          · (go_simp <;> with_reducible rfl)
          try simp only [Act.put, List.setIfInBounds_toArray, List.set_cons_zero, List.set_cons_succ]
          refine s_take 14 (by as_aux_lemma => kernel_rfl) (by as_aux_lemma => kernel_rfl) (by as_aux_lemma => kernel_rfl) (by as_aux_lemma => kernel_rfl) HKD.out (fun oi ho => ?_)
          simp only [List.getElem?_toArray, List.getElem?_cons_succ, List.getElem?_cons_zero, Option.some.injEq] at ho
          subst ho
          refine ⟨?_, Or.inl ⟨by rfl, fun w _ => ?_⟩, ?_⟩
          rotate_left
          · (go_simp <;> with_reducible rfl)
          try simp only [Act.put, List.setIfInBounds_toArray, List.set_cons_zero, List.set_cons_succ]
          refine s_take 15 (by as_aux_lemma => kernel_rfl) (by as_aux_lemma => kernel_rfl) (by as_aux_lemma => kernel_rfl) (by as_aux_lemma => kernel_rfl) HKD.out (fun oi ho => ?_)
          simp only [List.getElem?_toArray, List.getElem?_cons_succ, List.getElem?_cons_zero, Option.some.injEq] at ho
          subst ho
          refine ⟨.slice (some ⟨gu, ou + aa, none⟩) (cc - aa) (cc - aa), Or.inl ⟨by rfl, fun w' hS' => ?_⟩, ?_⟩
          · (go_simp <;> first | with_reducible rfl | (intro h; omega))
          try simp only [Act.put, List.setIfInBounds_toArray, List.set_cons_zero, List.set_cons_succ]
          refine s_take 16 (by as_aux_lemma => kernel_rfl) (by as_aux_lemma => kernel_rfl) (by as_aux_lemma => kernel_rfl) (by as_aux_lemma => kernel_rfl) HKD.out (fun oi ho => ?_)
          simp only [List.getElem?_toArray, List.getElem?_cons_succ, List.getElem?_cons_zero, Option.some.injEq] at ho
          subst ho
          refine ⟨?_, Or.inl ⟨by rfl, fun w _ => ?_⟩, ?_⟩
          rotate_left
          · (go_simp <;> with_reducible rfl)
          try simp only [Act.put, List.setIfInBounds_toArray, List.set_cons_zero, List.set_cons_succ]
          refine s_take 17 (by as_aux_lemma => kernel_rfl) (by as_aux_lemma => kernel_rfl) (by as_aux_lemma => kernel_rfl) (by as_aux_lemma => kernel_rfl) HKD.out (fun oi ho => ?_)
          simp only [List.getElem?_toArray, List.getElem?_cons_succ, List.getElem?_cons_zero, Option.some.injEq] at ho
          subst ho
          refine ⟨?_, Or.inl ⟨by rfl, fun w _ => ?_⟩, ?_⟩
          rotate_left
          · (go_simp <;> with_reducible rfl)
          try simp only [Act.put, List.setIfInBounds_toArray, List.set_cons_zero, List.set_cons_succ]
          refine s_all (rs := [18]) (by as_aux_lemma => kernel_rfl) (by simp) ?_
          refine s_step 18 (by as_aux_lemma => kernel_rfl) (fun o ho K hK => ?_) AllReadyH.nil
          simp only [List.getElem?_toArray, List.getElem?_cons_succ, List.getElem?_cons_zero, Option.some.injEq] at ho
          subst ho
          go_simp
          refine hK.out _ _ HK7.out ?_
          clear hK K
          try simp only [Act.put, List.setIfInBounds_toArray, List.set_cons_zero, List.set_cons_succ]
          refine s_done (by as_aux_lemma => kernel_rfl) ?_
          simp only [Only]
          gi_wp2
          go_roundw
          case rel => exact ⟨j + 1, _, by omega, by go_num, HC7.out, by simp [HCS.out], HP7.out, HK8.out⟩
          case measure => simp [intOf]; omega
      · obtain rfl : j = k := by omega
        have HBWR := Lib.hid (show Below w.heap.size w wr from (HBW.out.trans (HBX.out.mono HBW.out.size)).trans (HK.out.toBelow (by rw [hszb]; have := HBW.out.size; omega) (fun i h => by have := HBW.out.size; omega)))
        have hwr : W.heap.size + 2 ≤ wr.heap.size := by have := HK.out.size; omega
        have HHW := Lib.hid (show HeldAt wr (.slice (some ⟨W.heap.size + 1, 0, none⟩) j j) (partH hs j aa (cc - aa)) from by
          have hpl := partH_len (hs := hs) (k := j) (a := aa) (w := cc - aa) (by omega)
          refine ⟨_, j, by rw [hpl], by rw [hpl]; exact Nat.le_refl _, fun _ => ⟨W.heap.size + 1, 0, rfl, fun i hi => ?_⟩⟩
          rw [hpl] at hi
          rw [partH_get hi (by omega), Nat.zero_add]
          obtain ⟨y0, u, y1, y2⟩ := HPC.out i hi
          exact ⟨by rw [cell_of HC'.out]; exact y0, u, by rw [cell_of HC'.out]; exact y1, y2.below HBWR.out⟩)
        have HRW := Lib.hid ((HK.out.block W.heap.size (by rw [hszb]; omega) (by omega)).trans HRB.out)
        obtain ⟨us, hus1, hus2, hus3⟩ := HROW.out
        rw [laysG_len, HM.out] at hus1
        have hvs := HVS.out
        subst hvs
        have HLW := Lib.hid (fun (p : Addr) (y : Value) (hy : W.cell? p = some y) => show wr.cell? p = some y from (HK.out.cell (p := p) (by rw [hszb]; have := World.block_lt_of_cell? W p hy; omega) (by have := World.block_lt_of_cell? W p hy; omega)).trans ((HBX.out.cell (p := p) (World.block_lt_of_cell? W p hy)).trans hy))
        have c0 := HLW.out _ _ HW0.out
        have c3 := HLW.out _ _ HV3.out.cell
        have hbase := hus1.lt
        have HBASE := Lib.hid hbase
        have hb35 : w.heap.size + 3 < w5.heap.size := by omega
        have HKW := Lib.hid (show Below W.heap.size W wr from HBX.out.trans (HK.out.toBelow (by rw [hszb]; omega) (fun i h => by omega)))
        have HOW := Lib.hid (hus1)
        have HUS := Lib.hid (And.intro hus2 hus3)
        have HLK := Lib.hid (fun (w' : World) (hk : Kept (fun b => b = w.heap.size + 3 ∨ (Value.slice pv m cv).ownBlock = some b) wr w') (p : Addr) (y : Value) (hy : wr.cell? p = some y) (h1 : p.block ≠ w.heap.size + 3) (h2 : (Value.slice pv m cv).ownBlock ≠ some p.block) => show w'.cell? p = some y from (hk.cell (p := p) (World.block_lt_of_cell? wr p hy) (fun h => h.elim h1 h2)).trans hy)
        have HKD := Lib.hid (show Kept (fun b => b = w.heap.size + 3 ∨ (Value.slice pv m cv).ownBlock = some b) wr wr.drew from ⟨rfl, rfl, rfl, Nat.le_refl _, fun _ _ _ => rfl⟩)
        have HN0 := Lib.hid (show (Value.slice pv m cv).ownBlock ≠ some w.heap.size from fun e => by have := (hbase _ e).1; omega)
        have HNW := Lib.hid (show (Value.slice pv m cv).ownBlock ≠ some W.heap.size from fun e => by have := (hbase _ e).2; omega)
        have HR0 := Lib.hid (show wr.cell? ⟨W.heap.size, 0, none⟩ = some (.int .i64 (j : Int)) by rw [cell_of HRW.out]; rfl)
        have HR1 := Lib.hid (show wr.cell? ⟨W.heap.size, 1, none⟩ = some (.int .i64 (long : Int)) by rw [cell_of HRW.out]; rfl)
        have HC0 := Lib.hid c0
        have HLA := Lib.hid (layer_any wr.drew N j long (cc - aa) _ _ (HHW.out.below (show Below wr.heap.size wr wr.drew from ⟨rfl, rfl, rfl, Nat.le_refl _, fun _ _ => rfl⟩)) (by rw [partH_len (by omega)]; omega) (by omega) (by omega) hn255 (by omega) (partH_dec HOKH.out (by omega) (by omega)) (partH_wide HOKH.out (by omega) (by omega) (by omega)) (by omega))
        have hwW : W.heap.size ≠ w.heap.size + 3 := by omega
        have HN3 := Lib.hid (show (Value.slice pv m cv).ownBlock ≠ some (w.heap.size + 3) from fun e => by have := (hbase _ e).1; omega)
        have HKF := Lib.hid (show ∀ (b : Nat) (o : Obj), W.heap[b]? = some o → o.isCells = false → (Value.slice pv m cv).ownBlock ≠ some b from fun b o hb ho e => by
          rcases hus1.2 with ⟨e2, _⟩ | ⟨g, cap, cur, e2, _, hg, _⟩
          · rw [e2] at e; cases e
          · rw [e2] at e
            have := own_is e
            subst this
            rw [hg] at hb; cases hb; cases ho)
        have HLS := Lib.hid (laysG_snoc t (t.take R) hs pre x)
        have HLGX := Lib.hid (show layG t (t.take R) hs pre.length x = layD j long (cc - aa) (partH hs j aa (cc - aa)) from by rw [HM.out, HLG.out, HSP.out])
        have HLL := Lib.hid (show (laysG t (t.take R) hs pre).length = m by rw [laysG_len, HM.out])
        have HS55 := Lib.hid (show w5.heap.size ≤ W.heap.size from hsz5)
        clear hC' hCs hK hus1 hus2 hus3 c0 hbase
        gi_wp2
        refine sr_start 8 (fun w' => Kept (fun b => b = w.heap.size + 3 ∨ (Value.slice pv m cv).ownBlock = some b) wr w') (by as_aux_lemma => kernel_rfl) (by as_aux_lemma => kernel_rfl) (by as_aux_lemma => kernel_rfl) HKD.out ?_
        refine s_take 1 (by as_aux_lemma => kernel_rfl) (by as_aux_lemma => kernel_rfl) (by as_aux_lemma => kernel_rfl) (by as_aux_lemma => kernel_rfl) HKD.out (fun oi ho => ?_)
        simp only [List.getElem?_toArray, List.getElem?_cons_succ, List.getElem?_cons_zero, Option.some.injEq] at ho
        subst ho
        refine ⟨.int .i64 (N : Int), Or.inl ⟨by rfl, fun w' hS' => ?_⟩, ?_⟩
        · have q := HLK.out w' hS' ⟨w.heap.size, 0, none⟩ _ HC0.out (by show w.heap.size ≠ w.heap.size + 3; omega) HN0.out
          (go_simp <;> with_reducible rfl)
        try simp only [Act.put, List.setIfInBounds_toArray, List.set_cons_zero, List.set_cons_succ]
        refine s_take 2 (by as_aux_lemma => kernel_rfl) (by as_aux_lemma => kernel_rfl) (by as_aux_lemma => kernel_rfl) (by as_aux_lemma => kernel_rfl) HKD.out (fun oi ho => ?_)
        simp only [List.getElem?_toArray, List.getElem?_cons_succ, List.getElem?_cons_zero, Option.some.injEq] at ho
        subst ho
        refine ⟨.agg #[.int .i64 (j : Int), .int .i64 (long : Int)], Or.inl ⟨by rfl, fun w' hS' => ?_⟩, ?_⟩
        · have q0 := HLK.out w' hS' ⟨W.heap.size, 0, none⟩ _ HR0.out hwW HNW.out
          have q1 := HLK.out w' hS' ⟨W.heap.size, 1, none⟩ _ HR1.out hwW HNW.out
          (go_simp <;> with_reducible rfl)
        try simp only [Act.put, List.setIfInBounds_toArray, List.set_cons_zero, List.set_cons_succ]
        refine s_take 3 (by as_aux_lemma => kernel_rfl) (by as_aux_lemma => kernel_rfl) (by as_aux_lemma => kernel_rfl) (by as_aux_lemma => kernel_rfl) HKD.out (fun oi ho => ?_)
        simp only [List.getElem?_toArray, List.getElem?_cons_succ, List.getElem?_cons_zero, Option.some.injEq] at ho
        subst ho
        refine ⟨?_, Or.inl ⟨by rfl, fun w _ => ?_⟩, ?_⟩
        rotate_left
        · (go_simp <;> with_reducible rfl)
        try simp only [Act.put, List.setIfInBounds_toArray, List.set_cons_zero, List.set_cons_succ]
        refine s_all (rs := [0, 4]) (by as_aux_lemma => kernel_rfl) (by simp) ?_
        refine s_step 0 (by as_aux_lemma => kernel_rfl) (fun o ho K hK => ?_) ?_
        · simp only [List.getElem?_toArray, List.getElem?_cons_succ, List.getElem?_cons_zero, Option.some.injEq] at ho
          subst ho
          go_simp
          refine hK.out _ _ HKD.out ?_
          clear hK K
          try simp only [Act.put, List.setIfInBounds_toArray, List.set_cons_zero, List.set_cons_succ]
          refine s_all (rs := [4]) (by as_aux_lemma => kernel_rfl) (by simp) ?_
          refine s_step 4 (by as_aux_lemma => kernel_rfl) (fun o ho K hK => ?_) AllReadyH.nil
          simp only [List.getElem?_toArray, List.getElem?_cons_succ, List.getElem?_cons_zero, Option.some.injEq] at ho
          subst ho
          go_simp
          refine HLA.out.mono ?_
          rintro e w6 ⟨u, rfl, hu, hB6⟩
          have HU := Lib.hid hu
          obtain ⟨pu, cu, rfl⟩ := hu.bytes.shape
          have HB6 := Lib.hid hB6
          have HK6 := Lib.hid (HKD.out.trans ((Kept.below hB6).mono (S' := fun b => b = w.heap.size + 3 ∨ (Value.slice pv m cv).ownBlock = some b) (fun _ _ h => h.elim)) (fun _ _ h => h))
          have HBW6 := Lib.hid (show Below W.heap.size W w6 from (HKW.out.trans (show Below W.heap.size wr wr.drew from ⟨rfl, rfl, rfl, Nat.le_refl _, fun _ _ => rfl⟩)).trans ⟨hB6.os, hB6.tape, hB6.output, hB6.size, fun i hi => hB6.block i (by have := HKW.out.size; show i < wr.heap.size; omega)⟩)
          have c6 := (hB6.cell (p := ⟨w.heap.size + 3, 0, none⟩) (blt c3)).trans c3
          clear hu hB6
          go_wp2_with fail
          refine hK.out _ _ HK6.out ?_
          clear hK K
          try simp only [Act.put, List.setIfInBounds_toArray, List.set_cons_zero, List.set_cons_succ]
          refine s_all (rs := [5]) (by as_aux_lemma => kernel_rfl) (by simp) ?_
          refine s_step 5 (by as_aux_lemma => kernel_rfl) (fun o ho K hK => ?_) AllReadyH.nil
          simp only [List.getElem?_toArray, List.getElem?_cons_succ, List.getElem?_cons_zero, Option.some.injEq] at ho
          subst ho
          go_simp
          have c7 := alloc_cell c6 (.cells #[.slice pu (layD j long (cc - aa) (partH hs j aa (cc - aa))).length cu] 39)
          have HK7 := Lib.hid (HK6.out.trans (Kept.alloc (fun b => b = w.heap.size + 3 ∨ (Value.slice pv m cv).ownBlock = some b) w6 (.cells #[.slice pu (layD j long (cc - aa) (partH hs j aa (cc - aa))).length cu] 39)) (fun _ _ h => h))
          refine hK.out _ _ HK7.out ?_
          clear hK K
          try simp only [Act.put, List.setIfInBounds_toArray, List.set_cons_zero, List.set_cons_succ]
          refine s_all (rs := [6]) (by as_aux_lemma => kernel_rfl) (by simp) ?_
          refine s_step 6 (by as_aux_lemma => kernel_rfl) (fun o ho K hK => ?_) AllReadyH.nil
          simp only [List.getElem?_toArray, List.getElem?_cons_succ, List.getElem?_cons_zero, Option.some.injEq] at ho
          subst ho
          have HBW7 := Lib.hid (HBW6.out.alloc HBW6.out.size (.cells #[.slice pu (layD j long (cc - aa) (partH hs j aa (cc - aa))).length cu] 39))
          have HO7 := Lib.hid (ownsRow_keptS HOW.out (Kept.below HBW7.out) (fun _ _ h => h))
          have HSZ7 := Lib.hid HBW7.out.size
          refine step_app 22 39 24 (.slice none 0 0) Tryz.underlying22 infoR rfl (by decide) rfl _ _ rfl w5.heap.size m (.slice pv m cv) us rfl HO7.out w6.heap.size (.slice pu (layD j long (cc - aa) (partH hs j aa (cc - aa))).length cu) rfl rfl (World.cell?_alloc_new w6 _ _ 0) (by omega) (by have := HSZ7.out; have := HS55.out; omega) ?_
          intro g8 c8 w8 ho8 hk8 hg8
          have HR8 := Lib.hid (RowsCut.snoc HLL.out HO7.out (fun i z hi => ⟨((HUS.out.1 i z hi).1).below HBW7.out, (HUS.out.1 i z hi).2⟩) HUS.out.2 (fun i z hi b hb => ((HUS.out.1 i z hi).1.blk b hb).2) (fun b hb => (HBASE.out b hb).2) ((HU.out.weaken (show W.heap.size ≤ wr.drew.heap.size from HKW.out.size)).below (balT w6 (.cells #[.slice pu (layD j long (cc - aa) (partH hs j aa (cc - aa))).length cu] 39))) HS55.out ho8 hk8 hg8)
          have HK8 := Lib.hid (HK7.out.trans (hk8.mono (S' := fun b => b = w.heap.size + 3 ∨ (Value.slice pv m cv).ownBlock = some b) (fun b _ e => .inr e)) (fun _ _ h => h))
          have hx8 := (KC.kept hk8).boxed (fun e => HN3.out e) ((KC.below (S := fun _ => False) HBW7.out).boxed (fun h => h) HV3.out)
          have HX8 := Lib.hid hx8
          have cb8 := hx8.cell
          have fb8 := hx8.frozen
          have HKW8 := Lib.hid (((Kept.below HBW7.out).mono (S' := fun b => b = w.heap.size + 3 ∨ (Value.slice pv m cv).ownBlock = some b) (fun _ _ h => h.elim)).trans (hk8.mono (S' := fun b => b = w.heap.size + 3 ∨ (Value.slice pv m cv).ownBlock = some b) (fun b _ e => .inr e)) (fun _ _ h => h))
          have HK9 := Lib.hid (HK8.out.trans ((Kept.set1 w8 (w.heap.size + 3) 0 (.slice (some ⟨g8, 0, none⟩) (m + 1) c8)).mono (S' := fun b => b = w.heap.size + 3 ∨ (Value.slice pv m cv).ownBlock = some b) (fun b _ e => .inl e)) (fun _ _ h => h))
          have HKW9 := Lib.hid (HKW8.out.trans ((Kept.set1 w8 (w.heap.size + 3) 0 (.slice (some ⟨g8, 0, none⟩) (m + 1) c8)).mono (S' := fun b => b = w.heap.size + 3 ∨ (Value.slice pv m cv).ownBlock = some b) (fun b _ e => .inl e)) (fun _ _ h => h))
          clear ho8 hk8 hg8 hx8
          refine hK.out _ _ HK8.out ?_
          clear hK K
          try simp only [Act.put, List.setIfInBounds_toArray, List.set_cons_zero, List.set_cons_succ]
          refine s_all (rs := [7]) (by as_aux_lemma => kernel_rfl) (by simp) ?_
          refine s_step 7 (by as_aux_lemma => kernel_rfl) (fun o ho K hK => ?_) AllReadyH.nil
          simp only [List.getElem?_toArray, List.getElem?_cons_succ, List.getElem?_cons_zero, Option.some.injEq] at ho
          subst ho
          go_simp
          refine hK.out _ _ HK9.out ?_
          clear hK K
          try simp only [Act.put, List.setIfInBounds_toArray, List.set_cons_zero, List.set_cons_succ]
          refine s_done (by as_aux_lemma => kernel_rfl) ?_
          simp only [Only]
          gi_wp2
          refine ⟨⟨HKW9.out.size, fun b o hB hb ho => (HKW9.out.block b (Array.getElem?_eq_some_iff.1 hb).1 (fun h => h.elim (fun e => by omega) (fun e => HKF.out b o hb ho e))).trans hb⟩, KC.kept (HKW9.out.mono (fun b _ h => h.elim .inl (fun e => .inr (HBASE.out b e).1))), ⟨_, HX8.out.set _, ?_⟩, ?_, ?_, ?_, Nat.le_trans HS55.out HKW9.out.size, HBW.out.trans (HKW9.out.toBelow HBW.out.size (fun i h => h.elim (fun e => by omega) (fun e => by have := (HBASE.out i e).1; omega)))⟩
          · rw [HLS.out, HLGX.out]
            exact HR8.out.kept (Kept.set1 w8 (w.heap.size + 3) 0 _) (fun b _ hb e => by omega)
          · exact (HKW9.out.block _ (by omega) (fun h => h.elim (fun e => by omega) (fun e => by have := (HBASE.out _ e).1; omega))).trans HI.out.1
          · exact (HKW9.out.block _ (by omega) (fun h => h.elim (fun e => by omega) (fun e => by have := (HBASE.out _ e).1; omega))).trans HI.out.2.1
          · exact (HKW9.out.block _ (by omega) (fun h => h.elim (fun e => by omega) (fun e => by have := (HBASE.out _ e).1; omega))).trans HI.out.2.2
        refine s_step 4 (by as_aux_lemma => kernel_rfl) (fun o ho K hK => ?_) ?_
        · simp only [List.getElem?_toArray, List.getElem?_cons_succ, List.getElem?_cons_zero, Option.some.injEq] at ho
          subst ho
          go_simp
          refine HLA.out.mono ?_
          rintro e w6 ⟨u, rfl, hu, hB6⟩
          have HU := Lib.hid hu
          obtain ⟨pu, cu, rfl⟩ := hu.bytes.shape
          have HB6 := Lib.hid hB6
          have HK6 := Lib.hid (HKD.out.trans ((Kept.below hB6).mono (S' := fun b => b = w.heap.size + 3 ∨ (Value.slice pv m cv).ownBlock = some b) (fun _ _ h => h.elim)) (fun _ _ h => h))
          have HBW6 := Lib.hid (show Below W.heap.size W w6 from (HKW.out.trans (show Below W.heap.size wr wr.drew from ⟨rfl, rfl, rfl, Nat.le_refl _, fun _ _ => rfl⟩)).trans ⟨hB6.os, hB6.tape, hB6.output, hB6.size, fun i hi => hB6.block i (by have := HKW.out.size; show i < wr.heap.size; omega)⟩)
          have c6 := (hB6.cell (p := ⟨w.heap.size + 3, 0, none⟩) (blt c3)).trans c3
          clear hu hB6
          go_wp2_with fail
          refine hK.out _ _ HK6.out ?_
          clear hK K
          try simp only [Act.put, List.setIfInBounds_toArray, List.set_cons_zero, List.set_cons_succ]
          refine s_all (rs := [0, 5]) (by as_aux_lemma => kernel_rfl) (by simp) ?_
          refine s_step 0 (by as_aux_lemma => kernel_rfl) (fun o ho K hK => ?_) ?_
          · simp only [List.getElem?_toArray, List.getElem?_cons_succ, List.getElem?_cons_zero, Option.some.injEq] at ho
            subst ho
            go_simp
            refine hK.out _ _ HK6.out ?_
            clear hK K
            try simp only [Act.put, List.setIfInBounds_toArray, List.set_cons_zero, List.set_cons_succ]
            refine s_all (rs := [5]) (by as_aux_lemma => kernel_rfl) (by simp) ?_
            refine s_step 5 (by as_aux_lemma => kernel_rfl) (fun o ho K hK => ?_) AllReadyH.nil
            simp only [List.getElem?_toArray, List.getElem?_cons_succ, List.getElem?_cons_zero, Option.some.injEq] at ho
            subst ho
            go_simp
            have c7 := alloc_cell c6 (.cells #[.slice pu (layD j long (cc - aa) (partH hs j aa (cc - aa))).length cu] 39)
            have HK7 := Lib.hid (HK6.out.trans (Kept.alloc (fun b => b = w.heap.size + 3 ∨ (Value.slice pv m cv).ownBlock = some b) w6 (.cells #[.slice pu (layD j long (cc - aa) (partH hs j aa (cc - aa))).length cu] 39)) (fun _ _ h => h))
            refine hK.out _ _ HK7.out ?_
            clear hK K
            try simp only [Act.put, List.setIfInBounds_toArray, List.set_cons_zero, List.set_cons_succ]
            refine s_all (rs := [6]) (by as_aux_lemma => kernel_rfl) (by simp) ?_
            refine s_step 6 (by as_aux_lemma => kernel_rfl) (fun o ho K hK => ?_) AllReadyH.nil
            simp only [List.getElem?_toArray, List.getElem?_cons_succ, List.getElem?_cons_zero, Option.some.injEq] at ho
            subst ho
            have HBW7 := Lib.hid (HBW6.out.alloc HBW6.out.size (.cells #[.slice pu (layD j long (cc - aa) (partH hs j aa (cc - aa))).length cu] 39))
            have HO7 := Lib.hid (ownsRow_keptS HOW.out (Kept.below HBW7.out) (fun _ _ h => h))
            have HSZ7 := Lib.hid HBW7.out.size
            refine step_app 22 39 24 (.slice none 0 0) Tryz.underlying22 infoR rfl (by decide) rfl _ _ rfl w5.heap.size m (.slice pv m cv) us rfl HO7.out w6.heap.size (.slice pu (layD j long (cc - aa) (partH hs j aa (cc - aa))).length cu) rfl rfl (World.cell?_alloc_new w6 _ _ 0) (by omega) (by have := HSZ7.out; have := HS55.out; omega) ?_
            intro g8 c8 w8 ho8 hk8 hg8
            have HR8 := Lib.hid (RowsCut.snoc HLL.out HO7.out (fun i z hi => ⟨((HUS.out.1 i z hi).1).below HBW7.out, (HUS.out.1 i z hi).2⟩) HUS.out.2 (fun i z hi b hb => ((HUS.out.1 i z hi).1.blk b hb).2) (fun b hb => (HBASE.out b hb).2) ((HU.out.weaken (show W.heap.size ≤ wr.drew.heap.size from HKW.out.size)).below (balT w6 (.cells #[.slice pu (layD j long (cc - aa) (partH hs j aa (cc - aa))).length cu] 39))) HS55.out ho8 hk8 hg8)
            have HK8 := Lib.hid (HK7.out.trans (hk8.mono (S' := fun b => b = w.heap.size + 3 ∨ (Value.slice pv m cv).ownBlock = some b) (fun b _ e => .inr e)) (fun _ _ h => h))
            have hx8 := (KC.kept hk8).boxed (fun e => HN3.out e) ((KC.below (S := fun _ => False) HBW7.out).boxed (fun h => h) HV3.out)
            have HX8 := Lib.hid hx8
            have cb8 := hx8.cell
            have fb8 := hx8.frozen
            have HKW8 := Lib.hid (((Kept.below HBW7.out).mono (S' := fun b => b = w.heap.size + 3 ∨ (Value.slice pv m cv).ownBlock = some b) (fun _ _ h => h.elim)).trans (hk8.mono (S' := fun b => b = w.heap.size + 3 ∨ (Value.slice pv m cv).ownBlock = some b) (fun b _ e => .inr e)) (fun _ _ h => h))
            have HK9 := Lib.hid (HK8.out.trans ((Kept.set1 w8 (w.heap.size + 3) 0 (.slice (some ⟨g8, 0, none⟩) (m + 1) c8)).mono (S' := fun b => b = w.heap.size + 3 ∨ (Value.slice pv m cv).ownBlock = some b) (fun b _ e => .inl e)) (fun _ _ h => h))
            have HKW9 := Lib.hid (HKW8.out.trans ((Kept.set1 w8 (w.heap.size + 3) 0 (.slice (some ⟨g8, 0, none⟩) (m + 1) c8)).mono (S' := fun b => b = w.heap.size + 3 ∨ (Value.slice pv m cv).ownBlock = some b) (fun b _ e => .inl e)) (fun _ _ h => h))
            clear ho8 hk8 hg8 hx8
            refine hK.out _ _ HK8.out ?_
            clear hK K
            try simp only [Act.put, List.setIfInBounds_toArray, List.set_cons_zero, List.set_cons_succ]
            refine s_all (rs := [7]) (by as_aux_lemma => kernel_rfl) (by simp) ?_
            refine s_step 7 (by as_aux_lemma => kernel_rfl) (fun o ho K hK => ?_) AllReadyH.nil
            simp only [List.getElem?_toArray, List.getElem?_cons_succ, List.getElem?_cons_zero, Option.some.injEq] at ho
            subst ho
            go_simp
            refine hK.out _ _ HK9.out ?_
            clear hK K
            try simp only [Act.put, List.setIfInBounds_toArray, List.set_cons_zero, List.set_cons_succ]
            refine s_done (by as_aux_lemma => kernel_rfl) ?_
            simp only [Only]
            gi_wp2
            refine ⟨⟨HKW9.out.size, fun b o hB hb ho => (HKW9.out.block b (Array.getElem?_eq_some_iff.1 hb).1 (fun h => h.elim (fun e => by omega) (fun e => HKF.out b o hb ho e))).trans hb⟩, KC.kept (HKW9.out.mono (fun b _ h => h.elim .inl (fun e => .inr (HBASE.out b e).1))), ⟨_, HX8.out.set _, ?_⟩, ?_, ?_, ?_, Nat.le_trans HS55.out HKW9.out.size, HBW.out.trans (HKW9.out.toBelow HBW.out.size (fun i h => h.elim (fun e => by omega) (fun e => by have := (HBASE.out i e).1; omega)))⟩
            · rw [HLS.out, HLGX.out]
              exact HR8.out.kept (Kept.set1 w8 (w.heap.size + 3) 0 _) (fun b _ hb e => by omega)
            · exact (HKW9.out.block _ (by omega) (fun h => h.elim (fun e => by omega) (fun e => by have := (HBASE.out _ e).1; omega))).trans HI.out.1
            · exact (HKW9.out.block _ (by omega) (fun h => h.elim (fun e => by omega) (fun e => by have := (HBASE.out _ e).1; omega))).trans HI.out.2.1
            · exact (HKW9.out.block _ (by omega) (fun h => h.elim (fun e => by omega) (fun e => by have := (HBASE.out _ e).1; omega))).trans HI.out.2.2
          refine s_step 5 (by as_aux_lemma => kernel_rfl) (fun o ho K hK => ?_) ?_
          · simp only [List.getElem?_toArray, List.getElem?_cons_succ, List.getElem?_cons_zero, Option.some.injEq] at ho
            subst ho
            go_simp
            have c7 := alloc_cell c6 (.cells #[.slice pu (layD j long (cc - aa) (partH hs j aa (cc - aa))).length cu] 39)
            have HK7 := Lib.hid (HK6.out.trans (Kept.alloc (fun b => b = w.heap.size + 3 ∨ (Value.slice pv m cv).ownBlock = some b) w6 (.cells #[.slice pu (layD j long (cc - aa) (partH hs j aa (cc - aa))).length cu] 39)) (fun _ _ h => h))
            refine hK.out _ _ HK7.out ?_
            clear hK K
            try simp only [Act.put, List.setIfInBounds_toArray, List.set_cons_zero, List.set_cons_succ]
            refine s_all (rs := [0]) (by as_aux_lemma => kernel_rfl) (by simp) ?_
            refine s_step 0 (by as_aux_lemma => kernel_rfl) (fun o ho K hK => ?_) AllReadyH.nil
            simp only [List.getElem?_toArray, List.getElem?_cons_succ, List.getElem?_cons_zero, Option.some.injEq] at ho
            subst ho
            go_simp
            refine hK.out _ _ HK7.out ?_
            clear hK K
            try simp only [Act.put, List.setIfInBounds_toArray, List.set_cons_zero, List.set_cons_succ]
            refine s_all (rs := [6]) (by as_aux_lemma => kernel_rfl) (by simp) ?_
            refine s_step 6 (by as_aux_lemma => kernel_rfl) (fun o ho K hK => ?_) AllReadyH.nil
            simp only [List.getElem?_toArray, List.getElem?_cons_succ, List.getElem?_cons_zero, Option.some.injEq] at ho
            subst ho
            have HBW7 := Lib.hid (HBW6.out.alloc HBW6.out.size (.cells #[.slice pu (layD j long (cc - aa) (partH hs j aa (cc - aa))).length cu] 39))
            have HO7 := Lib.hid (ownsRow_keptS HOW.out (Kept.below HBW7.out) (fun _ _ h => h))
            have HSZ7 := Lib.hid HBW7.out.size
            refine step_app 22 39 24 (.slice none 0 0) Tryz.underlying22 infoR rfl (by decide) rfl _ _ rfl w5.heap.size m (.slice pv m cv) us rfl HO7.out w6.heap.size (.slice pu (layD j long (cc - aa) (partH hs j aa (cc - aa))).length cu) rfl rfl (World.cell?_alloc_new w6 _ _ 0) (by omega) (by have := HSZ7.out; have := HS55.out; omega) ?_
            intro g8 c8 w8 ho8 hk8 hg8
            have HR8 := Lib.hid (RowsCut.snoc HLL.out HO7.out (fun i z hi => ⟨((HUS.out.1 i z hi).1).below HBW7.out, (HUS.out.1 i z hi).2⟩) HUS.out.2 (fun i z hi b hb => ((HUS.out.1 i z hi).1.blk b hb).2) (fun b hb => (HBASE.out b hb).2) ((HU.out.weaken (show W.heap.size ≤ wr.drew.heap.size from HKW.out.size)).below (balT w6 (.cells #[.slice pu (layD j long (cc - aa) (partH hs j aa (cc - aa))).length cu] 39))) HS55.out ho8 hk8 hg8)
            have HK8 := Lib.hid (HK7.out.trans (hk8.mono (S' := fun b => b = w.heap.size + 3 ∨ (Value.slice pv m cv).ownBlock = some b) (fun b _ e => .inr e)) (fun _ _ h => h))
            have hx8 := (KC.kept hk8).boxed (fun e => HN3.out e) ((KC.below (S := fun _ => False) HBW7.out).boxed (fun h => h) HV3.out)
            have HX8 := Lib.hid hx8
            have cb8 := hx8.cell
            have fb8 := hx8.frozen
            have HKW8 := Lib.hid (((Kept.below HBW7.out).mono (S' := fun b => b = w.heap.size + 3 ∨ (Value.slice pv m cv).ownBlock = some b) (fun _ _ h => h.elim)).trans (hk8.mono (S' := fun b => b = w.heap.size + 3 ∨ (Value.slice pv m cv).ownBlock = some b) (fun b _ e => .inr e)) (fun _ _ h => h))
            have HK9 := Lib.hid (HK8.out.trans ((Kept.set1 w8 (w.heap.size + 3) 0 (.slice (some ⟨g8, 0, none⟩) (m + 1) c8)).mono (S' := fun b => b = w.heap.size + 3 ∨ (Value.slice pv m cv).ownBlock = some b) (fun b _ e => .inl e)) (fun _ _ h => h))
            have HKW9 := Lib.hid (HKW8.out.trans ((Kept.set1 w8 (w.heap.size + 3) 0 (.slice (some ⟨g8, 0, none⟩) (m + 1) c8)).mono (S' := fun b => b = w.heap.size + 3 ∨ (Value.slice pv m cv).ownBlock = some b) (fun b _ e => .inl e)) (fun _ _ h => h))
            clear ho8 hk8 hg8 hx8
            refine hK.out _ _ HK8.out ?_
            clear hK K
            try simp only [Act.put, List.setIfInBounds_toArray, List.set_cons_zero, List.set_cons_succ]
            refine s_all (rs := [7]) (by as_aux_lemma => kernel_rfl) (by simp) ?_
            refine s_step 7 (by as_aux_lemma => kernel_rfl) (fun o ho K hK => ?_) AllReadyH.nil
            simp only [List.getElem?_toArray, List.getElem?_cons_succ, List.getElem?_cons_zero, Option.some.injEq] at ho
            subst ho
            go_simp
            refine hK.out _ _ HK9.out ?_
            clear hK K
            try simp only [Act.put, List.setIfInBounds_toArray, List.set_cons_zero, List.set_cons_succ]
            refine s_done (by as_aux_lemma => kernel_rfl) ?_
            simp only [Only]
            gi_wp2
            refine ⟨⟨HKW9.out.size, fun b o hB hb ho => (HKW9.out.block b (Array.getElem?_eq_some_iff.1 hb).1 (fun h => h.elim (fun e => by omega) (fun e => HKF.out b o hb ho e))).trans hb⟩, KC.kept (HKW9.out.mono (fun b _ h => h.elim .inl (fun e => .inr (HBASE.out b e).1))), ⟨_, HX8.out.set _, ?_⟩, ?_, ?_, ?_, Nat.le_trans HS55.out HKW9.out.size, HBW.out.trans (HKW9.out.toBelow HBW.out.size (fun i h => h.elim (fun e => by omega) (fun e => by have := (HBASE.out i e).1; omega)))⟩
            · rw [HLS.out, HLGX.out]
              exact HR8.out.kept (Kept.set1 w8 (w.heap.size + 3) 0 _) (fun b _ hb e => by omega)
            · exact (HKW9.out.block _ (by omega) (fun h => h.elim (fun e => by omega) (fun e => by have := (HBASE.out _ e).1; omega))).trans HI.out.1
            · exact (HKW9.out.block _ (by omega) (fun h => h.elim (fun e => by omega) (fun e => by have := (HBASE.out _ e).1; omega))).trans HI.out.2.1
            · exact (HKW9.out.block _ (by omega) (fun h => h.elim (fun e => by omega) (fun e => by have := (HBASE.out _ e).1; omega))).trans HI.out.2.2
          exact AllReadyH.nil
        exact AllReadyH.nil
    -- <BODY
  case done =>
    rintro D ys W hD rfl ⟨⟨v, hv, hrow⟩, h0, h1', h2, hsz5, hBW⟩ hK
    rw [hlen, laysG_is hrl] at hrow
    obtain ⟨a, cp, hvs⟩ := hrow.rows.shape
    have hc := hv.cell
    have hf := hv.frozen
    obtain ⟨ln, hln⟩ : ∃ x, (layersL t hs R).length = x := ⟨_, rfl⟩
    rw [hln] at hvs
    rw [hvs] at hc
    have HV2 := Lib.hid hvs
    clear hvs h0 h1' h2
    gi_wp2
    rw [← HV2.out]
    have hK' : (W.setCell ⟨w.heap.size + 3, 0, none⟩ v).heap[D]? = some (.deferred (some [])) := (KeepsOthers.setCell W ⟨w.heap.size + 3, 0, none⟩ v).same D _ hK rfl
    refine ⟨by simp, .inl ⟨_, _, rfl, run_takeDeferred hK', ?_⟩⟩
    have hv2 := hv.set v
    have hc5 := cell_kept hv2.cell (grownBy_putObj' _ D (.deferred none)) (fun r e => by cases e; exact ⟨_, hK', rfl⟩)
    have hkc : KC (fun j => j = w.heap.size + 3) W ((W.setCell ⟨w.heap.size + 3, 0, none⟩ v).putObj D (.deferred none)) := (KC.grown (grownBy_setCell' W (w.heap.size + 3) v) (fun j e => by cases e; rfl)).trans (kc_b (w := w5) _ D _ _ (by omega) hK' rfl rfl)
    refine ⟨.tuple #[v, .int .i64 0], ?_, v, rfl, ?_, ?_⟩
    · rw [HV2.out] at hc5 ⊢
      simp [results, Tryz.f28, go_sem, hc5]
    · exact (hrow.kc hkc (fun k hk e => by omega)).weaken (by omega)
    · exact (hBW.setCell (p := ⟨w.heap.size + 3, 0, none⟩) (by show w.heap.size ≤ w.heap.size + 3; omega) v).trans (belowK_b (w := w) (Nat.le_refl _) _ D _ _ (by omega) hK' rfl rfl)
  case stop =>
    rintro D c pre W _ _ h _
    exact h.elim
end Go.Proofs.YtojbbmfndlcgkaaGreat
