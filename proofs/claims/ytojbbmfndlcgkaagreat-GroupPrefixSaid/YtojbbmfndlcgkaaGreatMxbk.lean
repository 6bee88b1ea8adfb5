/-
  GpF: Walks of layer 17: slices.Clone of rows, slices.Equal of rows, Like.
  LayH: Layer 10, walks: Long (the program's, the reference's).
-/
import Derived.Test.YtojbbmfndlcgkaaGreatMxbh
import Derived.Test.YtojbbmfndlcgkaaGreatMxaw
import Derived.Test.YtojbbmfndlcgkaaGreatMxbb
import Derived.Test.YtojbbmfndlcgkaaGreatMxbj
import Derived.Test.YtojbbmfndlcgkaaGreatMxay
namespace Go.Proofs.YtojbbmfndlcgkaaGreat

section -- GpF
open Go.RowKit Go.Maps
set_option linter.unusedVariables false
set_option linter.unusedSimpArgs false
set_option maxRecDepth 100000
set_option maxHeartbeats 4000000

theorem infoT17 : (Tryz.prog.info? 46).map (fun i => (i.zero, i.size, i.bytes)) = some (some (.agg #[.int .i64 0, .int .i64 0]), 2, 16) := by kernel_rfl




/-- slices.Equal of rows. -/
theorem equalT_any (w : World) (va vb : Value) (a b : List (Int × Int)) (ha : TableAt w va a) (hb : TableAt w vb b) (hal : a.length ≤ 1000000000) :
    Calls Tryz.prog 34 #[va, vb] w fun e w' => e = .returned (.bool (decide (a = b))) ∧ ∃ q, w' = w.drewN q := by
  obtain ⟨pa, ca, rfl, hca, hha⟩ := ha
  obtain ⟨pb, cb, rfl, hcb, hhb⟩ := hb
  have HA := Lib.hid hha
  have HB := Lib.hid hhb
  obtain ⟨n, hn⟩ : ∃ n, a.length = n := ⟨_, rfl⟩
  obtain ⟨m, hm⟩ : ∃ m, b.length = m := ⟨_, rfl⟩
  have HN := Lib.hid hn
  have HM := Lib.hid hm
  rw [hn] at HA hca hal ⊢
  rw [hm] at HB hcb ⊢
  clear hha hhb hn hm
  go_enter Tryz.func34, Tryz.ntmps34
  by_cases hnm : n = m
  rotate_left
  · have hnm' : ¬ (n : Int) = (m : Int) := by omega
    go_wp2
    go_ret
    exact ⟨congrArg (fun b => Ending.returned (.bool b)) (decide_eq_false (fun e => hnm (by rw [← HN.out, ← HM.out, e]))).symm, 0, rfl⟩
  subst hnm
  go_wp2
  go_loopw [5, 13] (fun _ i wr => ∃ (k q : Nat), k ≤ n ∧ i = .int .i64 (k : Int) ∧ (∀ j, j < k → a.getD j (0, 0) = b.getD j (0, 0)) ∧ wr = w.drewN q) (fun _ i _ => n - (intOf i).toNat)
  case atStart => exact ⟨0, 0, Nat.zero_le _, rfl, fun j h => absurd h (by omega), rfl⟩
  case round =>
    obtain ⟨k, q, hk, rfl, hs, rfl⟩ := hrel
    have HS := Lib.hid hs
    clear hs
    by_cases hlt : k < n
    · obtain ⟨ga, oa, rfl, xa⟩ := HA.out (by omega)
      obtain ⟨gb, ob, rfl, xb⟩ := HB.out (by omega)
      obtain ⟨a0, a1⟩ := xa k hlt
      obtain ⟨b0, b1⟩ := xb k hlt
      obtain ⟨⟨k1, l1⟩, h1⟩ : ∃ r, a.getD k (0, 0) = r := ⟨_, rfl⟩
      obtain ⟨⟨k2, l2⟩, h2⟩ : ∃ r, b.getD k (0, 0) = r := ⟨_, rfl⟩
      rw [h1] at a0 a1
      rw [h2] at b0 b1
      have H1 := Lib.hid h1
      have H2 := Lib.hid h2
      clear xa xb h1 h2
      by_cases he : k1 = k2 ∧ l1 = l2
      · obtain ⟨rfl, rfl⟩ := he
        go_wp2_with fail
        go_quiet (fail)
        go_wp2
        go_roundw
        case rel =>
          refine ⟨k + 1, _, by omega, by go_num, fun j hj => ?_, by first | rfl | rw [World.drewN_drewN]⟩
          by_cases e : j = k
          · subst e; rw [H1.out, H2.out]
          · exact HS.out j (by omega)
        case measure => simp [intOf]; omega
      · have hne : a ≠ b := fun e => he (by
          have := H1.out
          rw [e, H2.out] at this
          cases this
          exact ⟨rfl, rfl⟩)
        have he2 : (k1 = k2 ∧ ¬ l1 = l2) ∨ ¬ k1 = k2 := by
          by_cases e : k1 = k2
          · exact .inl ⟨e, fun e2 => he ⟨e, e2⟩⟩
          · exact .inr e
        rcases he2 with ⟨rfl, e2⟩ | e2
        all_goals
          go_wp2_with fail
          go_quiet (fail)
          go_wp2
          go_ret
          exact ⟨congrArg (fun b => Ending.returned (.bool b)) (decide_eq_false hne).symm, _, by first | rfl | rw [World.drewN_drewN]⟩
    · obtain rfl : k = n := by omega
      have heq : a = b := by
        apply List.ext_getElem?
        intro j
        by_cases hj : j < k
        · have := HS.out j hj
          rw [List.getD_eq_getElem?_getD, List.getD_eq_getElem?_getD, List.getElem?_eq_getElem (by rw [HN.out]; exact hj), List.getElem?_eq_getElem (by rw [HM.out]; exact hj)] at this
          rw [List.getElem?_eq_getElem (by rw [HN.out]; exact hj), List.getElem?_eq_getElem (by rw [HM.out]; exact hj)]
          simpa using this
        · rw [List.getElem?_eq_none (by rw [HN.out]; omega), List.getElem?_eq_none (by rw [HM.out]; omega)]
      go_wp2
      go_ret
      exact ⟨congrArg (fun b => Ending.returned (.bool b)) (decide_eq_true heq).symm, q, rfl⟩

theorem app_tabs {ops : Array Oper} {rest : List Oper} {o : Oper} {a : Act} {Q : Exit → Act → World → Prop} {W : World}
    (hgd : o.guard = none) (s x : Operand) (ho : o.op = .call { callee := .builtin .append, args := #[s, x], argTypes := #[29, 29] })
    (base n m : Nat) (v : Value) (l1 l2 : List (Int × Int)) (hn : l1.length = n) (hm : l2.length = m) (hown : W.ownsRow base 46 2 v n (tc l1)) (p : Option Addr) (c : Nat)
    (hc : 0 < m → ∃ g off, p = some ⟨g, off, none⟩ ∧ ∀ i, i < m → W.cell? ⟨g, off + i * 2, none⟩ = some (.int .i64 (l2.getD i (0, 0)).1) ∧ W.cell? ⟨g, off + i * 2 + 1, none⟩ = some (.int .i64 (l2.getD i (0, 0)).2))
    (hs : a.eval s = v) (hx : a.eval x = .slice p m c) (hnm : n + m < 1000000000000) (hbase : base ≤ W.heap.size)
    (h : ∀ p' c' w', w'.ownsRow base 46 2 (.slice p' (n + m) c') (n + m) (tc (l1 ++ l2)) → Kept (fun k => v.ownBlock = some k) W w' → (∀ b, (Value.slice p' (n + m) c').ownBlock = some b → v.ownBlock = some b ∨ W.heap.size ≤ b) →
      wpList Tryz.prog ops Q rest (a.put o.dst (.slice p' (n + m) c')) w') : wpList Tryz.prog ops Q (o :: rest) a W := by
  by_cases h0 : m = 0
  · subst h0
    obtain rfl : l2 = [] := List.eq_nil_of_length_eq_zero hm
    have hv : ∃ p' c', v = .slice p' n c' := by
      rcases hown.2 with ⟨rfl, hz⟩ | ⟨g, cap, cur, rfl, _⟩
      · exact ⟨none, 0, by rw [hz]⟩
      · exact ⟨_, cap, rfl⟩
    obtain ⟨p', c', rfl⟩ := hv
    have h1 := h p' c' W (by rw [List.append_nil, Nat.add_zero]; exact hown) (Kept.refl _ _) (fun b hb => .inl hb)
    refine app_none 29 46 2 16 _ Tryz.underlying29 infoT17 hgd s x ho base n (.slice p' n c') (tc l1) hs hown p c hx ?_
    exact h1
  · obtain ⟨g, off, rfl, hcc⟩ := hc (by omega)
    obtain ⟨i, hi, hz, hsize, hbytes⟩ := info_parts infoT17
    have hown' : W.ownsRow base 46 i.size v n (tc l1) := by rw [hsize]; exact hown
    obtain ⟨g', c', w', hr, h2, h3, h4⟩ := run_app (P := Tryz.prog) (w := W) base 29 o.type 46 i _ Tryz.underlying29 hi hz (by rw [hsize]; rfl) v n (tc l1) hown' g off m c (tc l2) (by rw [tc_len, hsize, hm]) (by omega) (fun j u hj => by
        have hjm : j < (tc l2).length := (List.getElem?_eq_some_iff.1 hj).1
        rw [tc_len] at hjm
        rw [add_off]
        by_cases e : j % 2 = 0
        · obtain ⟨q, rfl⟩ : ∃ q, j = q * 2 := ⟨j / 2, by omega⟩
          obtain ⟨c0, _⟩ := hcc q (by omega)
          obtain ⟨t0, _⟩ := tc_get (t := l2) (i := q) (by omega)
          rw [t0] at hj
          rw [c0]; exact hj
        · obtain ⟨q, rfl⟩ : ∃ q, j = q * 2 + 1 := ⟨j / 2, by omega⟩
          obtain ⟨_, c1⟩ := hcc q (by omega)
          obtain ⟨_, t1⟩ := tc_get (t := l2) (i := q) (by omega)
          rw [t1] at hj
          rw [← Nat.add_assoc, c1]; exact hj) (fun v hv => tc_one v hv) (by omega) (by rw [hbytes]; omega) hbase
    rw [hsize, ← tc_app] at h2
    refine wpList_plain hgd fun K hK => ?_
    have h5 := h _ c' w' h2 h3 (fun b hb => by
      have e : g' = b := own_is hb
      subst e
      exact h4)
    unfold Oper.wp execOp
    simp only [ho, resolve, invoke, builtin, Sem.run_bind, Sem.run_pure, Result.andThen_ok, List.map_toArray, List.map_cons, List.map_nil, hs, hx, hr]
    exact hK _ _ h5
theorem app_tabs0 {ops : Array Oper} {rest : List Oper} {o : Oper} {a : Act} {Q : Exit → Act → World → Prop} {W : World}
    (hgd : o.guard = none) (s x : Operand) (ho : o.op = .call { callee := .builtin .append, args := #[s, x], argTypes := #[29, 29] })
    (base m : Nat) (v : Value) (l2 : List (Int × Int)) (hm : l2.length = m) (hown : W.ownsRow base 46 2 v 0 (tc [])) (p : Option Addr) (c : Nat)
    (hc : 0 < m → ∃ g off, p = some ⟨g, off, none⟩ ∧ ∀ i, i < m → W.cell? ⟨g, off + i * 2, none⟩ = some (.int .i64 (l2.getD i (0, 0)).1) ∧ W.cell? ⟨g, off + i * 2 + 1, none⟩ = some (.int .i64 (l2.getD i (0, 0)).2))
    (hs : a.eval s = v) (hx : a.eval x = .slice p m c) (hnm : m < 1000000000000) (hbase : base ≤ W.heap.size)
    (h : ∀ p' c' w', w'.ownsRow base 46 2 (.slice p' m c') m (tc l2) → Kept (fun k => v.ownBlock = some k) W w' →
      wpList Tryz.prog ops Q rest (a.put o.dst (.slice p' m c')) w') : wpList Tryz.prog ops Q (o :: rest) a W := by
  refine app_tabs hgd s x ho base 0 m v [] l2 rfl hm hown p c hc hs hx (by omega) hbase (fun p' c' w' h2 h3 _ => ?_)
  rw [Nat.zero_add, List.nil_append] at h2
  have := h p' c' w' h2 h3
  rwa [Nat.zero_add]

/-- slices.Clone of rows. -/
theorem cloneT_any (w : World) (v : Value) (t : List (Int × Int)) (hv : TableAt w v t) (h0 : 0 < t.length) (hl : t.length ≤ 1000000) :
    Calls Tryz.prog 21 #[v] w fun e w' => ∃ v', e = .returned v' ∧ w'.ownsRow w.heap.size 46 2 v' t.length (tc t) ∧ Below w.heap.size w w' := by
  have HT := Lib.hid hv
  obtain ⟨p, c, rfl, hc, hh⟩ := hv
  obtain ⟨g, o, rfl, hx⟩ := hh h0
  have HA := Lib.hid (balI w (.cells #[] 46))
  have hsa : w.heap.size ≤ (w.alloc (.cells #[] 46)).heap.size := HA.out.size
  have HO := Lib.hid (show (w.alloc (.cells #[] 46)).ownsRow w.heap.size 46 2 (.slice (some ⟨w.heap.size, 0, none⟩) 0 0) 0 (tc []) from ⟨by simp [tc], .inr ⟨w.heap.size, 0, #[], rfl, Nat.le_refl _, heap_alloc_new w _, Nat.le_refl _, by unfold maxLen; omega, by simp, by simp [tc]⟩⟩)
  have HX := Lib.hid (show 0 < t.length → ∃ g' off, (some (⟨g, o, none⟩ : Addr)) = some ⟨g', off, none⟩ ∧ ∀ i, i < t.length → (w.alloc (.cells #[] 46)).cell? ⟨g', off + i * 2, none⟩ = some (.int .i64 (t.getD i (0, 0)).1) ∧ (w.alloc (.cells #[] 46)).cell? ⟨g', off + i * 2 + 1, none⟩ = some (.int .i64 (t.getD i (0, 0)).2) from fun _ => ⟨g, o, rfl, fun i hi => by
    obtain ⟨a, b⟩ := hx i hi
    exact ⟨(HA.out.cell (p := ⟨g, o + i * 2, none⟩) (blt a)).trans a, (HA.out.cell (p := ⟨g, o + i * 2 + 1, none⟩) (blt b)).trans b⟩⟩)
  clear hx hh
  obtain ⟨m, hm⟩ : ∃ m, t.length = m := ⟨_, rfl⟩
  have HM := Lib.hid hm
  rw [hm] at HX hl h0 ⊢
  clear hm
  have he := Lib.run_eql_slice_nil (P := Tryz.prog) w 29 46 (some ⟨g, o, none⟩) m c 0 0 Tryz.underlying29
  simp only [Option.isNone_some] at he
  go_enter Tryz.func21, Tryz.ntmps21
  go_wp2_with (at_builtin; refine app_tabs0 rfl _ _ rfl w.heap.size m _ t HM.out HO.out _ c HX.out rfl rfl (by omega) hsa ?_; intro p' c' w1 hO hk)
  go_ret
  exact ⟨_, rfl, hO, HA.out.trans (hk.toBelow hsa (fun b e => by have : w.heap.size = b := own_is e; omega))⟩
end -- GpF

section -- LayH
open Go.RowKit Go.Maps Go.Shelf

attribute [local go_sem] Oper.semAt_some
set_option linter.unusedVariables false
set_option linter.unusedSimpArgs false
set_option maxRecDepth 100000
set_option maxHeartbeats 2000000

theorem long_bad (w : World) (n : Int) (v : Value) (t : List (Int × Int)) (hv : TableAt w v t) (hd : ¬ TableOk n t) :
    Calls Tryz.prog 20 #[.int .i64 n, v] w fun e w' => e = .returned (.tuple #[.int .i64 0, .int .i64 2]) ∧ Below w.heap.size w w' := by
  have HR := Lib.hid (tright_any (w.alloc (.cells #[.int .i64 0] 3)) n v t (hv.below (balT w _)))
  rw [decide_eq_false hd] at HR
  have HB := Lib.hid (balT w (.cells #[.int .i64 0] 3))
  have hx0 := Boxed.new w 3 (.int .i64 0)
  clear hd
  obtain ⟨p, c, rfl⟩ := hv.shape
  clear hv
  go_enter Tryz.func20, Tryz.ntmps20
  go_wp2_with fail
  refine HR.out.mono ?_
  rintro e w2 ⟨rfl, hB2⟩
  have hx2 := (KC.below (S := fun _ => False) hB2).boxed (fun h => h) hx0
  have hxc := hx2.cell
  have hxf := hx2.frozen
  have HX3 := Lib.hid (hx2.set (.int .i64 0)).cell
  have HB2 := Lib.hid (below_more HB.out hB2 HB.out.size)
  clear hB2 hx2 hx0
  go_wp2
  refine bodyPost_ret (v := .tuple #[.int .i64 0, .int .i64 2]) ?_ rfl ⟨rfl, HB2.out.setCell (p := ⟨w.heap.size, 0, none⟩) (Nat.le_refl _) _⟩
  have h := HX3.out
  simp [results, Tryz.f20, go_sem, h]

def lastT (t : List (Int × Int)) (pre : List Nat) : Int := match pre.getLast? with | some x => ((atT t (x + 1) : Nat) : Int) | none => 0
theorem lastT_snoc (t : List (Int × Int)) (pre : List Nat) (x : Nat) : lastT t (pre ++ [x]) = ((atT t (x + 1) : Nat) : Int) := by simp [lastT]
theorem lastT_spans (t : List (Int × Int)) {m : Nat} (h : 1 ≤ m) : lastT t (List.range m) = ((atT t m : Nat) : Int) := by
  obtain ⟨k, rfl⟩ : ∃ k, m = k + 1 := ⟨m - 1, by omega⟩
  rw [List.range_succ, lastT_snoc]

theorem long_ok (w : World) (n : Int) (v : Value) (t : List (Int × Int)) (hv : TableAt w v t) (hd : TableOk n t) :
    Calls Tryz.prog 20 #[.int .i64 n, v] w fun e w' => e = .returned (.tuple #[.int .i64 ((atT t t.length : Nat) : Int), .int .i64 0]) ∧ Below w.heap.size w w' := by
  have HR := Lib.hid (tright_any (w.alloc (.cells #[.int .i64 0] 3)) n v t (hv.below (balT w _)))
  rw [decide_eq_true hd] at HR
  have HB := Lib.hid (balT w (.cells #[.int .i64 0] 3))
  have hx0 := Boxed.new w 3 (.int .i64 0)
  obtain ⟨hn1, hn2, hl1, hl2, hok⟩ := hd
  obtain ⟨p, c, rfl⟩ := hv.shape
  have HV := Lib.hid hv
  have HOK := Lib.hid hok
  clear hv hok
  refine (callsIn_wide (n := 8)).1 ?_
  have h1 : 1 ≤ 8 := by omega
  have hf12 : Fence.wide.fn 17 := trivial
  have hf22 : Fence.wide.fn 33 := trivial
  refine callsIn_of_wp_marks Tryz.func20 rfl trivial ?_ rfl
  simp only [Tryz.ntmps20, List.size_toArray, List.length_cons, List.length_nil, Nat.reduceAdd, Nat.reduceSub, Array.replicate_succ, Array.replicate_zero, List.push_toArray, List.append_toArray, List.nil_append, List.cons_append]
  gi_wp2_with (gi_at_call 17; refine (callsIn_wide.2 HR.out).mono ?_; rintro e w2 ⟨rfl, hB2⟩; have hx2 := (KC.below (S := fun _ => False) hB2).boxed (fun h => h) hx0; have HX2 := Lib.hid hx2; have HB2 := Lib.hid (below_more HB.out hB2 HB.out.size); have HS2 := Lib.hid (show w.heap.size < w2.heap.size from Nat.lt_of_lt_of_le (by simp) hB2.size); clear hB2 hx2 hx0)
  gi_wp2_with (gi_at_call 33; refine (stripes_in _ _ _ _ _).mono ?_; rintro e w3 ⟨rfl, rfl⟩)
  have hbx := Boxed.new w2 29 (.slice p t.length c)
  have hB3 : Below w.heap.size w (w2.alloc (.cells #[.slice p t.length c] 29)) := HB2.out.alloc HB2.out.size _
  have hx3 := HX2.out.alloc (.cells #[.slice p t.length c] 29)
  obtain ⟨w3, hw3⟩ : ∃ x, w2.alloc (.cells #[.slice p t.length c] 29) = x := ⟨_, rfl⟩
  have hs3 : w3.heap.size = w2.heap.size + 1 := by rw [← hw3]; simp
  rw [hw3] at hbx hB3 hx3
  rw [hw3]
  have hlt2 := HS2.out
  clear hw3
  refine wpIn_rangeFunc_ownG rfl h1 (gf := 49) (lb := #[.pointer (some ⟨w2.heap.size, 0, none⟩)]) rfl trivial (enters_of Tryz.func49 (by kernel_rfl) rfl)
    (stripes_stops (8 - 1) (by omega) w2.heap.size _ t n HOK.out hn2 hl2 w w3 HV.out (hB3) (fun k => k = w.heap.size) (fun k hk e => by omega) (by omega) hbx) kc_t kc_b (Below.refl _ _) (fun _ => rfl)
    (fun pre W => Boxed W w.heap.size 3 (.int .i64 (lastT t pre)) ∧ Below w.heap.size w W)
    (fun _ _ _ => False)
    (OwnFrom.and (Own.from (boxed_own w.heap.size 3 (fun pre : List Nat => .int .i64 (lastT t pre))) _) (ownFrom_below (Nat.le_refl _) (by omega)))
    (fun _ _ _ _ _ hs _ _ => hs)
    ⟨hx3, hB3⟩
    (fun x => { tmps := #[.int .i64 n, .slice p t.length c, undef, undef, .pointer (some ⟨w.heap.size, 0, none⟩), .int .i64 0, undef, .int .i64 ((atT t (x + 1) : Nat) : Int), .int .i64 n, .slice p t.length c, .bool true, .bool false, .slice p t.length c, .func (.func 49) #[] #[.pointer (some ⟨w2.heap.size, 0, none⟩)], .int .i64 ((atT t x : Nat) : Int), .int .i64 ((atT t (x + 1) : Nat) : Int), undef, undef], defers := [] }) ?assign ?body ?done ?stop
  case assign =>
    intro l x W K hK
    gi_wp2
    exact hK
  case body =>
    rintro l pre x W ⟨hv, hB⟩ hlt
    have hc := hv.cell
    have hf := hv.frozen
    gi_wp2
    exact ⟨(KeepsOthers.setCell W ⟨w.heap.size, 0, none⟩ _).from _, KC.grown (grownBy_setCell' W w.heap.size _) (fun j e => by cases e; rfl), by rw [lastT_snoc]; exact hv.set _, hB.setCell (p := ⟨w.heap.size, 0, none⟩) (Nat.le_refl _) _⟩
  case done =>
    rintro D ys W hD rfl ⟨hv, hB⟩ hK
    rw [lastT_spans t hl1] at hv
    obtain ⟨a, ha⟩ : ∃ a, atT t t.length = a := ⟨_, rfl⟩
    rw [ha] at hv
    have HA := Lib.hid ha
    clear ha
    have hc := hv.cell
    have hf := hv.frozen
    gi_wp2
    have hK' : (W.setCell ⟨w.heap.size, 0, none⟩ (.int .i64 (a : Int))).heap[D]? = some (.deferred (some [])) := (KeepsOthers.setCell W ⟨w.heap.size, 0, none⟩ _).same D _ hK rfl
    refine ⟨by simp, .inl ⟨_, _, rfl, run_takeDeferred hK', ?_⟩⟩
    have hv2 := hv.set (.int .i64 (a : Int))
    have hc5 := cell_kept hv2.cell (grownBy_putObj' _ D (.deferred none)) (fun r e => by cases e; exact ⟨_, hK', rfl⟩)
    refine ⟨.tuple #[.int .i64 (a : Int), .int .i64 0], ?_, by rw [HA.out], ?_⟩
    · simp [results, Tryz.f20, go_sem, hc5]
    · exact (hB.setCell (p := ⟨w.heap.size, 0, none⟩) (Nat.le_refl _) _).trans (belowK_b (w := w) (Nat.le_refl _) _ D _ _ (by omega) hK' rfl rfl)
  case stop =>
    rintro D c pre W _ _ h _
    exact h.elim
end -- LayH

end Go.Proofs.YtojbbmfndlcgkaaGreat
