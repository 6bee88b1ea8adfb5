/-
  GpF: Walks of layer 17: slices.Clone of rows, slices.Equal of rows, Like.
  GpG: Walks of layer 17: Like; a group in memory; New.
  GpH: Walks of layer 17: a group in memory; made, New.
-/
import Derived.Test.YtibelpamolcmcaaMxav
import Derived.Test.YtibelpamolcmcaaMxan
import Derived.Test.YtibelpamolcmcaaMxap
import Derived.Test.YtibelpamolcmcaaMxaq
import Derived.Test.YtibelpamolcmcaaMxaw
import Derived.Test.YtibelpamolcmcaaMxas
namespace Go.Proofs.Ytibelpamolcmcaa

section -- GpF
open Go.RowKit Go.Maps
set_option linter.unusedVariables false
set_option linter.unusedSimpArgs false
set_option maxRecDepth 100000
set_option maxHeartbeats 4000000

theorem infoT17 : (Try.prog.info? 80).map (fun i => (i.zero, i.size, i.bytes)) = some (some (.agg #[.int .i64 0, .int .i64 0]), 2, 16) := by kernel_rfl




/-- slices.Equal of rows. -/
theorem equalT_any (w : World) (va vb : Value) (a b : List (Int × Int)) (ha : TableAt w va a) (hb : TableAt w vb b) (hal : a.length ≤ 1000000000) :
    Calls Try.prog 40 #[va, vb] w fun e w' => e = .returned (.bool (decide (a = b))) ∧ ∃ q, w' = w.drewN q := by
  obtain ⟨pa, ca, rfl, hca, hha⟩ := ha
  obtain ⟨pb, cb, rfl, hcb, hhb⟩ := hb
  have HA := Lib.hid hha
  have HB := Lib.hid hhb
  obtain ⟨n, hn⟩ : ∃ n, a.length = n := ⟨_, rfl⟩
  obtain ⟨m, hm⟩ : ∃ m, b.length = m := ⟨_, rfl⟩
  have HN := Lib.hid hn
  have HM := Lib.hid hm
  rw [hn] at HA hca hal ⊢
  rw [hm] at HB hcb ⊢
  clear hha hhb hn hm
  go_enter Try.func40, Try.ntmps40
  by_cases hnm : n = m
  rotate_left
  · have hnm' : ¬ (n : Int) = (m : Int) := by omega
    go_wp2
    go_ret
    exact ⟨congrArg (fun b => Ending.returned (.bool b)) (decide_eq_false (fun e => hnm (by rw [← HN.out, ← HM.out, e]))).symm, 0, rfl⟩
  subst hnm
  go_wp2
  go_loopw [5, 13] (fun _ i wr => ∃ (k q : Nat), k ≤ n ∧ i = .int .i64 (k : Int) ∧ (∀ j, j < k → a.getD j (0, 0) = b.getD j (0, 0)) ∧ wr = w.drewN q) (fun _ i _ => n - (intOf i).toNat)
  case atStart => exact ⟨0, 0, Nat.zero_le _, rfl, fun j h => absurd h (by omega), rfl⟩
  case round =>
    obtain ⟨k, q, hk, rfl, hs, rfl⟩ := hrel
    have HS := Lib.hid hs
    clear hs
    by_cases hlt : k < n
    · obtain ⟨ga, oa, rfl, xa⟩ := HA.out (by omega)
      obtain ⟨gb, ob, rfl, xb⟩ := HB.out (by omega)
      obtain ⟨a0, a1⟩ := xa k hlt
      obtain ⟨b0, b1⟩ := xb k hlt
      obtain ⟨⟨k1, l1⟩, h1⟩ : ∃ r, a.getD k (0, 0) = r := ⟨_, rfl⟩
      obtain ⟨⟨k2, l2⟩, h2⟩ : ∃ r, b.getD k (0, 0) = r := ⟨_, rfl⟩
      rw [h1] at a0 a1
      rw [h2] at b0 b1
      have H1 := Lib.hid h1
      have H2 := Lib.hid h2
      clear xa xb h1 h2
      by_cases he : k1 = k2 ∧ l1 = l2
      · obtain ⟨rfl, rfl⟩ := he
        go_wp2_with fail
        go_quiet (fail)
        go_wp2
        go_roundw
        case rel =>
          refine ⟨k + 1, _, by omega, by go_num, fun j hj => ?_, by first | rfl | rw [World.drewN_drewN]⟩
          by_cases e : j = k
          · subst e; rw [H1.out, H2.out]
          · exact HS.out j (by omega)
        case measure => simp [intOf]; omega
      · have hne : a ≠ b := fun e => he (by
          have := H1.out
          rw [e, H2.out] at this
          cases this
          exact ⟨rfl, rfl⟩)
        have he2 : (k1 = k2 ∧ ¬ l1 = l2) ∨ ¬ k1 = k2 := by
          by_cases e : k1 = k2
          · exact .inl ⟨e, fun e2 => he ⟨e, e2⟩⟩
          · exact .inr e
        rcases he2 with ⟨rfl, e2⟩ | e2
        all_goals
          go_wp2_with fail
          go_quiet (fail)
          go_wp2
          go_ret
          exact ⟨congrArg (fun b => Ending.returned (.bool b)) (decide_eq_false hne).symm, _, by first | rfl | rw [World.drewN_drewN]⟩
    · obtain rfl : k = n := by omega
      have heq : a = b := by
        apply List.ext_getElem?
        intro j
        by_cases hj : j < k
        · have := HS.out j hj
          rw [List.getD_eq_getElem?_getD, List.getD_eq_getElem?_getD, List.getElem?_eq_getElem (by rw [HN.out]; exact hj), List.getElem?_eq_getElem (by rw [HM.out]; exact hj)] at this
          rw [List.getElem?_eq_getElem (by rw [HN.out]; exact hj), List.getElem?_eq_getElem (by rw [HM.out]; exact hj)]
          simpa using this
        · rw [List.getElem?_eq_none (by rw [HN.out]; omega), List.getElem?_eq_none (by rw [HM.out]; omega)]
      go_wp2
      go_ret
      exact ⟨congrArg (fun b => Ending.returned (.bool b)) (decide_eq_true heq).symm, q, rfl⟩

theorem app_tabs {ops : Array Oper} {rest : List Oper} {o : Oper} {a : Act} {Q : Exit → Act → World → Prop} {W : World}
    (hgd : o.guard = none) (s x : Operand) (ho : o.op = .call { callee := .builtin .append, args := #[s, x], argTypes := #[29, 29] })
    (base n m : Nat) (v : Value) (l1 l2 : List (Int × Int)) (hn : l1.length = n) (hm : l2.length = m) (hown : W.ownsRow base 80 2 v n (tc l1)) (p : Option Addr) (c : Nat)
    (hc : 0 < m → ∃ g off, p = some ⟨g, off, none⟩ ∧ ∀ i, i < m → W.cell? ⟨g, off + i * 2, none⟩ = some (.int .i64 (l2.getD i (0, 0)).1) ∧ W.cell? ⟨g, off + i * 2 + 1, none⟩ = some (.int .i64 (l2.getD i (0, 0)).2))
    (hs : a.eval s = v) (hx : a.eval x = .slice p m c) (hnm : n + m < 1000000000000) (hbase : base ≤ W.heap.size)
    (h : ∀ p' c' w', w'.ownsRow base 80 2 (.slice p' (n + m) c') (n + m) (tc (l1 ++ l2)) → Kept (fun k => v.ownBlock = some k) W w' → (∀ b, (Value.slice p' (n + m) c').ownBlock = some b → v.ownBlock = some b ∨ W.heap.size ≤ b) →
      wpList Try.prog ops Q rest (a.put o.dst (.slice p' (n + m) c')) w') : wpList Try.prog ops Q (o :: rest) a W := by
  by_cases h0 : m = 0
  · subst h0
    obtain rfl : l2 = [] := List.eq_nil_of_length_eq_zero hm
    have hv : ∃ p' c', v = .slice p' n c' := by
      rcases hown.2 with ⟨rfl, hz⟩ | ⟨g, cap, cur, rfl, _⟩
      · exact ⟨none, 0, by rw [hz]⟩
      · exact ⟨_, cap, rfl⟩
    obtain ⟨p', c', rfl⟩ := hv
    have h1 := h p' c' W (by rw [List.append_nil, Nat.add_zero]; exact hown) (Kept.refl _ _) (fun b hb => .inl hb)
    refine app_none 29 80 2 16 _ Try.underlying29 infoT17 hgd s x ho base n (.slice p' n c') (tc l1) hs hown p c hx ?_
    exact h1
  · obtain ⟨g, off, rfl, hcc⟩ := hc (by omega)
    obtain ⟨i, hi, hz, hsize, hbytes⟩ := info_parts infoT17
    have hown' : W.ownsRow base 80 i.size v n (tc l1) := by rw [hsize]; exact hown
    obtain ⟨g', c', w', hr, h2, h3, h4⟩ := run_app (P := Try.prog) (w := W) base 29 o.type 80 i _ Try.underlying29 hi hz (by rw [hsize]; rfl) v n (tc l1) hown' g off m c (tc l2) (by rw [tc_len, hsize, hm]) (by omega) (fun j u hj => by
        have hjm : j < (tc l2).length := (List.getElem?_eq_some_iff.1 hj).1
        rw [tc_len] at hjm
        rw [add_off]
        by_cases e : j % 2 = 0
        · obtain ⟨q, rfl⟩ : ∃ q, j = q * 2 := ⟨j / 2, by omega⟩
          obtain ⟨c0, _⟩ := hcc q (by omega)
          obtain ⟨t0, _⟩ := tc_get (t := l2) (i := q) (by omega)
          rw [t0] at hj
          rw [c0]; exact hj
        · obtain ⟨q, rfl⟩ : ∃ q, j = q * 2 + 1 := ⟨j / 2, by omega⟩
          obtain ⟨_, c1⟩ := hcc q (by omega)
          obtain ⟨_, t1⟩ := tc_get (t := l2) (i := q) (by omega)
          rw [t1] at hj
          rw [← Nat.add_assoc, c1]; exact hj) (fun v hv => tc_one v hv) (by omega) (by rw [hbytes]; omega) hbase
    rw [hsize, ← tc_app] at h2
    refine wpList_plain hgd fun K hK => ?_
    have h5 := h _ c' w' h2 h3 (fun b hb => by
      have e : g' = b := own_is hb
      subst e
      exact h4)
    unfold Oper.wp execOp
    simp only [ho, resolve, invoke, builtin, Sem.run_bind, Sem.run_pure, Result.andThen_ok, List.map_toArray, List.map_cons, List.map_nil, hs, hx, hr]
    exact hK _ _ h5
theorem app_tabs0 {ops : Array Oper} {rest : List Oper} {o : Oper} {a : Act} {Q : Exit → Act → World → Prop} {W : World}
    (hgd : o.guard = none) (s x : Operand) (ho : o.op = .call { callee := .builtin .append, args := #[s, x], argTypes := #[29, 29] })
    (base m : Nat) (v : Value) (l2 : List (Int × Int)) (hm : l2.length = m) (hown : W.ownsRow base 80 2 v 0 (tc [])) (p : Option Addr) (c : Nat)
    (hc : 0 < m → ∃ g off, p = some ⟨g, off, none⟩ ∧ ∀ i, i < m → W.cell? ⟨g, off + i * 2, none⟩ = some (.int .i64 (l2.getD i (0, 0)).1) ∧ W.cell? ⟨g, off + i * 2 + 1, none⟩ = some (.int .i64 (l2.getD i (0, 0)).2))
    (hs : a.eval s = v) (hx : a.eval x = .slice p m c) (hnm : m < 1000000000000) (hbase : base ≤ W.heap.size)
    (h : ∀ p' c' w', w'.ownsRow base 80 2 (.slice p' m c') m (tc l2) → Kept (fun k => v.ownBlock = some k) W w' →
      wpList Try.prog ops Q rest (a.put o.dst (.slice p' m c')) w') : wpList Try.prog ops Q (o :: rest) a W := by
  refine app_tabs hgd s x ho base 0 m v [] l2 rfl hm hown p c hc hs hx (by omega) hbase (fun p' c' w' h2 h3 _ => ?_)
  rw [Nat.zero_add, List.nil_append] at h2
  have := h p' c' w' h2 h3
  rwa [Nat.zero_add]

/-- slices.Clone of rows. -/
theorem cloneT_any (w : World) (v : Value) (t : List (Int × Int)) (hv : TableAt w v t) (h0 : 0 < t.length) (hl : t.length ≤ 1000000) :
    Calls Try.prog 37 #[v] w fun e w' => ∃ v', e = .returned v' ∧ w'.ownsRow w.heap.size 80 2 v' t.length (tc t) ∧ Below w.heap.size w w' := by
  have HT := Lib.hid hv
  obtain ⟨p, c, rfl, hc, hh⟩ := hv
  obtain ⟨g, o, rfl, hx⟩ := hh h0
  have HA := Lib.hid (balI w (.cells #[] 80))
  have hsa : w.heap.size ≤ (w.alloc (.cells #[] 80)).heap.size := HA.out.size
  have HO := Lib.hid (show (w.alloc (.cells #[] 80)).ownsRow w.heap.size 80 2 (.slice (some ⟨w.heap.size, 0, none⟩) 0 0) 0 (tc []) from ⟨by simp [tc], .inr ⟨w.heap.size, 0, #[], rfl, Nat.le_refl _, heap_alloc_new w _, Nat.le_refl _, by unfold maxLen; omega, by simp, by simp [tc]⟩⟩)
  have HX := Lib.hid (show 0 < t.length → ∃ g' off, (some (⟨g, o, none⟩ : Addr)) = some ⟨g', off, none⟩ ∧ ∀ i, i < t.length → (w.alloc (.cells #[] 80)).cell? ⟨g', off + i * 2, none⟩ = some (.int .i64 (t.getD i (0, 0)).1) ∧ (w.alloc (.cells #[] 80)).cell? ⟨g', off + i * 2 + 1, none⟩ = some (.int .i64 (t.getD i (0, 0)).2) from fun _ => ⟨g, o, rfl, fun i hi => by
    obtain ⟨a, b⟩ := hx i hi
    exact ⟨(HA.out.cell (p := ⟨g, o + i * 2, none⟩) (blt a)).trans a, (HA.out.cell (p := ⟨g, o + i * 2 + 1, none⟩) (blt b)).trans b⟩⟩)
  clear hx hh
  obtain ⟨m, hm⟩ : ∃ m, t.length = m := ⟨_, rfl⟩
  have HM := Lib.hid hm
  rw [hm] at HX hl h0 ⊢
  clear hm
  have he := Lib.run_eql_slice_nil (P := Try.prog) w 29 80 (some ⟨g, o, none⟩) m c 0 0 Try.underlying29
  simp only [Option.isNone_some] at he
  go_enter Try.func37, Try.ntmps37
  go_wp2_with (at_builtin; refine app_tabs0 rfl _ _ rfl w.heap.size m _ t HM.out HO.out _ c HX.out rfl rfl (by omega) hsa ?_; intro p' c' w1 hO hk)
  go_ret
  exact ⟨_, rfl, hO, HA.out.trans (hk.toBelow hsa (fun b e => by have : w.heap.size = b := own_is e; omega))⟩
end -- GpF

section -- GpG
open Go.RowKit Go.Maps
set_option linter.unusedVariables false
set_option linter.unusedSimpArgs false
set_option maxRecDepth 100000
set_option maxHeartbeats 4000000

theorem like_any (w : World) (a b : HeadV) (va vb : Value) (ha : TableAt w va a.rows) (hb : TableAt w vb b.rows) (hal : a.rows.length ≤ 1000000000) :
    Calls Try.prog 21 #[headVal a va, headVal b vb] w fun e w' => e = .returned (.bool (decide (LikeH a b))) ∧ Below w.heap.size w w' := by
  have HA := Lib.hid ha
  have HB := Lib.hid hb
  obtain ⟨s1, f1, i1, n1, d1, r1⟩ := a
  obtain ⟨s2, f2, i2, n2, d2, r2⟩ := b
  have HLK : LikeH ⟨s1, f1, i1, n1, d1, r1⟩ ⟨s2, f2, i2, n2, d2, r2⟩ ↔ (s1 = s2 ∧ f1 = f2 ∧ n1 = n2 ∧ d1 = d2 ∧ r1 = r2) := Iff.rfl
  obtain ⟨D, hD⟩ : ∃ D, decide (LikeH ⟨s1, f1, i1, n1, d1, r1⟩ ⟨s2, f2, i2, n2, d2, r2⟩) = D := ⟨_, rfl⟩
  have HT := Lib.hid (show (s1 = s2 ∧ f1 = f2 ∧ n1 = n2 ∧ d1 = d2 ∧ r1 = r2) → D = true from fun h => by rw [← hD]; exact decide_eq_true (HLK.2 h))
  have HF := Lib.hid (show ¬ (s1 = s2 ∧ f1 = f2 ∧ n1 = n2 ∧ d1 = d2 ∧ r1 = r2) → D = false from fun h => by rw [← hD]; exact decide_eq_false (fun e => h (HLK.1 e)))
  rw [hD]
  clear hD HLK
  have HB1 := Lib.hid (balI w (.cells #[.int .i64 s1, .int .i64 f1, .int .i64 i1, .int .i64 n1, .int .i64 d1, va] 31))
  have HB2 := Lib.hid (balI (w.alloc (.cells #[.int .i64 s1, .int .i64 f1, .int .i64 i1, .int .i64 n1, .int .i64 d1, va] 31)) (.cells #[.int .i64 s2, .int .i64 f2, .int .i64 i2, .int .i64 n2, .int .i64 d2, vb] 31))
  have HX1 := Lib.hid ((HeadBox.new w ⟨s1, f1, i1, n1, d1, r1⟩ va).below HB2.out)
  have HX2 := Lib.hid (HeadBox.new (w.alloc (.cells #[.int .i64 s1, .int .i64 f1, .int .i64 i1, .int .i64 n1, .int .i64 d1, va] 31)) ⟨s2, f2, i2, n2, d2, r2⟩ vb)
  have HBW := Lib.hid (below_more HB1.out HB2.out HB1.out.size)
  rw [World.size_alloc] at HX2
  clear ha hb HB1 HB2
  have x10 := HX1.out.c0
  have x11 := HX1.out.c1
  have x13 := HX1.out.c3
  have x14 := HX1.out.c4
  have x15 := HX1.out.c5
  have x20 := HX2.out.c0
  have x21 := HX2.out.c1
  have x23 := HX2.out.c3
  have x24 := HX2.out.c4
  have x25 := HX2.out.c5
  dsimp only at x10 x11 x13 x14 x20 x21 x23 x24
  go_enter Try.func21, Try.ntmps21
  by_cases h1 : s1 = s2
  rotate_left
  · go_wp2
    go_ret
    exact ⟨congrArg (fun b => Ending.returned (.bool b)) (HF.out (fun e => h1 e.1)).symm, HBW.out⟩
  subst h1
  by_cases h2 : f1 = f2
  rotate_left
  · go_wp2
    go_ret
    exact ⟨congrArg (fun b => Ending.returned (.bool b)) (HF.out (fun e => h2 e.2.1)).symm, HBW.out⟩
  subst h2
  by_cases h3 : n1 = n2
  rotate_left
  · go_wp2
    go_ret
    exact ⟨congrArg (fun b => Ending.returned (.bool b)) (HF.out (fun e => h3 e.2.2.1)).symm, HBW.out⟩
  subst h3
  by_cases h4 : d1 = d2
  rotate_left
  · go_wp2
    go_ret
    exact ⟨congrArg (fun b => Ending.returned (.bool b)) (HF.out (fun e => h4 e.2.2.2.1)).symm, HBW.out⟩
  subst h4
  go_wp2_with fail
  refine (equalT_any _ va vb r1 r2 (HA.out.below HBW.out) (HB.out.below HBW.out) hal).mono ?_
  rintro e w3 ⟨rfl, q, rfl⟩
  have HBD := Lib.hid (below_more HBW.out ((Below.refl _ _).mono (Nat.le_refl _) |>.trans (show Below _ _ (World.drewN _ q) from (Kept.refl (fun _ => False) _).drewN q |>.toBelow (Nat.le_refl _) (fun _ h => h.elim))) HBW.out.size)
  by_cases h5 : r1 = r2
  · have HD := Lib.hid h5
    simp only [h5, decide_true]
    clear h5
    go_wp2
    go_ret
    exact ⟨congrArg (fun b => Ending.returned (.bool b)) (HT.out (by refine ⟨?_, ?_, ?_, ?_, HD.out⟩ <;> first | trivial | rfl)).symm, HBD.out⟩
  · have HD := Lib.hid h5
    simp only [h5, decide_false]
    clear h5
    go_wp2
    go_ret
    exact ⟨congrArg (fun b => Ending.returned (.bool b)) (HF.out (fun e => HD.out e.2.2.2.2)).symm, HBD.out⟩
end -- GpG

section -- GpH
open Go.RowKit Go.Maps
set_option linter.unusedVariables false
set_option linter.unusedSimpArgs false
set_option maxRecDepth 100000
set_option maxHeartbeats 4000000

/-- A group: its block b, its map's bm, its header, its rows' value, what it holds, the values of these. -/
structure GrpAt (w : World) (base b bm : Nat) (H : HeadV) (vr : Value) (hs : List (Int × List B)) (V : Int → Value) : Prop where
  blk : w.heap[b]? = some (.cells #[.map (some bm), .int .i64 H.stream, .int .i64 H.frame, .int .i64 0, .int .i64 H.n, .int .i64 H.deadline, vr, .int .i64 ((atT H.rows H.rows.length : Nat) : Int)] 77 (0, 0))
  ok : TableOk H.n H.rows
  tab : TableAt w vr H.rows
  map : MapI w bm (esV (hs.map (·.1)) V)
  rises : Rises hs
  rng : ∀ p ∈ hs, 0 ≤ p.1 ∧ p.1 < H.n
  wide : ∀ p ∈ hs, p.2.length = atT H.rows H.rows.length
  vals : ∀ p ∈ hs, Own w base (V p.1) p.2
  nb : b ≠ bm
  nr : vr.ownBlock ≠ some b ∧ vr.ownBlock ≠ some bm
  nv : ∀ p ∈ hs, ∀ k, (V p.1).ownBlock = some k → k ≠ b ∧ k ≠ bm
  lo : base ≤ b ∧ base ≤ bm ∧ ∀ k, vr.ownBlock = some k → base ≤ k
section
variable {w w' : World} {base b bm : Nat} {H : HeadV} {vr : Value} {hs : List (Int × List B)} {V : Int → Value}
theorem GrpAt.lt (h : GrpAt w base b bm H vr hs V) : b < w.heap.size := (Array.getElem?_eq_some_iff.1 h.blk).1
theorem GrpAt.below (h : GrpAt w base b bm H vr hs V) (hB : Below w.heap.size w w') : GrpAt w' base b bm H vr hs V :=
  ⟨(hB.block b h.lt).trans h.blk, h.ok, h.tab.below hB, h.map.below hB, h.rises, h.rng, h.wide, fun p hp => (h.vals p hp).below hB, h.nb, h.nr, h.nv, h.lo⟩
theorem GrpAt.c0 (h : GrpAt w base b bm H vr hs V) : w.cell? ⟨b, 0, none⟩ = some (.map (some bm)) := by rw [cell_of h.blk]; rfl
theorem GrpAt.c1 (h : GrpAt w base b bm H vr hs V) : w.cell? ⟨b, 1, none⟩ = some (.int .i64 H.stream) := by rw [cell_of h.blk]; rfl
theorem GrpAt.c2 (h : GrpAt w base b bm H vr hs V) : w.cell? ⟨b, 2, none⟩ = some (.int .i64 H.frame) := by rw [cell_of h.blk]; rfl
theorem GrpAt.c3 (h : GrpAt w base b bm H vr hs V) : w.cell? ⟨b, 3, none⟩ = some (.int .i64 0) := by rw [cell_of h.blk]; rfl
theorem GrpAt.c4 (h : GrpAt w base b bm H vr hs V) : w.cell? ⟨b, 4, none⟩ = some (.int .i64 H.n) := by rw [cell_of h.blk]; rfl
theorem GrpAt.c5 (h : GrpAt w base b bm H vr hs V) : w.cell? ⟨b, 5, none⟩ = some (.int .i64 H.deadline) := by rw [cell_of h.blk]; rfl
theorem GrpAt.c6 (h : GrpAt w base b bm H vr hs V) : w.cell? ⟨b, 6, none⟩ = some vr := by rw [cell_of h.blk]; rfl
theorem GrpAt.c7 (h : GrpAt w base b bm H vr hs V) : w.cell? ⟨b, 7, none⟩ = some (.int .i64 ((atT H.rows H.rows.length : Nat) : Int)) := by rw [cell_of h.blk]; rfl

/-- made. -/
theorem gmade_any (h : GrpAt w base b bm H vr hs V) :
    Calls Try.prog 36 #[.pointer (some ⟨b, 0, none⟩)] w fun e w' => e = .returned (.bool true) ∧ w = w' := by
  have c0 := h.c0
  clear h
  have e1 := fun (w : World) (m) => run_neq_map_nil (P := Try.prog) w 75 3 32 m Try.underlying75
  go_enter Try.func36, Try.ntmps36
  go_wp2
  go_ret
  exact ⟨rfl, rfl⟩
end

theorem gnew_bad (w : World) (h : HeadV) (v : Value) (hv : TableAt w v h.rows) (hd : ¬ HeadOk h) :
    Calls Try.prog 33 #[headVal h v] w fun e w' => e = .returned (.tuple #[.pointer none, .int .i64 2]) ∧ Below w.heap.size w w' := by
  have HV := Lib.hid hv
  have HB1 := Lib.hid (balI w (.cells #[.int .i64 h.stream, .int .i64 h.frame, .int .i64 h.index, .int .i64 h.n, .int .i64 h.deadline, v] 31))
  have hR := hright_any (w.alloc (.cells #[.int .i64 h.stream, .int .i64 h.frame, .int .i64 h.index, .int .i64 h.n, .int .i64 h.deadline, v] 31)) h v (hv.below HB1.out)
  rw [decide_eq_false hd] at hR
  have HR := Lib.hid hR
  clear hR hv
  obtain ⟨stream, frame, index, n, deadline, rows⟩ := h
  dsimp only at HR HB1
  go_enter Try.func33, Try.ntmps33
  go_wp2_with fail
  refine HR.out.mono ?_
  rintro e w2 ⟨rfl, hB2⟩
  have HB2 := Lib.hid (below_more HB1.out hB2 HB1.out.size)
  go_wp2
  go_ret2
  exact ⟨rfl, HB2.out⟩

theorem gnew_ok (w : World) (h : HeadV) (v : Value) (hv : TableAt w v h.rows) (hd : HeadOk h) :
    Calls Try.prog 33 #[headVal h v] w fun e w' => ∃ b bm vr, e = .returned (.tuple #[.pointer (some ⟨b, 0, none⟩), .int .i64 0]) ∧ GrpAt w' w.heap.size b bm h vr [] (fun _ => undef) ∧ Below w.heap.size w w' := by
  have HV := Lib.hid hv
  have HT := Lib.hid hd.1
  have HB1 := Lib.hid (balI w (.cells #[.int .i64 h.stream, .int .i64 h.frame, .int .i64 h.index, .int .i64 h.n, .int .i64 h.deadline, v] 31))
  have hR := hright_any (w.alloc (.cells #[.int .i64 h.stream, .int .i64 h.frame, .int .i64 h.index, .int .i64 h.n, .int .i64 h.deadline, v] 31)) h v (hv.below HB1.out)
  rw [decide_eq_true hd] at hR
  have HR := Lib.hid hR
  have HX := Lib.hid (HeadBox.new w h v)
  clear hR hv hd
  obtain ⟨stream, frame, index, n, deadline, rows⟩ := h
  dsimp only at HR HB1 HT HV HX
  go_enter Try.func33, Try.ntmps33
  go_wp2_with fail
  refine HR.out.mono ?_
  rintro e w2 ⟨rfl, hB2⟩
  have HB2 := Lib.hid (below_more HB1.out hB2 HB1.out.size)
  have HX2 := Lib.hid (HX.out.below hB2)
  clear hB2 HX
  have c3 := HX2.out.c3
  have c5 := HX2.out.c5
  dsimp only at c3 c5
  go_wp2_with fail
  refine (long_ok w2 n v rows (HV.out.below HB2.out) HT.out).mono ?_
  rintro e w3 ⟨rfl, hB3⟩
  have HB3 := Lib.hid (below_more HB2.out hB3 HB2.out.size)
  have HX3 := Lib.hid (HX2.out.below hB3)
  clear hB3 c3 c5
  have c5 := HX3.out.c5
  go_wp2_with fail
  refine (cloneT_any w3 v rows (HV.out.below HB3.out) (by have := HT.out.2.2.1; omega) (by have := HT.out.2.2.2.1; omega)).mono ?_
  rintro e w4 ⟨vr, rfl, hO, hB4⟩
  obtain ⟨pr, cr, rfl⟩ : ∃ p c, vr = .slice p rows.length c := by
    rcases hO.2 with ⟨e, hz⟩ | ⟨g, cap, cur, e, _⟩
    · exact ⟨none, 0, by rw [e, hz]⟩
    · exact ⟨_, cap, e⟩
  obtain ⟨M, hM⟩ : ∃ M, rows.length = M := ⟨_, rfl⟩
  have HM := Lib.hid hM
  obtain ⟨long, hlong⟩ : ∃ x, atT rows M = x := ⟨_, rfl⟩
  have HLONG := Lib.hid hlong
  rw [hM] at hO ⊢
  rw [hlong]
  clear hM hlong
  have HO4 := Lib.hid hO
  have HS3 := Lib.hid (show w.heap.size < w3.heap.size from by have := HX3.out.lt; exact this)
  have HB4 := Lib.hid (below_more HB3.out hB4 HB3.out.size)
  have HX4 := Lib.hid (HX3.out.below hB4)
  clear hB4 c5 hO
  have c0 := HX4.out.c0
  have c1 := HX4.out.c1
  have c2 := HX4.out.c2
  have c3 := HX4.out.c3
  have c4 := HX4.out.c4
  have c5 := HX4.out.c5
  have hfz : ∀ o, w4.frozen? ⟨w.heap.size, o, none⟩ = false := fun o => fz_of HX4.out o
  dsimp only at c0 c1 c2 c3 c4 c5
  have HX5 := Lib.hid (show HeadBox ((w4.setCell ⟨w.heap.size, 2, none⟩ (.int .i64 0)).setCell ⟨w.heap.size, 5, none⟩ (.slice pr M cr)) w.heap.size ⟨stream, frame, 0, n, deadline, rows⟩ (.slice pr M cr) from by
    have h1 := heap_set (i := 2) HX4.out (.int .i64 0)
    have h2 := heap_set (i := 5) h1 (.slice pr M cr)
    exact h2)
  obtain ⟨w5, hw5⟩ : ∃ x, (w4.setCell ⟨w.heap.size, 2, none⟩ (.int .i64 0)).setCell ⟨w.heap.size, 5, none⟩ (.slice pr M cr) = x := ⟨_, rfl⟩
  have HK5 := Lib.hid (show Kept (fun k => k = w.heap.size) w4 w5 from by
    rw [← hw5]
    exact (Kept.set1 _ _ _ _).trans (Kept.set1 _ _ _ _) (fun _ _ h => h))
  have HS5 := Lib.hid (show w5.heap.size = w4.heap.size from by rw [← hw5]; simp)
  rw [hw5] at HX5
  have hmm := @run_makeMap Try.prog
  have HX6 := Lib.hid (HX5.out.below (balI w5 (.map #[] 0)))
  have d0 := HX6.out.c0
  have d1 := HX6.out.c1
  have d2 := HX6.out.c2
  have d3 := HX6.out.c3
  have d4 := HX6.out.c4
  have d5 := HX6.out.c5
  dsimp only at d0 d1 d2 d3 d4 d5
  have HS45 := Lib.hid (show w.heap.size < w4.heap.size from HX4.out.lt)
  have HM7 := Lib.hid (MapI.made w5)
  have HB7 := Lib.hid (balI (w5.alloc (.map #[] 0)) (.cells #[.map (some w5.heap.size), .int .i64 stream, .int .i64 frame, .int .i64 0, .int .i64 n, .int .i64 deadline, .slice pr M cr, .int .i64 (long : Int)] 77))
  have HB67 := Lib.hid (below_more (balI w5 (.map #[] 0)) HB7.out (balI w5 (.map #[] 0)).size)
  have HB57 := Lib.hid (show Below w.heap.size w w5 from HB4.out.trans (HK5.out.toBelow HB4.out.size (fun k e => by omega)))
  have HTV := Lib.hid (show TableAt w4 (.slice pr M cr) rows from TableAt.of_owns (by rw [HM.out]; exact HO4.out))
  have HOB := Lib.hid (show ∀ k, (Value.slice pr M cr).ownBlock = some k → w3.heap.size ≤ k ∧ k < w4.heap.size from fun k hk => HO4.out.lt k hk)
  go_wp2
  go_ret2
  refine ⟨w5.heap.size + 1, w5.heap.size, .slice pr M cr, rfl, ⟨?_, HT.out, ?_, HM7.out.below HB7.out, List.Pairwise.nil, fun p hp => (by simp at hp), fun p hp => (by simp at hp), fun p hp => (by simp at hp), by omega, ?_, fun p hp => (by simp at hp), ?_⟩, below_more HB57.out HB67.out HB57.out.size⟩
  · have := heap_alloc_new (w5.alloc (.map #[] 0)) (.cells #[.map (some w5.heap.size), .int .i64 stream, .int .i64 frame, .int .i64 0, .int .i64 n, .int .i64 deadline, .slice pr M cr, .int .i64 (long : Int)] 77)
    rw [World.size_alloc] at this
    rw [HM.out, HLONG.out]
    exact this
  · refine TableAt.below (w := w5) ?_ HB67.out
    exact HTV.out.keptB HK5.out (fun k hk e => by
      have h1 := (HOB.out k hk).1
      have h2 := HS3.out
      omega)
  · have h5 := HS5.out
    exact ⟨fun e => by have := (HOB.out _ e).2; omega, fun e => by have := (HOB.out _ e).2; omega⟩
  · have h5 := HS5.out
    have h6 := HS45.out
    have h7 := HS3.out
    exact ⟨by omega, by omega, fun k hk => by have := (HOB.out k hk).1; omega⟩
end -- GpH

end Go.Proofs.Ytibelpamolcmcaa
