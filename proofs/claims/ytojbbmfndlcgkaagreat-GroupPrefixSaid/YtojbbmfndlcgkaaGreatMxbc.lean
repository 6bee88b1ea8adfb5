/-
  Layer 9, walks: Join: rows as bytes (slices.Grow, slices.Concat).
-/
import Derived.Test.YtojbbmfndlcgkaaGreatMxba
import Derived.Test.YtojbbmfndlcgkaaGreatMxbb
import Derived.Test.YtojbbmfndlcgkaaGreatMxas
import Derived.Lib.AppendZeros
namespace Go.Proofs.YtojbbmfndlcgkaaGreat
open Go.RowKit Go.Maps
set_option linter.unusedVariables false
set_option linter.unusedSimpArgs false
set_option maxRecDepth 100000
set_option maxHeartbeats 2000000

theorem jodd_any (w : World) (bx wd : Nat) (hb : w.cell? ⟨bx, 0, none⟩ = some (.int .i64 (wd : Int))) (p : Option Addr) (c : Nat) :
    Calls Tryz.prog 67 #[.slice p wd c, .pointer (some ⟨bx, 0, none⟩)] w fun e w' => e = .returned (.bool false) ∧ w = w' := by
  go_enter Tryz.func67, Tryz.ntmps67
  go_wp2
  go_ret
  exact ⟨by simp, rfl⟩

theorem jindex_any (w : World) (bx wd : Nat) (vl : Value) (ls : List (List B)) (hb : w.cell? ⟨bx, 0, none⟩ = some (.int .i64 (wd : Int))) (hl : RowsAt w vl ls) (hlen : ls.length ≤ 1000000000) (hw : ∀ i, i < ls.length → (ls.getD i []).length = wd) :
    Calls Tryz.prog 71 #[vl, .func (.func 67) #[] #[.pointer (some ⟨bx, 0, none⟩)]] w fun e w' => e = .returned (.int .i64 (-1)) ∧ w = w' := by
  obtain ⟨pl, cl, rfl, hh⟩ := hl
  have HH := Lib.hid hh
  have HB := Lib.hid hb
  have HW := Lib.hid hw
  clear hh hb hw
  go_enter Tryz.func71, Tryz.ntmps71
  go_wp2
  go_loop [5, 8, 9, 10, 11, 12, 13, 14, 15, 16] (fun _ i _ _ _ _ _ _ _ _ => ∃ k : Nat, k ≤ ls.length ∧ i = .int .i64 (k : Int)) (fun _ i _ _ _ _ _ _ _ _ => ls.length - (intOf i).toNat)
  case atStart => exact ⟨0, Nat.zero_le _, rfl⟩
  case round =>
    obtain ⟨k, hk, rfl⟩ := hrel
    by_cases hlt : k < ls.length
    · obtain ⟨g, off, rfl, hc⟩ := HH.out (by omega)
      obtain ⟨u, hu, hub⟩ := hc k hlt
      obtain ⟨pu, cu, rfl⟩ := hub.shape
      rw [HW.out k hlt] at hu
      have HR := Lib.hid (jodd_any w bx wd HB.out pu cu)
      clear hc hub
      go_wp2_with fail
      refine HR.out.mono ?_
      rintro e w' ⟨rfl, rfl⟩
      go_wp2
      go_round
      case rel => exact ⟨k + 1, by omega, by go_num⟩
      case measure => simp [intOf]; omega
    · go_wp2
      go_ret
      exact ⟨rfl, rfl⟩

theorem jcontains_any (w : World) (bx wd : Nat) (vl : Value) (ls : List (List B)) (hb : w.cell? ⟨bx, 0, none⟩ = some (.int .i64 (wd : Int))) (hl : RowsAt w vl ls) (hlen : ls.length ≤ 1000000000) (hw : ∀ i, i < ls.length → (ls.getD i []).length = wd) :
    Calls Tryz.prog 60 #[vl, .func (.func 67) #[] #[.pointer (some ⟨bx, 0, none⟩)]] w fun e w' => e = .returned (.bool false) ∧ w = w' := by
  have KEY := Lib.hid (jindex_any w bx wd vl ls hb hl hlen hw)
  clear hb hl
  go_enter Tryz.func60, Tryz.ntmps60
  go_wp2_with (go_at_call 71; refine KEY.out.mono ?_; rintro e w' ⟨rfl, rfl⟩)
  go_ret
  exact ⟨rfl, rfl⟩

/-- slices.Grow of nothing. -/
theorem grow_any (w : World) (n : Nat) (hn : n ≤ 1000000000) :
    Calls Tryz.prog 86 #[.slice none 0 0, .int .i64 (n : Int)] w fun e w' => ∃ v, e = .returned v ∧ Own w' w.heap.size v [] ∧ (n = 0 → v = .slice none 0 0) ∧ Below w.heap.size w w' := by
  by_cases h0 : n = 0
  · subst h0
    go_enter Tryz.func86, Tryz.ntmps86
    go_wp2
    go_ret
    exact ⟨_, rfl, Own.nil _ _, fun _ => rfl, Below.refl _ _⟩
  · obtain ⟨i, hi, hz, hsize, hbytes⟩ := info_parts infoB
    have hr := Lib.run_append_nil_zeros (P := Tryz.prog) w 39 3 39 5 i (.int .u8 0) .i64 .i64 Tryz.underlying39 Tryz.underlying3 hi hz n (by omega) (by omega) (by omega) (by rw [hbytes]; omega)
    obtain ⟨cp, hcp⟩ : ∃ cp, grownCap w n 0 5 = cp := ⟨_, rfl⟩
    have hge := grownCap_ge w n 0 5
    have hle := grownCap_le_maxLen w n 0 5 (by unfold maxLen; omega)
    rw [hcp] at hr hge hle
    obtain ⟨C, hC⟩ : ∃ C, Builtin.zeroCells (Value.int .u8 0).cells n ++ Builtin.zeroCells (Value.int .u8 0).cells (cp - n) = C := ⟨_, rfl⟩
    have hCs : C.size = cp := by
      rw [← hC, Array.size_append, size_zeroCells, size_zeroCells, show (Value.int .u8 0).cells.size = 1 from rfl]
      omega
    rw [hC] at hr
    have HO := Lib.hid (show Own (w.drew.alloc (.cells C 5)) w.heap.size (.slice (some ⟨w.heap.size, 0, none⟩) 0 cp) [] from ⟨rfl, .inr ⟨w.heap.size, cp, _, rfl, Nat.le_refl _, heap_alloc_new w.drew _, Nat.zero_le _, hle, by rw [hCs, Nat.mul_one], by simp⟩⟩)
    have HBW := Lib.hid (show Below w.heap.size w (w.drew.alloc (.cells C 5)) from ⟨rfl, rfl, rfl, by simp, fun k hk => Below.heap_alloc w.drew _ k hk⟩)
    have hn0 : 0 < n := by omega
    clear hC hCs hcp
    go_enter Tryz.func86, Tryz.ntmps86
    go_wp2_with (at_builtin; refine Lib.wpList_append_run _ rfl _ _ _ _ rfl _ _ rfl rfl _ _ hr ?_)
    go_ret
    exact ⟨_, rfl, HO.out, fun h => absurd h h0, HBW.out⟩

/-- Append of bytes, however many; of none, it is the same row. -/
theorem app_own_keep {ops : Array Oper} {rest : List Oper} {o : Oper} {a : Act} {Q : Exit → Act → World → Prop} {W : World}
    (hgd : o.guard = none) (s x : Operand) (ho : o.op = .call { callee := .builtin .append, args := #[s, x], argTypes := #[39, 39] })
    (base n m : Nat) (v : Value) (l1 l2 : List B) (hn : l1.length = n) (hm : l2.length = m) (hown : Own W base v l1) (p : Option Addr) (c : Nat) (hc : 0 < m → ∃ g off, p = some ⟨g, off, none⟩ ∧ ∀ i, i < m → W.cell? ⟨g, off + i, none⟩ = some (bv (l2.getD i 0)))
    (hs : a.eval s = v) (hx : a.eval x = .slice p m c) (hnm : n + m < 1000000000000) (hbase : base ≤ W.heap.size)
    (h : ∀ p' c' w', Own w' base (.slice p' (n + m) c') (l1 ++ l2) → Kept (fun k => v.ownBlock = some k) W w' → (∀ b, (Value.slice p' (n + m) c').ownBlock = some b → v.ownBlock = some b ∨ W.heap.size ≤ b) → (m = 0 → Value.slice p' (n + m) c' = v) →
      wpList Tryz.prog ops Q rest (a.put o.dst (.slice p' (n + m) c')) w') : wpList Tryz.prog ops Q (o :: rest) a W := by
  by_cases h0 : m = 0
  · subst h0
    obtain rfl : l2 = [] := List.eq_nil_of_length_eq_zero hm
    obtain ⟨p', c', rfl⟩ := hown.shape
    have h1 := h p' c' W (by rw [List.append_nil, Nat.add_zero, ← hn]; exact hown) (Kept.refl _ _) (fun b hb => .inl (by rw [hn]; exact hb)) (fun _ => by rw [hn]; rfl)
    refine app_none 39 5 1 1 (.int .u8 0) Tryz.underlying39 infoB hgd s x ho base l1.length (.slice p' l1.length c') (l1.map bv) hs hown p c hx ?_
    rw [hn]
    exact h1
  · obtain ⟨g, off, rfl, hcc⟩ := hc (by omega)
    refine app_bytes 39 Tryz.underlying39 hgd s x ho base n m v l1 l2 hn hm hs (by rw [← hn]; exact hown) g off c hx hcc (by omega) hnm hbase ?_
    intro g' c' w' hR hb hk hg
    refine h _ c' w' ?_ hk (fun b hb' => ?_) (fun h => absurd h h0)
    · have := hR.own hb
      rwa [List.length_append, hn, hm] at this
    · have e : g' = b := own_is hb'
      subst e
      exact hg

/-- slices.Concat of rows that are alike wide. -/
theorem concat_any (w : World) (vl : Value) (ls : List (List B)) (k wd : Nat) (hl : RowsAt w vl ls) (hk : ls.length = k) (hk2 : k ≤ 255) (hwd : wd ≤ 65535) (hw : ∀ i, i < ls.length → (ls.getD i []).length = wd) :
    Calls Tryz.prog 68 #[vl] w fun e w' => ∃ v, e = .returned v ∧ Own w' w.heap.size v ls.flatten ∧ (k * wd = 0 → v = .slice none 0 0) ∧ Below w.heap.size w w' := by
  obtain ⟨pl, cl, rfl, hh⟩ := hl
  have HF := Lib.hid (show ls.take k = ls from List.take_of_length_le (by omega))
  have HTS := Lib.hid (fun (i : Nat) (hi : i < k) => show (ls.take (i + 1)).flatten = (ls.take i).flatten ++ ls.getD i [] from by
    rw [List.take_add_one, List.getElem?_eq_getElem (by omega), List.flatten_append, List.getD_eq_getElem?_getD, List.getElem?_eq_getElem (by omega)]
    simp)
  have HTL : ∀ i, i ≤ k → ((ls.take i).flatten).length = i * wd := by
    intro i
    induction i with
    | zero => intro _; simp
    | succ i ih =>
      intro h
      rw [HTS.out i (by omega), List.length_append, ih (by omega), hw i (by omega), Nat.succ_mul]
  have HTL := Lib.hid HTL
  have HIW := Lib.hid (fun (i : Nat) (hi : i < k) => show i * wd + wd ≤ 255 * 65535 ∧ i * wd + wd = (i + 1) * wd from ⟨by rw [← Nat.succ_mul]; exact Nat.mul_le_mul (by omega) hwd, by rw [Nat.succ_mul]⟩)
  rw [hk] at hh hw ⊢
  have HH := Lib.hid hh
  have HW := Lib.hid hw
  have hN : k * wd ≤ 255 * 65535 := Nat.mul_le_mul hk2 hwd
  clear hh hw
  go_enter Tryz.func68, Tryz.ntmps68
  go_wp2
  go_loopw [3, 5, 11] (fun s _ i wr => ∃ j : Nat, j ≤ k ∧ i = .int .i64 (j : Int) ∧ s = .int .i64 ((j * wd : Nat) : Int) ∧ w = wr) (fun _ _ i _ => k - (intOf i).toNat)
  case atStart => exact ⟨0, Nat.zero_le _, rfl, by rw [Nat.zero_mul]; rfl, by first | rfl | trivial⟩
  case round =>
    obtain ⟨j, hj, rfl, rfl, rfl⟩ := hrel
    by_cases hlt : j < k
    · obtain ⟨g, off, rfl, hc⟩ := HH.out (by omega)
      obtain ⟨u, hu, hub⟩ := hc j hlt
      obtain ⟨pu, cu, rfl⟩ := hub.shape
      rw [HW.out j hlt] at hu
      obtain ⟨i1, i2⟩ := HIW.out j hlt
      obtain ⟨q, hq⟩ : ∃ q, j * wd = q := ⟨_, rfl⟩
      rw [hq] at i1 i2 ⊢
      have HI2 := Lib.hid i2
      clear hc hub hq i2
      go_wp2
      go_roundw
      case rel => exact ⟨j + 1, by omega, by go_num, by rw [← HI2.out]; go_num, by first | rfl | trivial⟩
      case measure => simp [intOf]; omega
    · obtain rfl : j = k := by omega
      have HG := Lib.hid (grow_any w (j * wd) (by omega))
      obtain ⟨N, hNN⟩ : ∃ N, j * wd = N := ⟨_, rfl⟩
      have HNN := Lib.hid hNN
      rw [hNN] at HG hN ⊢
      clear hNN
      go_wp2_with fail
      refine HG.out.mono ?_
      rintro e w1 ⟨v1, rfl, ho1, hv1, hB1⟩
      obtain ⟨p1, c1, rfl⟩ := ho1.shape
      have HO1 := Lib.hid ho1
      have HB1 := Lib.hid hB1
      have HV1 := Lib.hid hv1
      clear ho1 hB1 hv1
      go_wp2
      go_loopw [6, 8, 27] (fun v _ i wr => ∃ t : Nat, t ≤ j ∧ i = .int .i64 (t : Int) ∧ Own wr w.heap.size v (ls.take t).flatten ∧ (N = 0 → v = .slice none 0 0) ∧ Below w.heap.size w wr) (fun _ _ i _ => j - (intOf i).toNat)
      case atStart => exact ⟨0, Nat.zero_le _, rfl, HO1.out, HV1.out, HB1.out⟩
      case round =>
        obtain ⟨wo, rfl⟩ : ∃ wo, wo = wr := ⟨_, rfl⟩
        obtain ⟨t, ht, rfl, ho, hv0, hB⟩ := hrel
        have HB := Lib.hid hB
        have hlen := HTL.out t ht
        obtain ⟨pv, cv, rfl⟩ := ho.shape
        rw [hlen] at ho hv0 ⊢
        have HO := Lib.hid ho
        have HV0 := Lib.hid hv0
        have HLEN := Lib.hid hlen
        have hsr := hB.size
        clear ho hv0 hlen hB
        by_cases hlt2 : t < j
        · obtain ⟨g, off, rfl, hc⟩ := HH.out (by omega)
          obtain ⟨u, hu, hub⟩ := hc t hlt2
          have hwt := HW.out t hlt2
          have hub2 := hub.below HB.out
          obtain ⟨pu, cu, rfl, hub3⟩ := hub2
          have hu := (HB.out.cell (p := ⟨g, off + t, none⟩) (blt hu)).trans hu
          rw [hwt] at hu hub3
          have HUB := Lib.hid hub3
          have HWT := Lib.hid hwt
          obtain ⟨i1, i2⟩ := HIW.out t hlt2
          have HI2 := Lib.hid i2
          have HTT := Lib.hid (HTS.out t hlt2)
          have HTN := Lib.hid (show N = 0 → t * wd + wd = 0 from fun h => by rw [i2]; have : (t + 1) * wd ≤ j * wd := Nat.mul_le_mul_right _ hlt2; have := HNN.out; omega)
          obtain ⟨q, hq⟩ : ∃ q, t * wd = q := ⟨_, rfl⟩
          rw [hq] at i1 HI2 HO HV0 HLEN HTN ⊢
          clear hc hub hub3 hwt hq i2
          go_wp2_with (at_builtin; refine app_own_keep rfl _ _ rfl w.heap.size q wd _ _ _ HLEN.out HWT.out HO.out pu cu HUB.out rfl rfl (by omega) hsr ?_; intro p6 c6 w6 hR6 hk6 hg6 hz6)
          go_roundw
          case rel => exact ⟨t + 1, by omega, by go_num, by rw [HTT.out]; exact hR6, fun h => by rw [hz6 (by have := HTN.out h; omega)]; exact HV0.out h, HB.out.trans (hk6.toBelow hsr (fun i hi => (HO.out.blk i hi).1))⟩
          case measure => simp [intOf]; omega
        · obtain rfl : t = j := by omega
          have HFF := HF.out
          go_wp2
          go_ret
          exact ⟨_, rfl, by rw [← HFF]; exact HO.out, fun h => HV0.out (by rw [← HNN.out]; exact h), HB.out⟩

/-- Rows that are cut behind a length. -/
theorem own_cut {w : World} {base n c long : Nat} {p : Option Addr} {l : List B} (h : Own w base (.slice p n c) l) (hn : l.length = n) (hl : long ≤ n) (h0 : 0 < long) : OwnL w base (.slice p long long) (l.take long) := by
  obtain ⟨g, c', e, hb, hr⟩ := h.row (by omega)
  have e1 := (Value.slice.inj e).1
  subst e1
  have htl : (l.take long).length = long := by rw [List.length_take]; omega
  refine .inr ⟨g, by rw [htl], hb, by omega, ?_⟩
  obtain ⟨C, q1, q2, q3, q4, q5⟩ := hr
  refine ⟨C, q1, by rw [htl]; omega, fun i hi => ?_⟩
  rw [htl] at hi
  rw [q5 i (by omega), List.getD_eq_getElem?_getD, List.getD_eq_getElem?_getD, List.getElem?_take, if_pos hi]

theorem join_any (w : World) (vr : Value) (rows : List (List B)) (long k : Nat) (hr : RowsAt w vr rows) (hk : rows.length = k) (h1 : 1 ≤ k) (h2 : k ≤ 255) (hl : long ≤ 65535) (hw : ∀ i, i < rows.length → (rows.getD i []).length = wdN long k) :
    Calls Tryz.prog 54 #[vr, .int .i64 (long : Int)] w fun e w' => ∃ v, e = .returned (.tuple #[v, .int .i64 0]) ∧ OwnL w' w.heap.size v (joinL rows long) ∧ Below w.heap.size w w' := by
  have hwl := wdN_le (long := long) h1
  have hge := wdN_ge (long := long) h1
  have hlt := wdN_lt (long := long) h1
  have HW := Lib.hid (fun W => width_any W long k hl h1 h2)
  have hzero : long = 0 → k * wdN long k = 0 := fun h => by rw [h]; unfold wdN; rw [Nat.zero_add, Nat.div_eq_of_lt (by omega)]; rfl
  have HFL := Lib.hid (show ∀ m, (∀ i, i < rows.length → (rows.getD i []).length = m) → rows.flatten.length = k * m from fun m hm => by
    rw [List.length_flatten, ← hk]
    have : rows.map List.length = List.replicate rows.length m := by
      apply List.ext_getElem
      · simp
      · intro i a b
        have := hm i (by simpa using a)
        rw [List.getD_eq_getElem?_getD, List.getElem?_eq_getElem (by simpa using a)] at this
        simpa using this
    rw [this, List.sum_replicate_nat])
  obtain ⟨wd, hwd⟩ : ∃ wd, wdN long k = wd := ⟨_, rfl⟩
  rw [hwd] at hw HW hwl hge hlt hzero
  have HHW := Lib.hid hw
  have hB1 := (Kept.alloc (fun _ => False) w (.cells #[.int .i64 (wd : Int)] 3)).toBelow (Nat.le_refl _) (fun _ h => h.elim)
  have hc1 : (w.alloc (.cells #[.int .i64 (wd : Int)] 3)).cell? ⟨w.heap.size, 0, none⟩ = some (.int .i64 (wd : Int)) := World.cell?_alloc_new w _ _ 0
  have HCT := Lib.hid (jcontains_any _ w.heap.size wd vr rows hc1 (hr.below hB1) (by omega) hw)
  have HCC := Lib.hid (concat_any _ vr rows k wd (hr.below hB1) hk h2 (by omega) hw)
  have HB1 := Lib.hid hB1
  have hs1 : (w.alloc (.cells #[.int .i64 (wd : Int)] 3)).heap.size = w.heap.size + 1 := by simp
  have HFN := Lib.hid (HFL.out wd hw)
  have HZ := Lib.hid hzero
  have HGE := Lib.hid (show long ≤ k * wd by rw [Nat.mul_comm]; exact hge)
  obtain ⟨p, c, rfl⟩ := hr.shape
  rw [hk] at HCT HCC ⊢
  clear hr hw hwd hB1 hc1 hzero hge hlt
  go_enter Tryz.func54, Tryz.ntmps54
  go_wp2_with fail
  refine (HW.out _).mono ?_
  rintro e w' ⟨rfl, rfl⟩
  go_wp2_with fail
  refine HCT.out.mono ?_
  rintro e w' ⟨rfl, rfl⟩
  go_wp2_with fail
  refine HCC.out.mono ?_
  rintro e w2 ⟨v, rfl, ho, hv0, hB2⟩
  have HB2 := Lib.hid (below_more HB1.out hB2 HB1.out.size)
  obtain ⟨pv, cv, rfl⟩ := ho.shape
  by_cases h0 : long = 0
  · have e := hv0 (HZ.out h0)
    rw [e]
    subst h0
    clear ho hv0 hB2 e
    go_wp2
    go_ret2
    exact ⟨_, rfl, .inl (by unfold joinL; rw [List.take_zero]; exact Own.nil _ _), HB2.out⟩
  · have hge := HGE.out
    have hfn := HFN.out
    have HOC := Lib.hid (own_cut (long := long) (ho.weaken (show w.heap.size ≤ _ by rw [hs1]; omega)) rfl (by omega) (by omega))
    have hcap : rows.flatten.length ≤ cv := by
      rcases ho.2 with ⟨e, _⟩ | ⟨g, cap, cur, e, _, _, hn, _⟩
      · have := (Value.slice.inj e).2.1; omega
      · have := (Value.slice.inj e).2.2; omega
    have hlc : long ≤ cv := by omega
    have hpv : ∃ g, pv = some ⟨g, 0, none⟩ := by
      obtain ⟨g, c', e, _⟩ := ho.row (by omega)
      exact ⟨g, (Value.slice.inj e).1⟩
    obtain ⟨g, rfl⟩ := hpv
    obtain ⟨n, hn⟩ : ∃ n, rows.flatten.length = n := ⟨_, rfl⟩
    rw [hn] at hcap ⊢
    have hl0 : 0 < long := by omega
    clear ho hv0 hB2 hge hfn hn
    go_wp2
    all_goals first | (exfalso; omega) | skip
    go_ret2
    exact ⟨_, rfl, HOC.out, HB2.out⟩
end Go.Proofs.YtojbbmfndlcgkaaGreat
