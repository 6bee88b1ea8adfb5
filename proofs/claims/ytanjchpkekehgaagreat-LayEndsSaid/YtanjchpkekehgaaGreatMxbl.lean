/-
  Walks of the kit: markRow, LentTable, KeptTable; tables in memory.
-/
import Derived.Test.YtanjchpkekehgaaGreatMxbk
import Derived.Test.YtanjchpkekehgaaGreatMxap
namespace Go.Proofs.YtanjchpkekehgaaGreat
open Go.RowKit Go.Maps
set_option linter.unusedVariables false
set_option linter.unusedSimpArgs false
set_option maxRecDepth 100000
set_option maxHeartbeats 2000000

theorem run_make_tab {w : World} (n : Nat) (hn : n ≤ 1000000000000) :
    ∃ C : Array Value, C.size = n * 2 ∧ (Instr.makeSlice 36 (.int .i64 0) (.int .i64 (n : Int))).run Tryz.prog w = .ok (.slice (some ⟨w.heap.size, 0, none⟩) 0 n) (w.alloc (.cells C 48)) := by
  obtain ⟨i, hi, hz', hsize, hbytes⟩ := info_parts infoT
  have hr := run_make (P := Tryz.prog) w 36 48 i _ Tryz.underlying36 hi hz' .i64 .i64 0 n (Int.le_refl _) (by omega) (by rw [hbytes]; omega) (by omega)
  simp only [Int.toNat_natCast, Int.toNat_zero] at hr
  exact ⟨_, by rw [size_madeCells, hsize], hr⟩

theorem app_tab_many {ops : Array Oper} {rest : List Oper} {o : Oper} {a : Act} {Q : Exit → Act → World → Prop} {W : World}
    (hgd : o.guard = none) (s x : Operand) (ho : o.op = .call { callee := .builtin .append, args := #[s, x], argTypes := #[36, 36] })
    (base n m : Nat) (v : Value) (l1 l2 : List (Int × Int)) (hn : l1.length = n) (hm : l2.length = m) (hown : W.ownsRow base 48 2 v n (tc l1)) (p : Option Addr) (c : Nat)
    (hc : 0 < m → ∃ g off, p = some ⟨g, off, none⟩ ∧ ∀ i, i < m → W.cell? ⟨g, off + i * 2, none⟩ = some (.int .i64 (l2.getD i (0, 0)).1) ∧ W.cell? ⟨g, off + i * 2 + 1, none⟩ = some (.int .i64 (l2.getD i (0, 0)).2))
    (hs : a.eval s = v) (hx : a.eval x = .slice p m c) (hnm : n + m < 1000000000000) (hbase : base ≤ W.heap.size)
    (h : ∀ p' c' w', w'.ownsRow base 48 2 (.slice p' (n + m) c') (n + m) (tc (l1 ++ l2)) → Kept (fun k => v.ownBlock = some k) W w' → (∀ b, (Value.slice p' (n + m) c').ownBlock = some b → v.ownBlock = some b ∨ W.heap.size ≤ b) →
      wpList Tryz.prog ops Q rest (a.put o.dst (.slice p' (n + m) c')) w') : wpList Tryz.prog ops Q (o :: rest) a W := by
  by_cases h0 : m = 0
  · subst h0
    obtain rfl : l2 = [] := List.eq_nil_of_length_eq_zero hm
    have hv : ∃ p' c', v = .slice p' n c' := by
      rcases hown.2 with ⟨rfl, hz⟩ | ⟨g, cap, cur, rfl, _⟩
      · exact ⟨none, 0, by rw [hz]⟩
      · exact ⟨_, cap, rfl⟩
    obtain ⟨p', c', rfl⟩ := hv
    have h1 := h p' c' W (by rw [List.append_nil, Nat.add_zero]; exact hown) (Kept.refl _ _) (fun b hb => .inl hb)
    refine app_none 36 48 2 16 _ Tryz.underlying36 infoT hgd s x ho base n (.slice p' n c') (tc l1) hs hown p c hx ?_
    exact h1
  · obtain ⟨g, off, rfl, hcc⟩ := hc (by omega)
    obtain ⟨i, hi, hz, hsize, hbytes⟩ := info_parts infoT
    have hown' : W.ownsRow base 48 i.size v n (tc l1) := by rw [hsize]; exact hown
    obtain ⟨g', c', w', hr, h2, h3, h4⟩ := run_app (P := Tryz.prog) (w := W) base 36 o.type 48 i _ Tryz.underlying36 hi hz (by rw [hsize]; rfl) v n (tc l1) hown' g off m c (tc l2) (by rw [tc_len, hsize, hm]) (by omega) (fun j u hj => by
        have hjm : j < (tc l2).length := (List.getElem?_eq_some_iff.1 hj).1
        rw [tc_len] at hjm
        rw [add_off]
        by_cases e : j % 2 = 0
        · obtain ⟨q, rfl⟩ : ∃ q, j = q * 2 := ⟨j / 2, by omega⟩
          obtain ⟨c0, _⟩ := hcc q (by omega)
          obtain ⟨t0, _⟩ := tc_get (t := l2) (i := q) (by omega)
          rw [t0] at hj
          rw [c0]; exact hj
        · obtain ⟨q, rfl⟩ : ∃ q, j = q * 2 + 1 := ⟨j / 2, by omega⟩
          obtain ⟨_, c1⟩ := hcc q (by omega)
          obtain ⟨_, t1⟩ := tc_get (t := l2) (i := q) (by omega)
          rw [t1] at hj
          rw [← Nat.add_assoc, c1]; exact hj) (fun v hv => tc_one v hv) (by omega) (by rw [hbytes]; omega) hbase
    rw [hsize, ← tc_app] at h2
    refine wpList_plain hgd fun K hK => ?_
    have h5 := h _ c' w' h2 h3 (fun b hb => by
      have e : g' = b := own_is hb
      subst e
      exact h4)
    unfold Oper.wp execOp
    simp only [ho, resolve, invoke, builtin, Sem.run_bind, Sem.run_pure, Result.andThen_ok, List.map_toArray, List.map_cons, List.map_nil, hs, hx, hr]
    exact hK _ _ h5

theorem markRow_any (w : World) (k i : Nat) (hk : k ≤ 1000000) (hi : i ≤ 1000000) :
    Calls Tryz.prog 36 #[.int .i64 (k : Int), .int .i64 (i : Int)] w fun e w' => e = .returned (.agg #[.int .i64 ((mkN k i : Nat) : Int), .int .i64 0]) ∧ Below w.heap.size w w' := by
  have HM := Lib.hid (mark_any (w.alloc (.cells #[.int .i64 0, .int .i64 0] 48)) k i hk hi)
  have hb := (Kept.alloc (fun _ => False) w (.cells #[.int .i64 0, .int .i64 0] 48)).toBelow (Nat.le_refl _) (fun _ h => h.elim)
  have HB := Lib.hid hb
  have b0 : (w.alloc (.cells #[.int .i64 0, .int .i64 0] 48)).heap[w.heap.size]? = some (.cells #[.int .i64 0, .int .i64 0] 48 (0, 0)) := heap_alloc_new w _
  have c0 := cell_of b0 0
  have c1 := cell_of b0 1
  have f0 := fz_of b0 0
  have f1 := fz_of b0 1
  obtain ⟨x, hx⟩ : ∃ x, mkN k i = x := ⟨_, rfl⟩
  rw [hx] at HM ⊢
  clear hb b0 hx
  go_enter Tryz.func36, Tryz.ntmps36
  go_wp2_with fail
  refine HM.out.mono ?_
  rintro e w' ⟨rfl, rfl⟩
  go_wp2
  have g0 : (w.alloc (.cells #[.int .i64 (x : Int), .int .i64 0] 48)).cell? ⟨w.heap.size, 0, none⟩ = some (.int .i64 (x : Int)) := World.cell?_alloc_new w _ _ 0
  have g1 : (w.alloc (.cells #[.int .i64 (x : Int), .int .i64 0] 48)).cell? ⟨w.heap.size, 1, none⟩ = some (.int .i64 0) := World.cell?_alloc_new w _ _ 1
  refine bodyPost_ret (v := .agg #[.int .i64 (x : Int), .int .i64 0]) ?_ rfl ⟨rfl, (Kept.alloc (fun _ => False) w _).toBelow (Nat.le_refl _) (fun _ h => h.elim)⟩
  simp [results, Tryz.f36, go_sem, g0, g1]

/-- The marks behind a table that is lent. -/
def behindT (m : Nat) : List (Int × Int) := (List.range m).map fun i => (((mkN 1 i : Nat) : Int), 0)
theorem behindT_len (m : Nat) : (behindT m).length = m := by simp [behindT]
theorem behindT_succ (m : Nat) : behindT (m + 1) = behindT m ++ [(((mkN 1 m : Nat) : Int), 0)] := by simp [behindT, List.range_succ]

def TabLentAt (w : World) (base : Nat) (v : Value) (xs : List (Int × Int)) : Prop := ∃ g c, v = .slice (some ⟨g, 0, none⟩) xs.length c ∧ w.ownsRow base 48 2 (.slice (some ⟨g, 0, none⟩) (xs.length + 12) c) (xs.length + 12) (tc (xs ++ behindT 12))
section
variable {w w' : World} {base : Nat} {v : Value} {xs : List (Int × Int)}
theorem TabLentAt.cells (h : TabLentAt w base v xs) : ∃ g c, v = .slice (some ⟨g, 0, none⟩) xs.length c ∧ xs.length + 12 ≤ c ∧ g < w.heap.size ∧ ∀ i, i < xs.length + 12 → w.cell? ⟨g, i * 2, none⟩ = some (.int .i64 ((xs ++ behindT 12).getD i (0, 0)).1) ∧ w.cell? ⟨g, i * 2 + 1, none⟩ = some (.int .i64 ((xs ++ behindT 12).getD i (0, 0)).2) := by
  obtain ⟨g, c, rfl, h0, h1⟩ := h
  rcases h1 with ⟨e, hz⟩ | ⟨g', cap, cur, e, h2, h3, h4, h5, h6, h7⟩
  · cases e
  · simp only [Value.slice.injEq, Option.some.injEq, Addr.mk.injEq, true_and] at e
    obtain ⟨⟨rfl, _⟩, rfl⟩ := e
    refine ⟨g, c, rfl, h4, (Array.getElem?_eq_some_iff.1 h3).1, fun i hi => ?_⟩
    have hl : i < (xs ++ behindT 12).length := by rw [List.length_append, behindT_len]; exact hi
    obtain ⟨t0, t1⟩ := tc_get hl
    rw [← h7, List.getElem?_take, if_pos (by omega), Array.getElem?_toList] at t0 t1
    rw [cell_of h3, cell_of h3, t0, t1]
    exact ⟨rfl, rfl⟩
theorem TabLentAt.blk (h : TabLentAt w base v xs) : ∀ b, v.ownBlock = some b → base ≤ b ∧ b < w.heap.size := by
  obtain ⟨g, c, rfl, ho⟩ := h
  exact fun b hb => ho.lt b (by rw [← hb]; rfl)
theorem TabLentAt.kept {S : Nat → Prop} (h : TabLentAt w base v xs) (hk : Kept S w w') (hS : ∀ b, v.ownBlock = some b → ¬ S b) : TabLentAt w' base v xs := by
  obtain ⟨g, c, rfl, ho⟩ := h
  exact ⟨g, c, rfl, ownsRow_keptS ho hk (fun b hb => hS b (by rw [← hb]; rfl))⟩
theorem TabLentAt.below (h : TabLentAt w base v xs) (hb : Below w.heap.size w w') : TabLentAt w' base v xs := h.kept (Kept.below hb) (fun _ _ h => h)
theorem TabLentAt.tab (h : TabLentAt w base v xs) : TableAt w v xs := by
  obtain ⟨g, c, rfl, h1, h2, h3⟩ := h.cells
  refine ⟨_, c, rfl, by omega, fun h0 => ⟨g, 0, rfl, fun i hi => ?_⟩⟩
  rw [Nat.zero_add]
  have := h3 i (by omega)
  rw [List.getD_eq_getElem?_getD, List.getElem?_append_left hi, ← List.getD_eq_getElem?_getD] at this
  exact this
end

theorem lentT_any (w : World) (v : Value) (xs : List (Int × Int)) (hv : TableAt w v xs) (hl : xs.length ≤ 1000000) :
    Calls Tryz.prog 17 #[v] w fun e w' => ∃ v', e = .returned v' ∧ TabLentAt w' w.heap.size v' xs ∧ Below w.heap.size w w' := by
  obtain ⟨p, c, rfl, hcap0, hh⟩ := hv
  have HH := Lib.hid hh
  obtain ⟨n, hn⟩ : ∃ n, xs.length = n := ⟨_, rfl⟩
  rw [hn] at HH hl hcap0 ⊢
  have HN := Lib.hid hn
  obtain ⟨C, hC, hmk⟩ := run_make_tab (w := w) (n + 12) (by omega)
  rw [show ((n + 12 : Nat) : Int) = (n : Int) + 12 by omega] at hmk
  have HO := Lib.hid (show (w.alloc (.cells C 48)).ownsRow w.heap.size 48 2 (.slice (some ⟨w.heap.size, 0, none⟩) 0 (n + 12)) 0 (tc []) from ⟨rfl, .inr ⟨w.heap.size, n + 12, _, rfl, Nat.le_refl _, heap_alloc_new w _, by omega, by unfold maxLen; omega, hC, by simp [tc]⟩⟩)
  have HA := Lib.hid (bal' w (.cells C 48))
  have HSA := Lib.hid (show (w.alloc (.cells C 48)).heap.size = w.heap.size + 1 by simp)
  have HC := Lib.hid (show 0 < n → ∃ g off, p = some ⟨g, off, none⟩ ∧ ∀ i, i < n → (w.alloc (.cells C 48)).cell? ⟨g, off + i * 2, none⟩ = some (.int .i64 (xs.getD i (0, 0)).1) ∧ (w.alloc (.cells C 48)).cell? ⟨g, off + i * 2 + 1, none⟩ = some (.int .i64 (xs.getD i (0, 0)).2) from fun h0 => by
    obtain ⟨g, off, e, hc⟩ := HH.out h0
    exact ⟨g, off, e, fun i hi => ⟨(HA.out.cell (p := ⟨g, off + i * 2, none⟩) (blt (hc i hi).1)).trans (hc i hi).1, (HA.out.cell (p := ⟨g, off + i * 2 + 1, none⟩) (blt (hc i hi).2)).trans (hc i hi).2⟩⟩)
  clear hh hn
  go_enter Tryz.func17, Tryz.ntmps17
  go_wp2_with (at_builtin; refine app_tab_many rfl _ _ rfl w.heap.size 0 n _ [] xs rfl HN.out HO.out p _ HC.out rfl rfl (by omega) (by rw [HSA.out]; omega) ?_; intro p6 c6 w6 hR6 hk6 hg6)
  have HO6 := Lib.hid hR6
  have HB6 := Lib.hid (HA.out.trans ⟨hk6.os, hk6.tape, hk6.output, hk6.size, fun i hi => hk6.block i (by rw [HSA.out]; omega) (fun e => by have e2 : w.heap.size = i := own_is e; omega)⟩)
  clear hR6 hk6 hg6 hmk hC
  go_loopw [3, 4] (fun v i wr => ∃ k : Nat, k ≤ 12 ∧ i = .int .i64 (k : Int) ∧ wr.ownsRow w.heap.size 48 2 v (n + k) (tc (xs ++ behindT k)) ∧ Below w.heap.size w wr) (fun _ i _ => 12 - (intOf i).toNat)
  case atStart => exact ⟨0, by omega, rfl, by have h := HO6.out; rw [Nat.zero_add] at h; rw [show behindT 0 = [] from rfl, List.append_nil]; exact h, HB6.out⟩
  case round =>
    obtain ⟨k, hk, rfl, ho, hB⟩ := hrel
    have HOV := Lib.hid ho
    have HBR := Lib.hid hB
    have hsr := hB.size
    by_cases hlt : k < 12
    · have HS := Lib.hid (show tc (xs ++ behindT k) ++ [.int .i64 ((mkN 1 k : Nat) : Int), .int .i64 0] = tc (xs ++ behindT (k + 1)) by rw [behindT_succ, ← List.append_assoc, tc_app (xs ++ behindT k)]; rfl)
      have HM := Lib.hid (markRow_any wr 1 k (by omega) (by omega))
      obtain ⟨y, hy⟩ : ∃ y, mkN 1 k = y := ⟨_, rfl⟩
      rw [hy] at HM HS
      clear ho hB hy
      go_wp2_with fail
      refine HM.out.mono ?_
      rintro e w5 ⟨rfl, hb5⟩
      have HOV5 := Lib.hid (ownsRow_keptS HOV.out (Kept.below hb5) (fun _ _ h => h))
      have HBR5 := Lib.hid (below_more HBR.out hb5 hsr)
      have hsr5 := HBR5.out.size
      clear hb5
      go_wp2_with (at_builtin; refine app_el 36 48 2 16 _ Tryz.underlying36 infoT rfl (by decide) rfl _ _ rfl w.heap.size (n + k) _ _ rfl HOV5.out [.int .i64 (y : Int), .int .i64 0] rfl (by simp [Value.oneCell']) rfl (by omega) hsr5 ?_; intro g' c' w6 hR6 hk6 hs6 hg6)
      go_roundw
      case rel =>
        refine ⟨k + 1, by omega, by go_num, by rw [← HS.out]; exact hR6, HBR5.out.trans (hk6.toBelow hsr5 (fun i hi => (HOV5.out.lt i hi).1))⟩
      case measure => simp [intOf]; omega
    · obtain rfl : k = 12 := by omega
      have ho2 := ho.2
      rcases ho2 with ⟨e, hz⟩ | ⟨g, cv, cur, e, hg, h3, h4, h5, h6, h7⟩
      · omega
      · subst e
        have HF := Lib.hid (show TabLentAt wr w.heap.size (.slice (some ⟨g, 0, none⟩) n cv) xs from ⟨g, cv, by rw [HN.out], by rw [HN.out]; exact HOV.out⟩)
        clear ho hB h3 h5 h6 h7
        go_wp2
        go_ret
        exact ⟨_, rfl, HF.out, HBR.out⟩

end Go.Proofs.YtanjchpkekehgaaGreat
