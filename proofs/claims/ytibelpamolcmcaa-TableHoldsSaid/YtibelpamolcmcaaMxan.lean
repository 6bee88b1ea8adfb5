/-
  LayT: Layer 10: tables in memory.
  LayD: Layer 10, walks: widths (the program's, the reference's); whether rows are a table.
  LayE: Layer 10, walks: whether rows are a table (the program's, the reference's).
-/
import Derived.Test.YtibelpamolcmcaaMxam
import Derived.Test.YtibelpamolcmcaaMxad
namespace Go.Proofs.Ytibelpamolcmcaa

section -- LayT
open Go.RowKit Go.Maps
set_option linter.unusedVariables false
set_option maxRecDepth 100000

/-- A table's cells. -/
def tc (t : List (Int × Int)) : List Value := t.flatMap fun r => [.int .i64 r.1, .int .i64 r.2]
theorem tc_app (a b : List (Int × Int)) : tc (a ++ b) = tc a ++ tc b := by simp [tc]
theorem tc_cons (r : Int × Int) (t : List (Int × Int)) : tc (r :: t) = .int .i64 r.1 :: .int .i64 r.2 :: tc t := rfl
theorem tc_len : ∀ t : List (Int × Int), (tc t).length = t.length * 2
  | [] => rfl
  | r :: t => by rw [tc_cons, List.length_cons, List.length_cons, tc_len t, List.length_cons]; omega
theorem tc_get : ∀ {t : List (Int × Int)} {i : Nat}, i < t.length → (tc t)[i * 2]? = some (.int .i64 (t.getD i (0, 0)).1) ∧ (tc t)[i * 2 + 1]? = some (.int .i64 (t.getD i (0, 0)).2)
  | [], i, h => absurd h (by simp)
  | r :: t, 0, h => ⟨rfl, rfl⟩
  | r :: t, i + 1, h => by
    have ih := tc_get (t := t) (i := i) (by simpa using h)
    rw [tc_cons, show (i + 1) * 2 = i * 2 + 1 + 1 by omega, List.getElem?_cons_succ, List.getElem?_cons_succ, show i * 2 + 1 + 1 + 1 = i * 2 + 1 + 1 + 1 from rfl, List.getElem?_cons_succ, List.getElem?_cons_succ]
    simpa using ih
theorem tc_one {t : List (Int × Int)} : ∀ v ∈ tc t, v.oneCell' = true := fun v hv => by
  obtain ⟨r, _, h⟩ := List.mem_flatMap.1 hv
  simp only [List.mem_cons, List.not_mem_nil, or_false] at h
  rcases h with rfl | rfl <;> rfl
theorem row_cellsT {w : World} {base size n : Nat} {e : TypeId} {v : Value} {us : List Value} (h : w.ownsRow base e size v n us) (hn : 0 < n) : ∃ g cap, v = .slice (some ⟨g, 0, none⟩) n cap ∧ n ≤ cap ∧ ∀ j, j < n * size → w.cell? ⟨g, j, none⟩ = us[j]? := by
  obtain ⟨h0, h1⟩ := h
  rcases h1 with ⟨rfl, hz⟩ | ⟨g, cap, cur, rfl, h2, h3, h4, h5, h6, h7⟩
  · omega
  · refine ⟨g, cap, rfl, h4, fun i hi => ?_⟩
    rw [cell_of h3, ← h7, List.getElem?_take, if_pos hi, Array.getElem?_toList]
theorem infoT : (Try.prog.info? 80).map (fun i => (i.zero, i.size, i.bytes)) = some (some (.agg #[.int .i64 0, .int .i64 0]), 2, 16) := by kernel_rfl
/-- A table, wherever it lies. -/
def TableAt (w : World) (v : Value) (t : List (Int × Int)) : Prop := ∃ p cap, v = .slice p t.length cap ∧ t.length ≤ cap ∧ (0 < t.length → ∃ g off, p = some ⟨g, off, none⟩ ∧ ∀ i, i < t.length →
  w.cell? ⟨g, off + i * 2, none⟩ = some (.int .i64 (t.getD i (0, 0)).1) ∧ w.cell? ⟨g, off + i * 2 + 1, none⟩ = some (.int .i64 (t.getD i (0, 0)).2))
section
variable {w w' : World} {v : Value} {t : List (Int × Int)}
theorem TableAt.kept {S : Nat → Prop} (h : TableAt w v t) (hk : Kept S w w') (hS : ∀ k, k < w.heap.size → ¬ S k) : TableAt w' v t := by
  obtain ⟨p, cap, e, hc, hh⟩ := h
  refine ⟨p, cap, e, hc, fun h0 => ?_⟩
  obtain ⟨g, off, e2, hcc⟩ := hh h0
  exact ⟨g, off, e2, fun i hi => ⟨(hk.cell (p := ⟨g, off + i * 2, none⟩) (blt (hcc i hi).1) (hS _ (blt (hcc i hi).1))).trans (hcc i hi).1, (hk.cell (p := ⟨g, off + i * 2 + 1, none⟩) (blt (hcc i hi).2) (hS _ (blt (hcc i hi).2))).trans (hcc i hi).2⟩⟩
theorem TableAt.below (h : TableAt w v t) (hb : Below w.heap.size w w') : TableAt w' v t := h.kept (Kept.below hb) (fun _ _ h => h)
theorem TableAt.keptB {S : Nat → Prop} (h : TableAt w v t) (hk : Kept S w w') (hS : ∀ k, v.ownBlock = some k → ¬ S k) : TableAt w' v t := by
  obtain ⟨p, cap, rfl, hc, hh⟩ := h
  refine ⟨p, cap, rfl, hc, fun h0 => ?_⟩
  obtain ⟨g, off, rfl, hcc⟩ := hh h0
  exact ⟨g, off, rfl, fun i hi => ⟨(hk.cell (p := ⟨g, off + i * 2, none⟩) (blt (hcc i hi).1) (hS _ rfl)).trans (hcc i hi).1, (hk.cell (p := ⟨g, off + i * 2 + 1, none⟩) (blt (hcc i hi).2) (hS _ rfl)).trans (hcc i hi).2⟩⟩
theorem TableAt.of_owns {base : Nat} (h : w.ownsRow base 80 2 v t.length (tc t)) : TableAt w v t := by
  by_cases h0 : 0 < t.length
  · obtain ⟨g, cap, rfl, hcap, hc⟩ := row_cellsT h h0
    refine ⟨_, cap, rfl, hcap, fun _ => ⟨g, 0, rfl, fun i hi => ?_⟩⟩
    obtain ⟨t0, t1⟩ := tc_get hi
    rw [Nat.zero_add]
    exact ⟨(hc _ (by omega)).trans t0, (hc _ (by omega)).trans t1⟩
  · have hl : t.length = 0 := by omega
    rcases h.2 with ⟨rfl, _⟩ | ⟨g, cap, cur, rfl, _, _, hcap, _⟩
    · exact ⟨none, 0, by rw [hl], by omega, fun h => absurd h h0⟩
    · exact ⟨_, cap, rfl, hcap, fun h => absurd h h0⟩
theorem TableAt.shape (h : TableAt w v t) : ∃ p c, v = .slice p t.length c := by
  obtain ⟨p, c, rfl, _⟩ := h
  exact ⟨p, c, rfl⟩
end
end -- LayT

section -- LayD
open Go.RowKit Go.Maps
set_option linter.unusedVariables false
set_option linter.unusedSimpArgs false
set_option maxRecDepth 100000
set_option maxHeartbeats 2000000

theorem width_any (w : World) (long k : Nat) (h1 : long ≤ 65535) (h2 : 1 ≤ k) (h3 : k ≤ 255) :
    Calls Try.prog 69 #[.int .i64 (long : Int), .int .i64 (k : Int)] w fun e w' => e = .returned (.tuple #[.int .i64 ((wdN long k : Nat) : Int), .int .i64 0]) ∧ w = w' := by
  have HW := Lib.hid (show ((long : Int) + (k : Int) - 1).tdiv (k : Int) = ((wdN long k : Nat) : Int) by
    unfold wdN
    rw [show (long : Int) + (k : Int) - 1 = ((long + k - 1 : Nat) : Int) by omega, ← Int.ofNat_tdiv])
  have HW2 := Lib.hid (show ((long : Int) + (k : Int) - 1) / (k : Int) = ((wdN long k : Nat) : Int) by
    unfold wdN
    rw [show (long : Int) + (k : Int) - 1 = ((long + k - 1 : Nat) : Int) by omega, ← Int.natCast_ediv])
  go_enter Try.func69, Try.ntmps69
  go_wp2
  first | rw [HW.out] | rw [HW2.out]
  go_ret2
  exact ⟨rfl, rfl⟩
end -- LayD

section -- LayE
open Go.RowKit Go.Maps
set_option linter.unusedVariables false
set_option linter.unusedSimpArgs false
set_option maxRecDepth 100000
set_option maxHeartbeats 2000000

theorem balT (w : World) (x : Obj) : Below w.heap.size w (w.alloc x) := (Kept.alloc (fun _ => False) w x).toBelow (Nat.le_refl _) (fun _ h => h.elim)
theorem not_table {n : Int} {t : List (Int × Int)} (h : n < 1 ∨ 255 < n ∨ t.length < 1 ∨ 8 < t.length) : decide (TableOk n t) = false := by
  refine decide_eq_false fun h2 => ?_
  obtain ⟨a, b, c, d, _⟩ := h2
  omega
theorem not_row {n : Int} {t : List (Int × Int)} {i : Nat} (hi : i < t.length) (h : ¬ RowOk n (leastT t i) (t.getD i (0, 0))) : decide (TableOk n t) = false := decide_eq_false fun h2 => h (h2.2.2.2.2 i hi)

theorem tright_any (w : World) (n : Int) (v : Value) (t : List (Int × Int)) (hv : TableAt w v t) :
    Calls Try.prog 59 #[.int .i64 n, v] w fun e w' => e = .returned (.bool (decide (TableOk n t))) ∧ Below w.heap.size w w' := by
  obtain ⟨p, cap, rfl, hcap, hh⟩ := hv
  have HH := Lib.hid hh
  have HNT := Lib.hid (fun h => not_table (n := n) (t := t) h)
  have HNR := Lib.hid (fun (i : Nat) (hi : i < t.length) h => not_row (n := n) (t := t) hi h)
  obtain ⟨L, hL⟩ : ∃ L, t.length = L := ⟨_, rfl⟩
  have HL := Lib.hid hL
  rw [hL] at HH HNT HNR hcap ⊢
  clear hh hL
  go_enter Try.func59, Try.ntmps59
  by_cases hn1 : n < 1
  · go_wp2
    go_ret
    exact ⟨by rw [HNT.out (by omega)]; rfl, Below.refl _ _⟩
  by_cases hn2 : 255 < n
  · go_wp2
    go_ret
    exact ⟨by rw [HNT.out (by omega)]; rfl, Below.refl _ _⟩
  by_cases hn3 : L < 1
  · obtain rfl : L = 0 := by omega
    go_wp2
    go_ret
    exact ⟨by rw [HNT.out (by omega)]; rfl, Below.refl _ _⟩
  by_cases hn4 : 8 < L
  · go_wp2
    go_ret
    exact ⟨by rw [HNT.out (by omega)]; rfl, Below.refl _ _⟩
  go_wp2
  go_loopw [5, 7, 26] (fun l _ i wr => ∃ k : Nat, i = .int .i64 (k : Int) ∧ k ≤ L ∧ l = .int .i64 (leastT t k) ∧ RowsOk n t k ∧ Below w.heap.size w wr) (fun _ _ i _ => L - (intOf i).toNat)
  case atStart => exact ⟨0, rfl, by omega, rfl, fun i hi => absurd hi (by omega), Below.refl _ _⟩
  case round =>
    obtain ⟨wo, rfl⟩ : ∃ wo, wo = wr := ⟨_, rfl⟩
    obtain ⟨k, rfl, hk, rfl, hR, hB⟩ := hrel
    have HR := Lib.hid hR
    have HB := Lib.hid hB
    clear hR hB
    by_cases hlt : k < L
    · obtain ⟨g, off, rfl, hc⟩ := HH.out (by omega)
      obtain ⟨d0, d1⟩ := hc k hlt
      have d0 := (HB.out.cell (p := ⟨g, off + k * 2, none⟩) (blt d0)).trans d0
      have d1 := (HB.out.cell (p := ⟨g, off + k * 2 + 1, none⟩) (blt d1)).trans d1
      have HLS := Lib.hid (show leastT t (k + 1) = (t.getD k (0, 0)).1 from rfl)
      obtain ⟨kk, hkk⟩ : ∃ q, (t.getD k (0, 0)).1 = q := ⟨_, rfl⟩
      obtain ⟨ll, hll⟩ : ∃ q, (t.getD k (0, 0)).2 = q := ⟨_, rfl⟩
      obtain ⟨le, hle⟩ : ∃ q, leastT t k = q := ⟨_, rfl⟩
      have HOK := Lib.hid (show RowOk n (leastT t k) (t.getD k (0, 0)) ↔ le ≤ kk ∧ kk ≤ n ∧ 0 ≤ ll ∧ ll ≤ 65535 by unfold RowOk; rw [hkk, hll, hle])
      rw [hkk] at d0 HLS
      rw [hll] at d1
      have HB2 := Lib.hid (show Below w.heap.size w (wo.alloc (.cells #[.int .i64 kk, .int .i64 ll] 80)) from HB.out.alloc HB.out.size _)
      rw [hle]
      clear hc hkk hll hle
      by_cases c1 : kk < le
      · go_wp2
        go_ret
        exact ⟨by rw [HNR.out k hlt (fun h => by have := HOK.out.1 h; omega)]; rfl, HB2.out⟩
      by_cases c2 : n < kk
      · go_wp2
        go_ret
        exact ⟨by rw [HNR.out k hlt (fun h => by have := HOK.out.1 h; omega)]; rfl, HB2.out⟩
      by_cases c3 : ll < 0
      · go_wp2
        go_ret
        exact ⟨by rw [HNR.out k hlt (fun h => by have := HOK.out.1 h; omega)]; rfl, HB2.out⟩
      by_cases c4 : 65535 < ll
      · go_wp2
        go_ret
        exact ⟨by rw [HNR.out k hlt (fun h => by have := HOK.out.1 h; omega)]; rfl, HB2.out⟩
      go_wp2
      go_roundw
      case rel => exact ⟨k + 1, by go_num, by omega, by rw [HLS.out], HR.out.succ (HOK.out.2 (by omega)), HB2.out⟩
      case measure => simp [intOf]; omega
    · obtain rfl : k = L := by omega
      have HD := Lib.hid (show decide (TableOk n t) = true from decide_eq_true ⟨by omega, by omega, by rw [HL.out]; omega, by rw [HL.out]; omega, by rw [HL.out]; exact HR.out⟩)
      go_wp2
      go_ret
      exact ⟨by rw [HD.out]; rfl, HB.out⟩
end -- LayE

end Go.Proofs.Ytibelpamolcmcaa
