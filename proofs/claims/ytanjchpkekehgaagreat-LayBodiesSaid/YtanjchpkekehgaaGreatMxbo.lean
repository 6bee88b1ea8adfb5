/-
  LayL: Walks of the kit: KeptTable.
  LayX: LayTables: the walk.
  CodeOp: What came in: slices of bytes, rows, held symbols; their bounds.
  LayOp: What came in: tables, numbers.
-/
import Derived.Test.YtanjchpkekehgaaGreatMxbn
import Derived.Test.YtanjchpkekehgaaGreatMxbe
import Derived.Test.YtanjchpkekehgaaGreatMxas
import Derived.Test.YtanjchpkekehgaaGreatMxbh
import Derived.Test.YtanjchpkekehgaaGreatMxaq
import Derived.ProofKit
import Derived.OpenShut
import Derived.Deep.SlicePairs
import Derived.SizedLaws
namespace Go.Proofs.YtanjchpkekehgaaGreat

section -- LayL
open Go.RowKit Go.Maps
set_option linter.unusedVariables false
set_option linter.unusedSimpArgs false
set_option maxRecDepth 100000
set_option maxHeartbeats 2000000

theorem keptT_any (w : World) (va vb : Value) (l : List (Int × Int)) (base : Nat) (ha : TabLentAt w base va l) (hb : TableAt w vb l) (hl : l.length ≤ 1000000) :
    Calls Tryz.prog 22 #[va, vb] w fun e w' => e = .returned (.bool true) ∧ Below w.heap.size w w' := by
  obtain ⟨ga, ca, rfl, hcap, hgl, hrow⟩ := ha.cells
  obtain ⟨pb, cb, rfl, hcb0, hhb⟩ := hb
  have HHB := Lib.hid hhb
  have hlen : (l ++ behindT 12).length = l.length + 12 := by rw [List.length_append, behindT_len]
  have HLEN := Lib.hid hlen
  have HRW := Lib.hid hrow
  have HLo := Lib.hid (show ∀ i, i < l.length → (l ++ behindT 12).getD i (0, 0) = l.getD i (0, 0) from fun i hi => by
    rw [List.getD_eq_getElem?_getD, List.getD_eq_getElem?_getD, List.getElem?_append_left hi])
  have HHi := Lib.hid (show ∀ j, j < 12 → (l ++ behindT 12).getD (l.length + j) (0, 0) = (((mkN 1 j : Nat) : Int), 0) from fun j hj => by
    rw [List.getD_eq_getElem?_getD, List.getElem?_append_right (by omega), show l.length + j - l.length = j by omega, ← List.getD_eq_getElem?_getD]
    exact getD_range _ _ hj)
  obtain ⟨n, hn⟩ : ∃ n, l.length = n := ⟨_, rfl⟩
  rw [hn] at HHB hcap HLo HHi hl HLEN HRW hcb0 ⊢
  clear hhb hrow hlen hn ha
  go_enter Tryz.func22, Tryz.ntmps22
  go_wp2
  go_loopw [6] (fun i wr => ∃ (k : Nat), k ≤ n + 12 ∧ i = .int .i64 (k : Int) ∧ Below w.heap.size w wr) (fun i _ => n + 12 - (intOf i).toNat)
  case atStart => exact ⟨0, by omega, rfl, Below.refl _ _⟩
  case round =>
    obtain ⟨wo, rfl⟩ : ∃ wo, wo = wr := ⟨_, rfl⟩
    obtain ⟨k, hk, rfl, hB⟩ := hrel
    have HB := Lib.hid hB
    clear hB
    by_cases hlt : k < n + 12
    · obtain ⟨d1, d3⟩ := HRW.out k hlt
      by_cases h1 : k < n
      · obtain ⟨gb, ob, rfl, hcb⟩ := HHB.out (by omega)
        obtain ⟨d2, d4⟩ := hcb k h1
        rw [HLo.out k h1] at d1 d3
        obtain ⟨x, hx⟩ : ∃ x, l.getD k (0, 0) = x := ⟨_, rfl⟩
        rw [hx] at d1 d2 d3 d4
        obtain ⟨x0, x1⟩ := x
        dsimp only at d1 d2 d3 d4
        have hk2 : ¬ n ≤ k := by omega
        have hk3 : ¬ (n : Int) ≤ (k : Int) := by omega
        have HD := Lib.hid (show Below w.heap.size w wo.drew from below_more HB.out (balD wo 1) HB.out.size)
        clear hcb hx
        go_wp2_with fail
        refine s_start 35 (fun W => Below w.heap.size w W) (by as_aux_lemma => kernel_rfl) (by as_aux_lemma => kernel_rfl) HD.out ?_
        refine s_take 0 (by as_aux_lemma => kernel_rfl) (by as_aux_lemma => kernel_rfl) (by as_aux_lemma => kernel_rfl) (by as_aux_lemma => kernel_rfl) HD.out (fun oi ho => ?_)
        simp only [List.getElem?_toArray, List.getElem?_cons_succ, List.getElem?_cons_zero, Option.some.injEq] at ho
        subst ho
        refine ⟨?_, Or.inl ⟨by rfl, fun w _ => ?_⟩, ?_⟩
        rotate_left
        · (go_simp <;> with_reducible rfl)
        try simp only [Act.put, List.setIfInBounds_toArray, List.set_cons_zero, List.set_cons_succ]
        refine s_take 1 (by as_aux_lemma => kernel_rfl) (by as_aux_lemma => kernel_rfl) (by as_aux_lemma => kernel_rfl) (by as_aux_lemma => kernel_rfl) HD.out (fun oi ho => ?_)
        simp only [List.getElem?_toArray, List.getElem?_cons_succ, List.getElem?_cons_zero, Option.some.injEq] at ho
        subst ho
        refine ⟨?_, Or.inl ⟨by rfl, fun w _ => ?_⟩, ?_⟩
        rotate_left
        · (go_simp <;> with_reducible rfl)
        try simp only [Act.put, List.setIfInBounds_toArray, List.set_cons_zero, List.set_cons_succ]
        refine s_take 2 (by as_aux_lemma => kernel_rfl) (by as_aux_lemma => kernel_rfl) (by as_aux_lemma => kernel_rfl) (by as_aux_lemma => kernel_rfl) HD.out (fun oi ho => ?_)
        simp only [List.getElem?_toArray, List.getElem?_cons_succ, List.getElem?_cons_zero, Option.some.injEq] at ho
        subst ho
        refine ⟨?_, Or.inl ⟨by rfl, fun w _ => ?_⟩, ?_⟩
        rotate_left
        · (go_simp <;> with_reducible rfl)
        try simp only [Act.put, List.setIfInBounds_toArray, List.set_cons_zero, List.set_cons_succ]
        refine s_take 3 (by as_aux_lemma => kernel_rfl) (by as_aux_lemma => kernel_rfl) (by as_aux_lemma => kernel_rfl) (by as_aux_lemma => kernel_rfl) HD.out (fun oi ho => ?_)
        simp only [List.getElem?_toArray, List.getElem?_cons_succ, List.getElem?_cons_zero, Option.some.injEq] at ho
        subst ho
        refine ⟨?_, Or.inl ⟨by rfl, fun w _ => ?_⟩, ?_⟩
        rotate_left
        · (go_simp <;> with_reducible rfl)
        try simp only [Act.put, List.setIfInBounds_toArray, List.set_cons_zero, List.set_cons_succ]
        refine s_take 4 (by as_aux_lemma => kernel_rfl) (by as_aux_lemma => kernel_rfl) (by as_aux_lemma => kernel_rfl) (by as_aux_lemma => kernel_rfl) HD.out (fun oi ho => ?_)
        simp only [List.getElem?_toArray, List.getElem?_cons_succ, List.getElem?_cons_zero, Option.some.injEq] at ho
        subst ho
        refine ⟨?_, Or.inl ⟨by rfl, fun w _ => ?_⟩, ?_⟩
        rotate_left
        · (go_simp <;> with_reducible rfl)
        try simp only [Act.put, List.setIfInBounds_toArray, List.set_cons_zero, List.set_cons_succ]
        refine s_take 5 (by as_aux_lemma => kernel_rfl) (by as_aux_lemma => kernel_rfl) (by as_aux_lemma => kernel_rfl) (by as_aux_lemma => kernel_rfl) HD.out (fun oi ho => ?_)
        simp only [List.getElem?_toArray, List.getElem?_cons_succ, List.getElem?_cons_zero, Option.some.injEq] at ho
        subst ho
        refine ⟨?_, Or.inl ⟨by rfl, fun w _ => ?_⟩, ?_⟩
        rotate_left
        · (go_simp <;> with_reducible rfl)
        try simp only [Act.put, List.setIfInBounds_toArray, List.set_cons_zero, List.set_cons_succ]
        refine s_take 6 (by as_aux_lemma => kernel_rfl) (by as_aux_lemma => kernel_rfl) (by as_aux_lemma => kernel_rfl) (by as_aux_lemma => kernel_rfl) HD.out (fun oi ho => ?_)
        simp only [List.getElem?_toArray, List.getElem?_cons_succ, List.getElem?_cons_zero, Option.some.injEq] at ho
        subst ho
        refine ⟨?_, Or.inl ⟨by rfl, fun w _ => ?_⟩, ?_⟩
        rotate_left
        · (go_simp <;> with_reducible rfl)
        try simp only [Act.put, List.setIfInBounds_toArray, List.set_cons_zero, List.set_cons_succ]
        refine s_take 7 (by as_aux_lemma => kernel_rfl) (by as_aux_lemma => kernel_rfl) (by as_aux_lemma => kernel_rfl) (by as_aux_lemma => kernel_rfl) HD.out (fun oi ho => ?_)
        simp only [List.getElem?_toArray, List.getElem?_cons_succ, List.getElem?_cons_zero, Option.some.injEq] at ho
        subst ho
        refine ⟨?_, Or.inl ⟨by rfl, fun w _ => ?_⟩, ?_⟩
        rotate_left
        · (go_simp <;> with_reducible rfl)
        try simp only [Act.put, List.setIfInBounds_toArray, List.set_cons_zero, List.set_cons_succ]
        refine s_take 8 (by as_aux_lemma => kernel_rfl) (by as_aux_lemma => kernel_rfl) (by as_aux_lemma => kernel_rfl) (by as_aux_lemma => kernel_rfl) HD.out (fun oi ho => ?_)
        simp only [List.getElem?_toArray, List.getElem?_cons_succ, List.getElem?_cons_zero, Option.some.injEq] at ho
        subst ho
        refine ⟨.agg #[.int .i64 x0, .int .i64 x1], Or.inl ⟨by rfl, fun w' hS' => ?_⟩, ?_⟩
        · have z1 := (hS'.cell (p := ⟨ga, k * 2, none⟩) (blt d1)).trans d1
          have z3 := (hS'.cell (p := ⟨ga, k * 2 + 1, none⟩) (blt d3)).trans d3
          (go_simp <;> with_reducible rfl)
        try simp only [Act.put, List.setIfInBounds_toArray, List.set_cons_zero, List.set_cons_succ]
        refine s_take 9 (by as_aux_lemma => kernel_rfl) (by as_aux_lemma => kernel_rfl) (by as_aux_lemma => kernel_rfl) (by as_aux_lemma => kernel_rfl) HD.out (fun oi ho => ?_)
        simp only [List.getElem?_toArray, List.getElem?_cons_succ, List.getElem?_cons_zero, Option.some.injEq] at ho
        subst ho
        refine ⟨?_, Or.inl ⟨by rfl, fun w _ => ?_⟩, ?_⟩
        rotate_left
        · (go_simp <;> with_reducible rfl)
        try simp only [Act.put, List.setIfInBounds_toArray, List.set_cons_zero, List.set_cons_succ]
        refine s_take 10 (by as_aux_lemma => kernel_rfl) (by as_aux_lemma => kernel_rfl) (by as_aux_lemma => kernel_rfl) (by as_aux_lemma => kernel_rfl) HD.out (fun oi ho => ?_)
        simp only [List.getElem?_toArray, List.getElem?_cons_succ, List.getElem?_cons_zero, Option.some.injEq] at ho
        subst ho
        refine ⟨?_, Or.inl ⟨by rfl, fun w _ => ?_⟩, ?_⟩
        rotate_left
        · (go_simp <;> with_reducible rfl)
        try simp only [Act.put, List.setIfInBounds_toArray, List.set_cons_zero, List.set_cons_succ]
        refine s_take 11 (by as_aux_lemma => kernel_rfl) (by as_aux_lemma => kernel_rfl) (by as_aux_lemma => kernel_rfl) (by as_aux_lemma => kernel_rfl) HD.out (fun oi ho => ?_)
        simp only [List.getElem?_toArray, List.getElem?_cons_succ, List.getElem?_cons_zero, Option.some.injEq] at ho
        subst ho
        refine ⟨?_, Or.inl ⟨by rfl, fun w _ => ?_⟩, ?_⟩
        rotate_left
        · (go_simp <;> with_reducible rfl)
        try simp only [Act.put, List.setIfInBounds_toArray, List.set_cons_zero, List.set_cons_succ]
        refine s_take 12 (by as_aux_lemma => kernel_rfl) (by as_aux_lemma => kernel_rfl) (by as_aux_lemma => kernel_rfl) (by as_aux_lemma => kernel_rfl) HD.out (fun oi ho => ?_)
        simp only [List.getElem?_toArray, List.getElem?_cons_succ, List.getElem?_cons_zero, Option.some.injEq] at ho
        subst ho
        refine ⟨.agg #[.int .i64 x0, .int .i64 x1], Or.inl ⟨by rfl, fun w' hS' => ?_⟩, ?_⟩
        · have z2 := (hS'.cell (p := ⟨gb, ob + k * 2, none⟩) (blt d2)).trans d2
          have z4 := (hS'.cell (p := ⟨gb, ob + k * 2 + 1, none⟩) (blt d4)).trans d4
          (go_simp <;> with_reducible rfl)
        try simp only [Act.put, List.setIfInBounds_toArray, List.set_cons_zero, List.set_cons_succ]
        refine s_take 13 (by as_aux_lemma => kernel_rfl) (by as_aux_lemma => kernel_rfl) (by as_aux_lemma => kernel_rfl) (by as_aux_lemma => kernel_rfl) HD.out (fun oi ho => ?_)
        simp only [List.getElem?_toArray, List.getElem?_cons_succ, List.getElem?_cons_zero, Option.some.injEq] at ho
        subst ho
        refine ⟨?_, Or.inl ⟨by rfl, fun w _ => ?_⟩, ?_⟩
        rotate_left
        · (go_simp <;> with_reducible rfl)
        try simp only [Act.put, List.setIfInBounds_toArray, List.set_cons_zero, List.set_cons_succ]
        refine s_take 14 (by as_aux_lemma => kernel_rfl) (by as_aux_lemma => kernel_rfl) (by as_aux_lemma => kernel_rfl) (by as_aux_lemma => kernel_rfl) HD.out (fun oi ho => ?_)
        simp only [List.getElem?_toArray, List.getElem?_cons_succ, List.getElem?_cons_zero, Option.some.injEq] at ho
        subst ho
        refine ⟨?_, Or.inl ⟨by rfl, fun w _ => ?_⟩, ?_⟩
        rotate_left
        · (go_simp <;> with_reducible rfl)
        try simp only [Act.put, List.setIfInBounds_toArray, List.set_cons_zero, List.set_cons_succ]
        refine s_take 15 (by as_aux_lemma => kernel_rfl) (by as_aux_lemma => kernel_rfl) (by as_aux_lemma => kernel_rfl) (by as_aux_lemma => kernel_rfl) HD.out (fun oi ho => ?_)
        simp only [List.getElem?_toArray, List.getElem?_cons_succ, List.getElem?_cons_zero, Option.some.injEq] at ho
        subst ho
        refine ⟨?_, Or.inl ⟨by rfl, fun w _ => ?_⟩, ?_⟩
        rotate_left
        · (go_simp <;> with_reducible rfl)
        try simp only [Act.put, List.setIfInBounds_toArray, List.set_cons_zero, List.set_cons_succ]
        refine s_take 16 (by as_aux_lemma => kernel_rfl) (by as_aux_lemma => kernel_rfl) (by as_aux_lemma => kernel_rfl) (by as_aux_lemma => kernel_rfl) HD.out (fun oi ho => ?_)
        simp only [List.getElem?_toArray, List.getElem?_cons_succ, List.getElem?_cons_zero, Option.some.injEq] at ho
        subst ho
        refine ⟨?_, Or.inl ⟨by rfl, fun w _ => ?_⟩, ?_⟩
        rotate_left
        · (go_simp <;> with_reducible rfl)
        try simp only [Act.put, List.setIfInBounds_toArray, List.set_cons_zero, List.set_cons_succ]
        refine s_take 17 (by as_aux_lemma => kernel_rfl) (by as_aux_lemma => kernel_rfl) (by as_aux_lemma => kernel_rfl) (by as_aux_lemma => kernel_rfl) HD.out (fun oi ho => ?_)
        simp only [List.getElem?_toArray, List.getElem?_cons_succ, List.getElem?_cons_zero, Option.some.injEq] at ho
        subst ho
        refine ⟨?_, Or.inl ⟨by rfl, fun w _ => ?_⟩, ?_⟩
        rotate_left
        · (go_simp <;> with_reducible rfl)
        try simp only [Act.put, List.setIfInBounds_toArray, List.set_cons_zero, List.set_cons_succ]
        refine s_take 18 (by as_aux_lemma => kernel_rfl) (by as_aux_lemma => kernel_rfl) (by as_aux_lemma => kernel_rfl) (by as_aux_lemma => kernel_rfl) HD.out (fun oi ho => ?_)
        simp only [List.getElem?_toArray, List.getElem?_cons_succ, List.getElem?_cons_zero, Option.some.injEq] at ho
        subst ho
        refine ⟨?_, Or.inl ⟨by rfl, fun w _ => ?_⟩, ?_⟩
        rotate_left
        · (go_simp <;> with_reducible rfl)
        try simp only [Act.put, List.setIfInBounds_toArray, List.set_cons_zero, List.set_cons_succ]
        refine s_take 19 (by as_aux_lemma => kernel_rfl) (by as_aux_lemma => kernel_rfl) (by as_aux_lemma => kernel_rfl) (by as_aux_lemma => kernel_rfl) HD.out (fun oi ho => ?_)
        simp only [List.getElem?_toArray, List.getElem?_cons_succ, List.getElem?_cons_zero, Option.some.injEq] at ho
        subst ho
        refine ⟨?_, Or.inl ⟨by rfl, fun w _ => ?_⟩, ?_⟩
        rotate_left
        · (go_simp <;> with_reducible rfl)
        try simp only [Act.put, List.setIfInBounds_toArray, List.set_cons_zero, List.set_cons_succ]
        refine s_take 20 (by as_aux_lemma => kernel_rfl) (by as_aux_lemma => kernel_rfl) (by as_aux_lemma => kernel_rfl) (by as_aux_lemma => kernel_rfl) HD.out (fun oi ho => ?_)
        simp only [List.getElem?_toArray, List.getElem?_cons_succ, List.getElem?_cons_zero, Option.some.injEq] at ho
        subst ho
        refine ⟨?_, Or.inl ⟨by rfl, fun w _ => ?_⟩, ?_⟩
        rotate_left
        · (go_simp <;> with_reducible rfl)
        try simp only [Act.put, List.setIfInBounds_toArray, List.set_cons_zero, List.set_cons_succ]
        refine s_take 21 (by as_aux_lemma => kernel_rfl) (by as_aux_lemma => kernel_rfl) (by as_aux_lemma => kernel_rfl) (by as_aux_lemma => kernel_rfl) HD.out (fun oi ho => ?_)
        simp only [List.getElem?_toArray, List.getElem?_cons_succ, List.getElem?_cons_zero, Option.some.injEq] at ho
        subst ho
        refine ⟨?_, Or.inl ⟨by rfl, fun w _ => ?_⟩, ?_⟩
        rotate_left
        · (go_simp <;> with_reducible rfl)
        try simp only [Act.put, List.setIfInBounds_toArray, List.set_cons_zero, List.set_cons_succ]
        refine s_take 22 (by as_aux_lemma => kernel_rfl) (by as_aux_lemma => kernel_rfl) (by as_aux_lemma => kernel_rfl) (by as_aux_lemma => kernel_rfl) HD.out (fun oi ho => ?_)
        simp only [List.getElem?_toArray, List.getElem?_cons_succ, List.getElem?_cons_zero, Option.some.injEq] at ho
        subst ho
        refine ⟨undef, Or.inr ⟨by rfl, rfl⟩, ?_⟩
        try simp only [Act.put, List.setIfInBounds_toArray, List.set_cons_zero, List.set_cons_succ]
        refine s_take 23 (by as_aux_lemma => kernel_rfl) (by as_aux_lemma => kernel_rfl) (by as_aux_lemma => kernel_rfl) (by as_aux_lemma => kernel_rfl) HD.out (fun oi ho => ?_)
        simp only [List.getElem?_toArray, List.getElem?_cons_succ, List.getElem?_cons_zero, Option.some.injEq] at ho
        subst ho
        refine ⟨undef, Or.inr ⟨by rfl, rfl⟩, ?_⟩
        try simp only [Act.put, List.setIfInBounds_toArray, List.set_cons_zero, List.set_cons_succ]
        refine s_take 24 (by as_aux_lemma => kernel_rfl) (by as_aux_lemma => kernel_rfl) (by as_aux_lemma => kernel_rfl) (by as_aux_lemma => kernel_rfl) HD.out (fun oi ho => ?_)
        simp only [List.getElem?_toArray, List.getElem?_cons_succ, List.getElem?_cons_zero, Option.some.injEq] at ho
        subst ho
        refine ⟨undef, Or.inr ⟨by rfl, rfl⟩, ?_⟩
        try simp only [Act.put, List.setIfInBounds_toArray, List.set_cons_zero, List.set_cons_succ]
        refine s_take 25 (by as_aux_lemma => kernel_rfl) (by as_aux_lemma => kernel_rfl) (by as_aux_lemma => kernel_rfl) (by as_aux_lemma => kernel_rfl) HD.out (fun oi ho => ?_)
        simp only [List.getElem?_toArray, List.getElem?_cons_succ, List.getElem?_cons_zero, Option.some.injEq] at ho
        subst ho
        refine ⟨undef, Or.inr ⟨by rfl, rfl⟩, ?_⟩
        try simp only [Act.put, List.setIfInBounds_toArray, List.set_cons_zero, List.set_cons_succ]
        refine s_take 26 (by as_aux_lemma => kernel_rfl) (by as_aux_lemma => kernel_rfl) (by as_aux_lemma => kernel_rfl) (by as_aux_lemma => kernel_rfl) HD.out (fun oi ho => ?_)
        simp only [List.getElem?_toArray, List.getElem?_cons_succ, List.getElem?_cons_zero, Option.some.injEq] at ho
        subst ho
        refine ⟨undef, Or.inr ⟨by rfl, rfl⟩, ?_⟩
        try simp only [Act.put, List.setIfInBounds_toArray, List.set_cons_zero, List.set_cons_succ]
        refine s_take 27 (by as_aux_lemma => kernel_rfl) (by as_aux_lemma => kernel_rfl) (by as_aux_lemma => kernel_rfl) (by as_aux_lemma => kernel_rfl) HD.out (fun oi ho => ?_)
        simp only [List.getElem?_toArray, List.getElem?_cons_succ, List.getElem?_cons_zero, Option.some.injEq] at ho
        subst ho
        refine ⟨undef, Or.inr ⟨by rfl, rfl⟩, ?_⟩
        try simp only [Act.put, List.setIfInBounds_toArray, List.set_cons_zero, List.set_cons_succ]
        refine s_take 28 (by as_aux_lemma => kernel_rfl) (by as_aux_lemma => kernel_rfl) (by as_aux_lemma => kernel_rfl) (by as_aux_lemma => kernel_rfl) HD.out (fun oi ho => ?_)
        simp only [List.getElem?_toArray, List.getElem?_cons_succ, List.getElem?_cons_zero, Option.some.injEq] at ho
        subst ho
        refine ⟨undef, Or.inr ⟨by rfl, rfl⟩, ?_⟩
        try simp only [Act.put, List.setIfInBounds_toArray, List.set_cons_zero, List.set_cons_succ]
        refine s_take 29 (by as_aux_lemma => kernel_rfl) (by as_aux_lemma => kernel_rfl) (by as_aux_lemma => kernel_rfl) (by as_aux_lemma => kernel_rfl) HD.out (fun oi ho => ?_)
        simp only [List.getElem?_toArray, List.getElem?_cons_succ, List.getElem?_cons_zero, Option.some.injEq] at ho
        subst ho
        refine ⟨undef, Or.inr ⟨by rfl, rfl⟩, ?_⟩
        try simp only [Act.put, List.setIfInBounds_toArray, List.set_cons_zero, List.set_cons_succ]
        refine s_take 30 (by as_aux_lemma => kernel_rfl) (by as_aux_lemma => kernel_rfl) (by as_aux_lemma => kernel_rfl) (by as_aux_lemma => kernel_rfl) HD.out (fun oi ho => ?_)
        simp only [List.getElem?_toArray, List.getElem?_cons_succ, List.getElem?_cons_zero, Option.some.injEq] at ho
        subst ho
        refine ⟨undef, Or.inr ⟨by rfl, rfl⟩, ?_⟩
        try simp only [Act.put, List.setIfInBounds_toArray, List.set_cons_zero, List.set_cons_succ]
        refine s_take 31 (by as_aux_lemma => kernel_rfl) (by as_aux_lemma => kernel_rfl) (by as_aux_lemma => kernel_rfl) (by as_aux_lemma => kernel_rfl) HD.out (fun oi ho => ?_)
        simp only [List.getElem?_toArray, List.getElem?_cons_succ, List.getElem?_cons_zero, Option.some.injEq] at ho
        subst ho
        refine ⟨undef, Or.inr ⟨by rfl, rfl⟩, ?_⟩
        try simp only [Act.put, List.setIfInBounds_toArray, List.set_cons_zero, List.set_cons_succ]
        refine s_take 32 (by as_aux_lemma => kernel_rfl) (by as_aux_lemma => kernel_rfl) (by as_aux_lemma => kernel_rfl) (by as_aux_lemma => kernel_rfl) HD.out (fun oi ho => ?_)
        simp only [List.getElem?_toArray, List.getElem?_cons_succ, List.getElem?_cons_zero, Option.some.injEq] at ho
        subst ho
        refine ⟨undef, Or.inr ⟨by rfl, rfl⟩, ?_⟩
        try simp only [Act.put, List.setIfInBounds_toArray, List.set_cons_zero, List.set_cons_succ]
        refine s_take 33 (by as_aux_lemma => kernel_rfl) (by as_aux_lemma => kernel_rfl) (by as_aux_lemma => kernel_rfl) (by as_aux_lemma => kernel_rfl) HD.out (fun oi ho => ?_)
        simp only [List.getElem?_toArray, List.getElem?_cons_succ, List.getElem?_cons_zero, Option.some.injEq] at ho
        subst ho
        refine ⟨?_, Or.inl ⟨by rfl, fun w _ => ?_⟩, ?_⟩
        rotate_left
        · (go_simp <;> with_reducible rfl)
        try simp only [Act.put, List.setIfInBounds_toArray, List.set_cons_zero, List.set_cons_succ]
        refine s_take 34 (by as_aux_lemma => kernel_rfl) (by as_aux_lemma => kernel_rfl) (by as_aux_lemma => kernel_rfl) (by as_aux_lemma => kernel_rfl) HD.out (fun oi ho => ?_)
        simp only [List.getElem?_toArray, List.getElem?_cons_succ, List.getElem?_cons_zero, Option.some.injEq] at ho
        subst ho
        refine ⟨?_, Or.inl ⟨by rfl, fun w _ => ?_⟩, ?_⟩
        rotate_left
        · (go_simp <;> with_reducible rfl)
        try simp only [Act.put, List.setIfInBounds_toArray, List.set_cons_zero, List.set_cons_succ]
        refine s_done (by as_aux_lemma => kernel_rfl) ?_
        skip
        go_wp2
        go_roundw
        case rel => exact ⟨k + 1, by omega, by go_num, HD.out⟩
        case measure => simp [intOf]; omega
      · obtain ⟨j, hj⟩ : ∃ j, k = n + j := ⟨k - n, by omega⟩
        have e := HHi.out j (by omega)
        rw [← hj] at e
        rw [e] at d1 d3
        dsimp only at d1 d3
        have hk2 : n ≤ k := by omega
        have hk3 : (n : Int) ≤ (k : Int) := by omega
        have hk4 : IntKind.i64.wrap ((k : Int) - (n : Int)) = (j : Int) := by rw [show (k : Int) - (n : Int) = (j : Int) by omega]; exact IntWalk.i64_in _ (by omega)
        have hj2 : j ≤ 1000000 := by omega
        have HM := Lib.hid (fun W => markRow_any W 1 j (by omega) hj2)
        obtain ⟨b, hb⟩ : ∃ b, mkN 1 j = b := ⟨_, rfl⟩
        rw [hb] at HM d1
        have HD := Lib.hid (show Below w.heap.size w wo.drew from below_more HB.out (balD wo 1) HB.out.size)
        clear hj e hb
        go_wp2_with fail
        refine s_start 35 (fun W => Below w.heap.size w W) (by as_aux_lemma => kernel_rfl) (by as_aux_lemma => kernel_rfl) HD.out ?_
        refine s_take 0 (by as_aux_lemma => kernel_rfl) (by as_aux_lemma => kernel_rfl) (by as_aux_lemma => kernel_rfl) (by as_aux_lemma => kernel_rfl) HD.out (fun oi ho => ?_)
        simp only [List.getElem?_toArray, List.getElem?_cons_succ, List.getElem?_cons_zero, Option.some.injEq] at ho
        subst ho
        refine ⟨?_, Or.inl ⟨by rfl, fun w _ => ?_⟩, ?_⟩
        rotate_left
        · (go_simp <;> with_reducible rfl)
        try simp only [Act.put, List.setIfInBounds_toArray, List.set_cons_zero, List.set_cons_succ]
        refine s_take 1 (by as_aux_lemma => kernel_rfl) (by as_aux_lemma => kernel_rfl) (by as_aux_lemma => kernel_rfl) (by as_aux_lemma => kernel_rfl) HD.out (fun oi ho => ?_)
        simp only [List.getElem?_toArray, List.getElem?_cons_succ, List.getElem?_cons_zero, Option.some.injEq] at ho
        subst ho
        refine ⟨?_, Or.inl ⟨by rfl, fun w _ => ?_⟩, ?_⟩
        rotate_left
        · (go_simp <;> with_reducible rfl)
        try simp only [Act.put, List.setIfInBounds_toArray, List.set_cons_zero, List.set_cons_succ]
        refine s_take 2 (by as_aux_lemma => kernel_rfl) (by as_aux_lemma => kernel_rfl) (by as_aux_lemma => kernel_rfl) (by as_aux_lemma => kernel_rfl) HD.out (fun oi ho => ?_)
        simp only [List.getElem?_toArray, List.getElem?_cons_succ, List.getElem?_cons_zero, Option.some.injEq] at ho
        subst ho
        refine ⟨?_, Or.inl ⟨by rfl, fun w _ => ?_⟩, ?_⟩
        rotate_left
        · (go_simp <;> with_reducible rfl)
        try simp only [Act.put, List.setIfInBounds_toArray, List.set_cons_zero, List.set_cons_succ]
        refine s_take 3 (by as_aux_lemma => kernel_rfl) (by as_aux_lemma => kernel_rfl) (by as_aux_lemma => kernel_rfl) (by as_aux_lemma => kernel_rfl) HD.out (fun oi ho => ?_)
        simp only [List.getElem?_toArray, List.getElem?_cons_succ, List.getElem?_cons_zero, Option.some.injEq] at ho
        subst ho
        refine ⟨?_, Or.inl ⟨by rfl, fun w _ => ?_⟩, ?_⟩
        rotate_left
        · (go_simp <;> with_reducible rfl)
        try simp only [Act.put, List.setIfInBounds_toArray, List.set_cons_zero, List.set_cons_succ]
        refine s_take 4 (by as_aux_lemma => kernel_rfl) (by as_aux_lemma => kernel_rfl) (by as_aux_lemma => kernel_rfl) (by as_aux_lemma => kernel_rfl) HD.out (fun oi ho => ?_)
        simp only [List.getElem?_toArray, List.getElem?_cons_succ, List.getElem?_cons_zero, Option.some.injEq] at ho
        subst ho
        refine ⟨?_, Or.inl ⟨by rfl, fun w _ => ?_⟩, ?_⟩
        rotate_left
        · (go_simp <;> with_reducible rfl)
        try simp only [Act.put, List.setIfInBounds_toArray, List.set_cons_zero, List.set_cons_succ]
        refine s_take 5 (by as_aux_lemma => kernel_rfl) (by as_aux_lemma => kernel_rfl) (by as_aux_lemma => kernel_rfl) (by as_aux_lemma => kernel_rfl) HD.out (fun oi ho => ?_)
        simp only [List.getElem?_toArray, List.getElem?_cons_succ, List.getElem?_cons_zero, Option.some.injEq] at ho
        subst ho
        refine ⟨undef, Or.inr ⟨by rfl, rfl⟩, ?_⟩
        try simp only [Act.put, List.setIfInBounds_toArray, List.set_cons_zero, List.set_cons_succ]
        refine s_take 6 (by as_aux_lemma => kernel_rfl) (by as_aux_lemma => kernel_rfl) (by as_aux_lemma => kernel_rfl) (by as_aux_lemma => kernel_rfl) HD.out (fun oi ho => ?_)
        simp only [List.getElem?_toArray, List.getElem?_cons_succ, List.getElem?_cons_zero, Option.some.injEq] at ho
        subst ho
        refine ⟨undef, Or.inr ⟨by rfl, rfl⟩, ?_⟩
        try simp only [Act.put, List.setIfInBounds_toArray, List.set_cons_zero, List.set_cons_succ]
        refine s_take 7 (by as_aux_lemma => kernel_rfl) (by as_aux_lemma => kernel_rfl) (by as_aux_lemma => kernel_rfl) (by as_aux_lemma => kernel_rfl) HD.out (fun oi ho => ?_)
        simp only [List.getElem?_toArray, List.getElem?_cons_succ, List.getElem?_cons_zero, Option.some.injEq] at ho
        subst ho
        refine ⟨undef, Or.inr ⟨by rfl, rfl⟩, ?_⟩
        try simp only [Act.put, List.setIfInBounds_toArray, List.set_cons_zero, List.set_cons_succ]
        refine s_take 8 (by as_aux_lemma => kernel_rfl) (by as_aux_lemma => kernel_rfl) (by as_aux_lemma => kernel_rfl) (by as_aux_lemma => kernel_rfl) HD.out (fun oi ho => ?_)
        simp only [List.getElem?_toArray, List.getElem?_cons_succ, List.getElem?_cons_zero, Option.some.injEq] at ho
        subst ho
        refine ⟨undef, Or.inr ⟨by rfl, rfl⟩, ?_⟩
        try simp only [Act.put, List.setIfInBounds_toArray, List.set_cons_zero, List.set_cons_succ]
        refine s_take 9 (by as_aux_lemma => kernel_rfl) (by as_aux_lemma => kernel_rfl) (by as_aux_lemma => kernel_rfl) (by as_aux_lemma => kernel_rfl) HD.out (fun oi ho => ?_)
        simp only [List.getElem?_toArray, List.getElem?_cons_succ, List.getElem?_cons_zero, Option.some.injEq] at ho
        subst ho
        refine ⟨undef, Or.inr ⟨by rfl, rfl⟩, ?_⟩
        try simp only [Act.put, List.setIfInBounds_toArray, List.set_cons_zero, List.set_cons_succ]
        refine s_take 10 (by as_aux_lemma => kernel_rfl) (by as_aux_lemma => kernel_rfl) (by as_aux_lemma => kernel_rfl) (by as_aux_lemma => kernel_rfl) HD.out (fun oi ho => ?_)
        simp only [List.getElem?_toArray, List.getElem?_cons_succ, List.getElem?_cons_zero, Option.some.injEq] at ho
        subst ho
        refine ⟨undef, Or.inr ⟨by rfl, rfl⟩, ?_⟩
        try simp only [Act.put, List.setIfInBounds_toArray, List.set_cons_zero, List.set_cons_succ]
        refine s_take 11 (by as_aux_lemma => kernel_rfl) (by as_aux_lemma => kernel_rfl) (by as_aux_lemma => kernel_rfl) (by as_aux_lemma => kernel_rfl) HD.out (fun oi ho => ?_)
        simp only [List.getElem?_toArray, List.getElem?_cons_succ, List.getElem?_cons_zero, Option.some.injEq] at ho
        subst ho
        refine ⟨undef, Or.inr ⟨by rfl, rfl⟩, ?_⟩
        try simp only [Act.put, List.setIfInBounds_toArray, List.set_cons_zero, List.set_cons_succ]
        refine s_take 12 (by as_aux_lemma => kernel_rfl) (by as_aux_lemma => kernel_rfl) (by as_aux_lemma => kernel_rfl) (by as_aux_lemma => kernel_rfl) HD.out (fun oi ho => ?_)
        simp only [List.getElem?_toArray, List.getElem?_cons_succ, List.getElem?_cons_zero, Option.some.injEq] at ho
        subst ho
        refine ⟨undef, Or.inr ⟨by rfl, rfl⟩, ?_⟩
        try simp only [Act.put, List.setIfInBounds_toArray, List.set_cons_zero, List.set_cons_succ]
        refine s_take 13 (by as_aux_lemma => kernel_rfl) (by as_aux_lemma => kernel_rfl) (by as_aux_lemma => kernel_rfl) (by as_aux_lemma => kernel_rfl) HD.out (fun oi ho => ?_)
        simp only [List.getElem?_toArray, List.getElem?_cons_succ, List.getElem?_cons_zero, Option.some.injEq] at ho
        subst ho
        refine ⟨undef, Or.inr ⟨by rfl, rfl⟩, ?_⟩
        try simp only [Act.put, List.setIfInBounds_toArray, List.set_cons_zero, List.set_cons_succ]
        refine s_take 14 (by as_aux_lemma => kernel_rfl) (by as_aux_lemma => kernel_rfl) (by as_aux_lemma => kernel_rfl) (by as_aux_lemma => kernel_rfl) HD.out (fun oi ho => ?_)
        simp only [List.getElem?_toArray, List.getElem?_cons_succ, List.getElem?_cons_zero, Option.some.injEq] at ho
        subst ho
        refine ⟨undef, Or.inr ⟨by rfl, rfl⟩, ?_⟩
        try simp only [Act.put, List.setIfInBounds_toArray, List.set_cons_zero, List.set_cons_succ]
        refine s_take 15 (by as_aux_lemma => kernel_rfl) (by as_aux_lemma => kernel_rfl) (by as_aux_lemma => kernel_rfl) (by as_aux_lemma => kernel_rfl) HD.out (fun oi ho => ?_)
        simp only [List.getElem?_toArray, List.getElem?_cons_succ, List.getElem?_cons_zero, Option.some.injEq] at ho
        subst ho
        refine ⟨?_, Or.inl ⟨by rfl, fun w _ => ?_⟩, ?_⟩
        rotate_left
        · (go_simp <;> with_reducible rfl)
        try simp only [Act.put, List.setIfInBounds_toArray, List.set_cons_zero, List.set_cons_succ]
        refine s_take 16 (by as_aux_lemma => kernel_rfl) (by as_aux_lemma => kernel_rfl) (by as_aux_lemma => kernel_rfl) (by as_aux_lemma => kernel_rfl) HD.out (fun oi ho => ?_)
        simp only [List.getElem?_toArray, List.getElem?_cons_succ, List.getElem?_cons_zero, Option.some.injEq] at ho
        subst ho
        refine ⟨?_, Or.inl ⟨by rfl, fun w _ => ?_⟩, ?_⟩
        rotate_left
        · (go_simp <;> with_reducible rfl)
        try simp only [Act.put, List.setIfInBounds_toArray, List.set_cons_zero, List.set_cons_succ]
        refine s_take 17 (by as_aux_lemma => kernel_rfl) (by as_aux_lemma => kernel_rfl) (by as_aux_lemma => kernel_rfl) (by as_aux_lemma => kernel_rfl) HD.out (fun oi ho => ?_)
        simp only [List.getElem?_toArray, List.getElem?_cons_succ, List.getElem?_cons_zero, Option.some.injEq] at ho
        subst ho
        refine ⟨?_, Or.inl ⟨by rfl, fun w _ => ?_⟩, ?_⟩
        rotate_left
        · (go_simp <;> with_reducible rfl)
        try simp only [Act.put, List.setIfInBounds_toArray, List.set_cons_zero, List.set_cons_succ]
        refine s_take 18 (by as_aux_lemma => kernel_rfl) (by as_aux_lemma => kernel_rfl) (by as_aux_lemma => kernel_rfl) (by as_aux_lemma => kernel_rfl) HD.out (fun oi ho => ?_)
        simp only [List.getElem?_toArray, List.getElem?_cons_succ, List.getElem?_cons_zero, Option.some.injEq] at ho
        subst ho
        refine ⟨?_, Or.inl ⟨by rfl, fun w _ => ?_⟩, ?_⟩
        rotate_left
        · (go_simp <;> with_reducible rfl)
        try simp only [Act.put, List.setIfInBounds_toArray, List.set_cons_zero, List.set_cons_succ]
        refine s_take 19 (by as_aux_lemma => kernel_rfl) (by as_aux_lemma => kernel_rfl) (by as_aux_lemma => kernel_rfl) (by as_aux_lemma => kernel_rfl) HD.out (fun oi ho => ?_)
        simp only [List.getElem?_toArray, List.getElem?_cons_succ, List.getElem?_cons_zero, Option.some.injEq] at ho
        subst ho
        refine ⟨?_, Or.inl ⟨by rfl, fun w _ => ?_⟩, ?_⟩
        rotate_left
        · (go_simp <;> with_reducible rfl)
        try simp only [Act.put, List.setIfInBounds_toArray, List.set_cons_zero, List.set_cons_succ]
        refine s_take 20 (by as_aux_lemma => kernel_rfl) (by as_aux_lemma => kernel_rfl) (by as_aux_lemma => kernel_rfl) (by as_aux_lemma => kernel_rfl) HD.out (fun oi ho => ?_)
        simp only [List.getElem?_toArray, List.getElem?_cons_succ, List.getElem?_cons_zero, Option.some.injEq] at ho
        subst ho
        refine ⟨?_, Or.inl ⟨by rfl, fun w _ => ?_⟩, ?_⟩
        rotate_left
        · (go_simp <;> with_reducible rfl)
        try simp only [Act.put, List.setIfInBounds_toArray, List.set_cons_zero, List.set_cons_succ]
        refine s_take 21 (by as_aux_lemma => kernel_rfl) (by as_aux_lemma => kernel_rfl) (by as_aux_lemma => kernel_rfl) (by as_aux_lemma => kernel_rfl) HD.out (fun oi ho => ?_)
        simp only [List.getElem?_toArray, List.getElem?_cons_succ, List.getElem?_cons_zero, Option.some.injEq] at ho
        subst ho
        refine ⟨?_, Or.inl ⟨by rfl, fun w _ => ?_⟩, ?_⟩
        rotate_left
        · (go_simp <;> with_reducible rfl)
        try simp only [Act.put, List.setIfInBounds_toArray, List.set_cons_zero, List.set_cons_succ]
        refine s_take 22 (by as_aux_lemma => kernel_rfl) (by as_aux_lemma => kernel_rfl) (by as_aux_lemma => kernel_rfl) (by as_aux_lemma => kernel_rfl) HD.out (fun oi ho => ?_)
        simp only [List.getElem?_toArray, List.getElem?_cons_succ, List.getElem?_cons_zero, Option.some.injEq] at ho
        subst ho
        refine ⟨?_, Or.inl ⟨by rfl, fun w _ => ?_⟩, ?_⟩
        rotate_left
        · (go_simp <;> with_reducible rfl)
        try simp only [Act.put, List.setIfInBounds_toArray, List.set_cons_zero, List.set_cons_succ]
        refine s_take 23 (by as_aux_lemma => kernel_rfl) (by as_aux_lemma => kernel_rfl) (by as_aux_lemma => kernel_rfl) (by as_aux_lemma => kernel_rfl) HD.out (fun oi ho => ?_)
        simp only [List.getElem?_toArray, List.getElem?_cons_succ, List.getElem?_cons_zero, Option.some.injEq] at ho
        subst ho
        refine ⟨?_, Or.inl ⟨by rfl, fun w _ => ?_⟩, ?_⟩
        rotate_left
        · (go_simp <;> with_reducible rfl)
        try simp only [Act.put, List.setIfInBounds_toArray, List.set_cons_zero, List.set_cons_succ]
        refine s_take 24 (by as_aux_lemma => kernel_rfl) (by as_aux_lemma => kernel_rfl) (by as_aux_lemma => kernel_rfl) (by as_aux_lemma => kernel_rfl) HD.out (fun oi ho => ?_)
        simp only [List.getElem?_toArray, List.getElem?_cons_succ, List.getElem?_cons_zero, Option.some.injEq] at ho
        subst ho
        refine ⟨?_, Or.inl ⟨by rfl, fun w _ => ?_⟩, ?_⟩
        rotate_left
        · (go_simp <;> with_reducible rfl)
        try simp only [Act.put, List.setIfInBounds_toArray, List.set_cons_zero, List.set_cons_succ]
        refine s_take 25 (by as_aux_lemma => kernel_rfl) (by as_aux_lemma => kernel_rfl) (by as_aux_lemma => kernel_rfl) (by as_aux_lemma => kernel_rfl) HD.out (fun oi ho => ?_)
        simp only [List.getElem?_toArray, List.getElem?_cons_succ, List.getElem?_cons_zero, Option.some.injEq] at ho
        subst ho
        refine ⟨.agg #[.int .i64 (b : Int), .int .i64 0], Or.inl ⟨by rfl, fun w' hS' => ?_⟩, ?_⟩
        · have z1 := (hS'.cell (p := ⟨ga, k * 2, none⟩) (blt d1)).trans d1
          have z3 := (hS'.cell (p := ⟨ga, k * 2 + 1, none⟩) (blt d3)).trans d3
          (go_simp <;> with_reducible rfl)
        try simp only [Act.put, List.setIfInBounds_toArray, List.set_cons_zero, List.set_cons_succ]
        refine s_take 26 (by as_aux_lemma => kernel_rfl) (by as_aux_lemma => kernel_rfl) (by as_aux_lemma => kernel_rfl) (by as_aux_lemma => kernel_rfl) HD.out (fun oi ho => ?_)
        simp only [List.getElem?_toArray, List.getElem?_cons_succ, List.getElem?_cons_zero, Option.some.injEq] at ho
        subst ho
        refine ⟨?_, Or.inl ⟨by rfl, fun w _ => ?_⟩, ?_⟩
        rotate_left
        · (go_simp <;> with_reducible rfl)
        try simp only [Act.put, List.setIfInBounds_toArray, List.set_cons_zero, List.set_cons_succ]
        refine s_take 27 (by as_aux_lemma => kernel_rfl) (by as_aux_lemma => kernel_rfl) (by as_aux_lemma => kernel_rfl) (by as_aux_lemma => kernel_rfl) HD.out (fun oi ho => ?_)
        simp only [List.getElem?_toArray, List.getElem?_cons_succ, List.getElem?_cons_zero, Option.some.injEq] at ho
        subst ho
        refine ⟨?_, Or.inl ⟨by rfl, fun w _ => ?_⟩, ?_⟩
        rotate_left
        · (go_simp <;> with_reducible rfl)
        try simp only [Act.put, List.setIfInBounds_toArray, List.set_cons_zero, List.set_cons_succ]
        refine s_take 28 (by as_aux_lemma => kernel_rfl) (by as_aux_lemma => kernel_rfl) (by as_aux_lemma => kernel_rfl) (by as_aux_lemma => kernel_rfl) HD.out (fun oi ho => ?_)
        simp only [List.getElem?_toArray, List.getElem?_cons_succ, List.getElem?_cons_zero, Option.some.injEq] at ho
        subst ho
        refine ⟨?_, Or.inl ⟨by rfl, fun w _ => ?_⟩, ?_⟩
        rotate_left
        · (go_simp <;> with_reducible rfl)
        try simp only [Act.put, List.setIfInBounds_toArray, List.set_cons_zero, List.set_cons_succ]
        refine s_take 29 (by as_aux_lemma => kernel_rfl) (by as_aux_lemma => kernel_rfl) (by as_aux_lemma => kernel_rfl) (by as_aux_lemma => kernel_rfl) HD.out (fun oi ho => ?_)
        simp only [List.getElem?_toArray, List.getElem?_cons_succ, List.getElem?_cons_zero, Option.some.injEq] at ho
        subst ho
        refine ⟨?_, Or.inl ⟨by rfl, fun w _ => ?_⟩, ?_⟩
        rotate_left
        · (go_simp <;> with_reducible rfl)
        try simp only [Act.put, List.setIfInBounds_toArray, List.set_cons_zero, List.set_cons_succ]
        refine s_all (rs := [30]) (by as_aux_lemma => kernel_rfl) (by simp) ?_
        refine s_step 30 (by as_aux_lemma => kernel_rfl) (fun o ho K hK => ?_) AllReadyH.nil
        simp only [List.getElem?_toArray, List.getElem?_cons_succ, List.getElem?_cons_zero, Option.some.injEq] at ho
        subst ho
        go_simp
        refine (HM.out _).mono ?_
        rintro e w5 ⟨rfl, hB5⟩
        have HB5 := Lib.hid (below_more HD.out hB5 HD.out.size)
        clear hB5
        go_wp2_with fail
        refine hK.out _ _ HB5.out ?_
        clear hK K
        try simp only [Act.put, List.setIfInBounds_toArray, List.set_cons_zero, List.set_cons_succ]
        refine s_take 31 (by as_aux_lemma => kernel_rfl) (by as_aux_lemma => kernel_rfl) (by as_aux_lemma => kernel_rfl) (by as_aux_lemma => kernel_rfl) HB5.out (fun oi ho => ?_)
        simp only [List.getElem?_toArray, List.getElem?_cons_succ, List.getElem?_cons_zero, Option.some.injEq] at ho
        subst ho
        refine ⟨?_, Or.inl ⟨by rfl, fun w _ => ?_⟩, ?_⟩
        rotate_left
        · (go_simp <;> with_reducible rfl)
        try simp only [Act.put, List.setIfInBounds_toArray, List.set_cons_zero, List.set_cons_succ]
        refine s_take 32 (by as_aux_lemma => kernel_rfl) (by as_aux_lemma => kernel_rfl) (by as_aux_lemma => kernel_rfl) (by as_aux_lemma => kernel_rfl) HB5.out (fun oi ho => ?_)
        simp only [List.getElem?_toArray, List.getElem?_cons_succ, List.getElem?_cons_zero, Option.some.injEq] at ho
        subst ho
        refine ⟨?_, Or.inl ⟨by rfl, fun w _ => ?_⟩, ?_⟩
        rotate_left
        · (go_simp <;> with_reducible rfl)
        try simp only [Act.put, List.setIfInBounds_toArray, List.set_cons_zero, List.set_cons_succ]
        refine s_take 33 (by as_aux_lemma => kernel_rfl) (by as_aux_lemma => kernel_rfl) (by as_aux_lemma => kernel_rfl) (by as_aux_lemma => kernel_rfl) HB5.out (fun oi ho => ?_)
        simp only [List.getElem?_toArray, List.getElem?_cons_succ, List.getElem?_cons_zero, Option.some.injEq] at ho
        subst ho
        refine ⟨?_, Or.inl ⟨by rfl, fun w _ => ?_⟩, ?_⟩
        rotate_left
        · (go_simp <;> with_reducible rfl)
        try simp only [Act.put, List.setIfInBounds_toArray, List.set_cons_zero, List.set_cons_succ]
        refine s_take 34 (by as_aux_lemma => kernel_rfl) (by as_aux_lemma => kernel_rfl) (by as_aux_lemma => kernel_rfl) (by as_aux_lemma => kernel_rfl) HB5.out (fun oi ho => ?_)
        simp only [List.getElem?_toArray, List.getElem?_cons_succ, List.getElem?_cons_zero, Option.some.injEq] at ho
        subst ho
        refine ⟨?_, Or.inl ⟨by rfl, fun w _ => ?_⟩, ?_⟩
        rotate_left
        · (go_simp <;> with_reducible rfl)
        try simp only [Act.put, List.setIfInBounds_toArray, List.set_cons_zero, List.set_cons_succ]
        refine s_done (by as_aux_lemma => kernel_rfl) ?_
        skip
        go_wp2
        go_roundw
        case rel => exact ⟨k + 1, by omega, by go_num, HB5.out⟩
        case measure => simp [intOf]; omega
    · obtain rfl : k = n + 12 := by omega
      go_wp2
      go_ret
      exact ⟨rfl, HB.out⟩
end -- LayL

section -- LayX
open Go.RowKit Go.Maps
set_option linter.unusedVariables false
set_option linter.unusedSimpArgs false
set_option maxRecDepth 100000
set_option maxHeartbeats 4000000

theorem long_any (w : World) (n : Int) (v : Value) (t : List (Int × Int)) (hv : TableAt w v t) :
    Calls Tryz.prog 37 #[.int .i64 n, v] w fun e w' => e = .returned (.tuple #[.int .i64 (longV n t), .int .i64 (tabE n t)]) ∧ Below w.heap.size w w' := by
  by_cases h : TableOk n t
  · refine (long_ok w n v t hv h).mono ?_
    rintro e w' ⟨rfl, hB⟩
    exact ⟨by rw [longV, tabE, if_pos h, if_pos h], hB⟩
  · refine (long_bad w n v t hv h).mono ?_
    rintro e w' ⟨rfl, hB⟩
    exact ⟨by rw [longV, tabE, if_neg h, if_neg h], hB⟩

theorem layTables_any (w : World) (n came : Int) (v : Value) (t : List (Int × Int)) (hv : TableAt w v t) :
    Calls Tryz.prog 23 #[.int .i64 n, v, .int .i64 came] w fun e w' => e = .returned (.bool true) ∧ Below w.heap.size w w' := by
  have HV := Lib.hid hv
  have HL0 := Lib.hid (fun h => lentT_any w v t hv h)
  obtain ⟨p, c, rfl, hcap, hh⟩ := hv
  obtain ⟨m, hm⟩ : ∃ m, t.length = m := ⟨_, rfl⟩
  rw [hm] at HV HL0 ⊢
  have HM := Lib.hid hm
  clear hcap hh hm
  go_enter Tryz.func23, Tryz.ntmps23
  by_cases hlt : 300 < m
  · have hlt' : (300 : Int) < (m : Int) := by omega
    go_wp2_with fail
    refine (lawake_any w).mono ?_
    rintro e w1 ⟨rfl, hB1⟩
    go_wp2
    go_ret
    exact ⟨rfl, hB1⟩
  · have hlt' : ¬ (300 : Int) < (m : Int) := by omega
    go_wp2_with fail
    refine (HL0.out (by omega)).mono ?_
    rintro e w1 ⟨vt, rfl, ht, hB1⟩
    have HB1 := Lib.hid hB1
    have HT1 := Lib.hid ht
    have HV1 := Lib.hid (HV.out.below hB1)
    clear ht hB1
    go_wp2_with fail
    refine (long_any w1 n _ t HT1.out.tab).mono ?_
    rintro e w2 ⟨rfl, hB2⟩
    have HB2 := Lib.hid (below_more HB1.out hB2 HB1.out.size)
    have HT2 := Lib.hid (HT1.out.below hB2)
    have HV2 := Lib.hid (HV1.out.below hB2)
    clear hB2
    go_wp2_with fail
    refine (rlong_any w2 n _ t HV2.out).mono ?_
    rintro e w3 ⟨rfl, hB3⟩
    have HB3 := Lib.hid (below_more HB2.out hB3 HB2.out.size)
    have HT3 := Lib.hid (HT2.out.below hB3)
    have HV3 := Lib.hid (HV2.out.below hB3)
    clear hB3
    go_wp2_with fail
    refine (ready_any w3 n came _ t HT3.out.tab).mono ?_
    rintro e w4 ⟨rfl, hB4⟩
    have HB4 := Lib.hid (below_more HB3.out hB4 HB3.out.size)
    have HT4 := Lib.hid (HT3.out.below hB4)
    have HV4 := Lib.hid (HV3.out.below hB4)
    clear hB4
    go_wp2_with fail
    refine (rready_any w4 n came _ t HV4.out).mono ?_
    rintro e w5 ⟨rfl, hB5⟩
    have HB5 := Lib.hid (below_more HB4.out hB5 HB4.out.size)
    have HT5 := Lib.hid (HT4.out.below hB5)
    have HV5 := Lib.hid (HV4.out.below hB5)
    clear hB5
    go_wp2_with fail
    refine (tright_any w5 n _ t HT5.out.tab).mono ?_
    rintro e w6 ⟨rfl, hB6⟩
    have HB6 := Lib.hid (below_more HB5.out hB6 HB5.out.size)
    have HT6 := Lib.hid (HT5.out.below hB6)
    have HV6 := Lib.hid (HV5.out.below hB6)
    clear hB6
    go_wp2_with fail
    refine (rtright_any w6 n _ t HV6.out).mono ?_
    rintro e w7 ⟨rfl, hB7⟩
    have HB7 := Lib.hid (below_more HB6.out hB7 HB6.out.size)
    have HT7 := Lib.hid (HT6.out.below hB7)
    have HV7 := Lib.hid (HV6.out.below hB7)
    clear hB7
    go_wp2_with fail
    refine (keptT_any w7 _ _ t _ HT7.out HV7.out (by rw [HM.out]; omega)).mono ?_
    rintro e w8 ⟨rfl, hB8⟩
    have HB8 := Lib.hid (below_more HB7.out hB8 HB7.out.size)
    clear hB8
    go_wp2_with fail
    refine (lawake_any w8).mono ?_
    rintro e w9 ⟨rfl, hB9⟩
    have HB9 := Lib.hid (below_more HB8.out hB9 HB8.out.size)
    clear hB9
    go_wp2
    go_ret
    exact ⟨rfl, HB9.out⟩
end -- LayX

section -- CodeOp
open Go.ChangeShapes Go.WideShapes Go.ChangeAt Go.RowKit Go.Deep
set_option linter.unusedVariables false

section
variable {H : Type} {enc : TypeId × Value → H} {P : Program} {w : World}

/-- Each part of what came in fits into memory. -/
def Fits (P : Program) (t : TypeId) (d : DataW H) : Prop := ∀ n ∈ d.weights P t, n ≤ reachBytes
theorem fits_all {e : TypeId} : ∀ {l : List (DataW H)} {d : DataW H}, d ∈ l → ∀ n ∈ d.weights P e, n ∈ DataW.weightsAll P e l
  | d0 :: l, d, h, n, hn => by
    simp only [DataW.weightsAll, List.mem_append]
    rcases List.mem_cons.1 h with rfl | h
    · exact .inl hn
    · exact .inr (fits_all h n hn)
theorem fits_elem {t e : TypeId} {elems spare : List (DataW H)} (hu : P.underlying t = some (.slice e)) (h : Fits P t (.slice elems spare)) {d : DataW H} (hd : d ∈ elems) : Fits P e d := fun n hn =>
  h n (by simp only [DataW.weights, hu, List.mem_cons, List.mem_append]; exact .inr (.inl (fits_all hd n hn)))
theorem fits_len {t e : TypeId} {elems spare : List (DataW H)} (hu : P.underlying t = some (.slice e)) (h : Fits P t (.slice elems spare)) : (elems.length + spare.length) * P.bytesOf e ≤ reachBytes :=
  h _ (by simp only [DataW.weights, hu, List.mem_cons]; exact .inl trivial)
theorem fits_two {t : TypeId} {f0 f1 : Field} {d0 d1 : DataW H} (hu : P.underlying t = some (.struct #[f0, f1])) (h : Fits P t (.agg [d0, d1])) : Fits P f1.type d1 := fun n hn =>
  h n (by simp only [DataW.weights, hu, List.map_cons, List.map_nil, DataW.weightsEach, List.mem_append]; exact .inr (.inl hn))

theorem byte_of {n : Int} (h : (Lit.int .u8 n).wf = true) : Value.int .u8 n = bv (ofB n.toNat) := by
  have : 0 ≤ n ∧ n ≤ 255 := by simpa [Lit.wf, IntKind.min, IntKind.max, IntKind.signed, IntKind.bits] using h
  unfold bv ofB
  congr 1
  simp only
  omega

theorem open_bytes {t e : TypeId} {fuel : Nat} {v : Value} {x : DataW H × List MemPlace} (ht : P.underlying t = some (.slice e)) (he : P.underlying e = some (.int .u8)) (ce : P.cellsOf e = 1) (hb : P.bytesOf e = 1)
    (h : DataW.trod enc P w 0 (fun _ => true) true fuel t [v] = some x) (hf : Fits P t x.1) : ∃ l, BytesAt w v l ∧ l.length ≤ 140737488355328 := by
  rcases open_slice1 ht ce h with ⟨hc, _⟩ | ⟨a, len, cap, m, n, V, D, Pl, hc, _, hl, hm, hmm, rfl, hx⟩
  · obtain rfl : v = .slice none 0 0 := by simpa using hc
    exact ⟨[], BytesAt.nil w, by simp⟩
  · obtain rfl : v = .slice (some a) len cap := by simpa using hc
    have hmm' : m = cap := by simpa using hmm
    subst hmm'
    have k0 : ∀ i, i < m → V i = bv (ofB (intOf (V i)).toNat) := by
      intro i hi
      obtain ⟨k, e, _, hw⟩ := DataW.trod_int he (hx i hi).2
      have e' : V i = .int .u8 k := by simpa using e
      rw [e']
      exact byte_of hw
    have hlen := fits_len ht hf
    rw [hb] at hlen
    simp at hlen
    refine ⟨(List.range len).map fun i => ofB (intOf (V i)).toNat, ⟨some a, m, by simp, fun h0 => ?_⟩, by simp; have : reachBytes < 2 ^ 47 := reachBytes_lt; omega⟩
    simp at h0
    obtain ⟨b, off, spot⟩ := a
    have hz := (hx 0 (by omega)).1
    have hspot : spot = none := by
      have := World.cell?_spot hz
      simpa [Addr.add] using this
    subst hspot
    refine ⟨b, off, rfl, fun i hi => ?_⟩
    simp at hi
    have := (hx i (by omega)).1
    rw [add_plain] at this
    rw [this, getD_range _ _ hi, ← k0 i (by omega)]

theorem open_rows {t e q : TypeId} {fuel : Nat} {v : Value} {x : DataW H × List MemPlace} (ht : P.underlying t = some (.slice e)) (he : P.underlying e = some (.slice q)) (hq : P.underlying q = some (.int .u8)) (ce : P.cellsOf e = 1) (cq : P.cellsOf q = 1) (be : P.bytesOf e = 24) (bq : P.bytesOf q = 1)
    (h : DataW.trod enc P w 0 (fun _ => true) true fuel t [v] = some x) (hf : Fits P t x.1) : ∃ ls, RowsAt w v ls ∧ ls.length ≤ 140737488355328 ∧ ∀ i, i < ls.length → (ls.getD i []).length ≤ 140737488355328 := by
  rcases open_slice1 ht ce h with ⟨hc, _⟩ | ⟨a, len, cap, m, n, V, D, Pl, hc, _, hl, hm, hmm, rfl, hx⟩
  · obtain rfl : v = .slice none 0 0 := by simpa using hc
    exact ⟨[], RowsAt.nil w, by simp, fun i hi => by simp at hi⟩
  · obtain rfl : v = .slice (some a) len cap := by simpa using hc
    have hmm' : m = cap := by simpa using hmm
    subst hmm'
    have hlen := fits_len ht hf
    rw [be] at hlen
    simp at hlen
    have hr : reachBytes < 2 ^ 47 := reachBytes_lt
    have each : ∀ i, i < len → ∃ l, BytesAt w (V i) l ∧ l.length ≤ 140737488355328 := fun i hi =>
      open_bytes he hq cq bq (hx i (by omega)).2 (fits_elem ht hf (List.mem_map.2 ⟨i, List.mem_range.2 hi, rfl⟩))
    obtain ⟨F, hF⟩ := choose_lt each
    refine ⟨(List.range len).map F, ⟨some a, m, by simp, fun h0 => ?_⟩, by simp; omega, fun i hi => ?_⟩
    · simp at h0
      obtain ⟨b, off, spot⟩ := a
      have hz := (hx 0 (by omega)).1
      have hspot : spot = none := by
        have := World.cell?_spot hz
        simpa [Addr.add] using this
      subst hspot
      refine ⟨b, off, rfl, fun i hi => ?_⟩
      simp at hi
      have := (hx i (by omega)).1
      rw [add_plain] at this
      exact ⟨V i, this, by rw [getD_range _ _ hi]; exact (hF i hi).1⟩
    · simp at hi
      rw [getD_range _ _ hi]
      exact (hF i hi).2

theorem open_held {t e : TypeId} {f0 f1 : Field} {q : TypeId} {fuel : Nat} {v : Value} {x : DataW H × List MemPlace} (ht : P.underlying t = some (.slice e)) (he : P.underlying e = some (.struct #[f0, f1]))
    (ce : P.cellsOf e = 2) (o0 : f0.offset = 0) (o1 : f1.offset = 1) (c0 : P.cellsOf f0.type = 1) (c1 : P.cellsOf f1.type = 1) (u0 : P.underlying f0.type = some (.int .i64)) (u1 : P.underlying f1.type = some (.slice q)) (hq : P.underlying q = some (.int .u8)) (cq : P.cellsOf q = 1) (be : P.bytesOf e = 32) (bq : P.bytesOf q = 1)
    (h : DataW.trod enc P w 0 (fun _ => true) true fuel t [v] = some x) (hf : Fits P t x.1) : ∃ hs, HeldAt w v hs ∧ hs.length ≤ 4500000000000 ∧ ∀ i, i < hs.length → (hs.getD i (0, [])).2.length ≤ 140737488355328 := by
  rcases open_slice_pairs ht he ce o0 o1 c0 c1 h with ⟨hc, _⟩ | ⟨a, len, cap, m, n, V0, V1, D0, D1, P0, P1, hc, _, hl, hm, hmm, rfl, hx⟩
  · obtain rfl : v = .slice none 0 0 := by simpa using hc
    exact ⟨[], ⟨none, 0, rfl, Nat.le_refl _, fun h => absurd h (by simp)⟩, by simp, fun i hi => by simp at hi⟩
  · obtain rfl : v = .slice (some a) len cap := by simpa using hc
    have hmm' : m = cap := by simpa using hmm
    subst hmm'
    have hlen := fits_len ht hf
    rw [be] at hlen
    simp at hlen
    have hr : reachBytes < 2 ^ 47 := reachBytes_lt
    have k0 : ∀ i, i < m → V0 i = .int .i64 (intOf (V0 i)) := by
      intro i hi
      obtain ⟨k, e, _, hw⟩ := DataW.trod_int u0 (hx i hi).2.2.1
      have e' : V0 i = .int .i64 k := by simpa using e
      rw [e']
      rfl
    have each : ∀ i, i < len → ∃ l, BytesAt w (V1 i) l ∧ l.length ≤ 140737488355328 := fun i hi =>
      open_bytes u1 hq cq bq (hx i (by omega)).2.2.2 (fits_two he (fits_elem ht hf (List.mem_map.2 ⟨i, List.mem_range.2 hi, rfl⟩)))
    obtain ⟨F, hF⟩ := choose_lt each
    refine ⟨(List.range len).map fun i => (intOf (V0 i), F i), ⟨some a, m, by simp, by simp; exact hl, fun h0 => ?_⟩, by simp; omega, fun i hi => ?_⟩
    · simp at h0
      obtain ⟨b, off, spot⟩ := a
      have hz := (hx 0 (by omega)).1
      have hspot : spot = none := by
        have := World.cell?_spot hz
        simpa [Addr.add] using this
      subst hspot
      refine ⟨b, off, rfl, fun i hi => ?_⟩
      simp at hi
      obtain ⟨h0, h1, _, _⟩ := hx i (by omega)
      rw [add_plain] at h0 h1
      rw [k0 i (by omega)] at h0
      rw [getD_range _ _ hi]
      exact ⟨h0, V1 i, by rw [Nat.add_assoc]; exact h1, (hF i hi).1⟩
    · simp at hi
      rw [getD_range _ _ hi]
      exact (hF i hi).2
end
end -- CodeOp

section -- LayOp
open Go.ChangeShapes Go.WideShapes Go.ChangeAt Go.RowKit Go.Deep
set_option linter.unusedVariables false

section
variable {H : Type} {enc : TypeId × Value → H} {P : Program} {w : World}
theorem open_tab {t e : TypeId} {f0 f1 : Field} {fuel : Nat} {v : Value} {x : DataW H × List MemPlace} (ht : P.underlying t = some (.slice e)) (he : P.underlying e = some (.struct #[f0, f1]))
    (ce : P.cellsOf e = 2) (o0 : f0.offset = 0) (o1 : f1.offset = 1) (c0 : P.cellsOf f0.type = 1) (c1 : P.cellsOf f1.type = 1) (u0 : P.underlying f0.type = some (.int .i64)) (u1 : P.underlying f1.type = some (.int .i64))
    (h : DataW.trod enc P w 0 (fun _ => true) true fuel t [v] = some x) : ∃ l, TableAt w v l := by
  rcases open_slice_pairs ht he ce o0 o1 c0 c1 h with ⟨hc, _⟩ | ⟨a, len, cap, m, n, V0, V1, D0, D1, P0, P1, hc, _, hl, hm, hmm, rfl, hx⟩
  · obtain rfl : v = .slice none 0 0 := by simpa using hc
    exact ⟨[], ⟨none, 0, rfl, Nat.le_refl _, fun h => absurd h (by simp)⟩⟩
  · obtain rfl : v = .slice (some a) len cap := by simpa using hc
    have hmm' : m = cap := by simpa using hmm
    subst hmm'
    have k0 : ∀ i, i < m → V0 i = .int .i64 (intOf (V0 i)) := by
      intro i hi
      obtain ⟨k, e, _, hw⟩ := DataW.trod_int u0 (hx i hi).2.2.1
      have e' : V0 i = .int .i64 k := by simpa using e
      rw [e']
      rfl
    have k1 : ∀ i, i < m → V1 i = .int .i64 (intOf (V1 i)) := by
      intro i hi
      obtain ⟨k, e, _, hw⟩ := DataW.trod_int u1 (hx i hi).2.2.2
      have e' : V1 i = .int .i64 k := by simpa using e
      rw [e']
      rfl
    refine ⟨(List.range len).map fun i => (intOf (V0 i), intOf (V1 i)), some a, m, by simp, by simp; exact hl, fun h0 => ?_⟩
    simp at h0
    obtain ⟨b, off, spot⟩ := a
    have hz := (hx 0 (by omega)).1
    have hspot : spot = none := by
      have := World.cell?_spot hz
      simpa [Addr.add] using this
    subst hspot
    refine ⟨b, off, rfl, fun i hi => ?_⟩
    simp at hi
    obtain ⟨h0, h1, _, _⟩ := hx i (by omega)
    rw [add_plain] at h0 h1
    rw [k0 i (by omega)] at h0
    rw [k1 i (by omega)] at h1
    rw [getD_range _ _ hi]
    exact ⟨h0, by rw [Nat.add_assoc]; exact h1⟩

theorem open_ints64 {t e : TypeId} {fuel : Nat} {v : Value} {x : DataW H × List MemPlace} (ht : P.underlying t = some (.slice e)) (he : P.underlying e = some (.int .i64)) (ce : P.cellsOf e = 1)
    (h : DataW.trod enc P w 0 (fun _ => true) true fuel t [v] = some x) : ∃ xs, IntsAt w v xs := by
  rcases open_slice1 ht ce h with ⟨hc, _⟩ | ⟨a, len, cap, m, n, V, D, Pl, hc, _, hl, hm, hmm, _, hx⟩
  · obtain rfl : v = .slice none 0 0 := by simpa using hc
    exact ⟨[], none, 0, rfl, Nat.le_refl _, fun h => absurd h (by simp)⟩
  · obtain rfl : v = .slice (some a) len cap := by simpa using hc
    have hmm' : m = cap := by simpa using hmm
    subst hmm'
    have k0 : ∀ i, i < m → V i = .int .i64 (intOf (V i)) := by
      intro i hi
      obtain ⟨k, e, _, hw⟩ := DataW.trod_int he (hx i hi).2
      have e' : V i = .int .i64 k := by simpa using e
      rw [e']
      rfl
    refine ⟨(List.range len).map fun i => intOf (V i), some a, m, by simp, by simp; exact hl, fun h0 => ?_⟩
    simp at h0
    obtain ⟨b, off, spot⟩ := a
    have hz := (hx 0 (by omega)).1
    have hspot : spot = none := by
      have := World.cell?_spot hz
      simpa [Addr.add] using this
    subst hspot
    refine ⟨b, off, rfl, fun i hi => ?_⟩
    simp at hi
    have := (hx i (by omega)).1
    rw [add_plain] at this
    rw [this, getD_range _ _ hi, ← k0 i (by omega)]
end
end -- LayOp

end Go.Proofs.YtanjchpkekehgaaGreat
