/-
  Are indexes all there, and unlike?
-/
import Derived.Test.YtlmpagicjgldkaaGreatCaB
import Derived.Test.YtlmpagicjgldkaaGreatMxbe
namespace Go.Proofs.YtlmpagicjgldkaaGreat
open Go.RowKit Go.Maps Go.Shelf Go.Sort
set_option linter.unusedVariables false
set_option linter.unusedSimpArgs false
set_option maxRecDepth 100000
set_option maxHeartbeats 2000000

theorem belowDrew' {B : Nat} {a w : World} (h : Below B a w) : Below B a w.drew := ⟨h.os, h.tape, h.output, h.size, h.block⟩
theorem unlike_any (w : World) {F : Nat → Prop} {b bm : Nat} {s : CS} (hc : CacheAt w F b bm s) (v : Value) (xs : List Int) (hv : IntsAt w v xs) (hl : xs.length ≤ 1000000) (h0 : 0 < xs.length) :
    Calls Tryz.prog 40 #[.pointer (some ⟨b, 0, none⟩), v] w fun e w' => e = .returned (.bool (decide (askE s.n 1 xs = 0))) ∧ Below w.heap.size w w' := by
  have HV := Lib.hid hv
  have hlc := hc.lt
  have c3 := hc.c3
  obtain ⟨n, hn⟩ : ∃ n, s.n = n := ⟨_, rfl⟩
  rw [hn] at c3 ⊢
  obtain ⟨p, cap, hvv, _⟩ := hv
  subst hvv
  have hB0 : Below w.heap.size w (w.alloc (.cells #[.slice p xs.length cap] 32)) := (Below.refl _ _).alloc (Nat.le_refl _) _
  have HSV := Lib.hid (sortedVals_any w.heap.size (.slice p xs.length cap) xs hl (w.alloc (.cells #[.slice p xs.length cap] 32)) (World.cell?_alloc_new w #[.slice p xs.length cap] 32 0) (HV.out.below hB0))
  clear hc hn
  go_enter Tryz.func40, Tryz.ntmps40
  go_wp2_with fail
  refine (values_any w _ _ _).mono ?_
  rintro e w' ⟨rfl, rfl⟩
  go_wp2_with fail
  refine HSV.out.mono ?_
  rintro e w1 ⟨vs, rfl, hrow, hB1⟩
  have hB2 : Below w.heap.size w w1 := below_more hB0 hB1 (by simp)
  have HR := Lib.hid (ownsRow_weaken hrow (base' := w.heap.size) (by simp))
  have hs2 := hB2.size
  have d3 := (hB2.cell (p := ⟨b, 3, none⟩) hlc).trans c3
  have HCO := Lib.hid (fun (W : World) (hb : Below w1.heap.size w1 W) => compact_any W w.heap.size vs (sortL xs) (by rw [sortL_len]; exact ownsRow_keptS HR.out (Kept.below hb) (fun _ _ h => h)) (by rw [sortL_len]; exact hl) (Nat.le_trans hs2 hb.size))
  have HOB := Lib.hid (show ∀ b, vs.ownBlock = some b → w.heap.size ≤ b from fun b hb => (HR.out.lt b hb).1)
  have HTW := Lib.hid (ask_twice xs)
  clear hrow hB0 hB1
  have hIA := IntsAt.of_owns (w := w1) (base := w.heap.size) (v := vs) (xs := sortL xs) (by rw [sortL_len]; exact HR.out)
  obtain ⟨pv, cv, rfl, hcv, hiv⟩ := hIA
  rw [sortL_len] at hcv hiv
  obtain ⟨g, off, rfl, hcells⟩ := hiv (by omega)
  have x0 := hcells 0 (by omega)
  rw [Nat.add_zero] at x0
  have x1 := hcells (xs.length - 1) (by omega)
  have HAO := Lib.hid (ask_out (n := n) (xs := xs) (by omega))
  have HSL := Lib.hid (sortL_len xs)
  rw [HSL.out] at HCO ⊢
  obtain ⟨a, ha⟩ : ∃ a, (sortL xs).getD 0 0 = a := ⟨_, rfl⟩
  obtain ⟨z, hb⟩ : ∃ b, (sortL xs).getD (xs.length - 1) 0 = b := ⟨_, rfl⟩
  rw [ha] at x0 HAO
  rw [hb] at x1 HAO
  obtain ⟨len, hlen⟩ : ∃ len, xs.length = len := ⟨_, rfl⟩
  obtain ⟨last, hlast⟩ : ∃ last, len - 1 = last := ⟨_, rfl⟩
  have hlast2 : (len : Int) - 1 = (last : Int) := by omega
  have hlast3 : last < len := by omega
  rw [hlen, hlast] at x1
  have HLEN := Lib.hid hlen
  rw [hlen] at HCO ⊢
  have g0 : 0 < len := by omega
  have gi : (0 : Int) < len := by omega
  have h13 : len ≤ 1000000 := by omega
  have HL2 := Lib.hid hlast2
  clear hcells ha hb hlen hlast h0 hl
  by_cases ha0 : a < 0
  · have hd : decide (0 ≤ a) = false := by simpa using ha0
    have HRES := Lib.hid (show decide (askE n 1 xs = 0) = false by unfold askE; rw [HAO.out.2 (.inl ha0)]; rfl)
    go_wp2_with fail
    go_quiet (fail)
    go_wp2
    go_ret
    exact ⟨by rw [HRES.out]; rfl, ⟨hB2.os, hB2.tape, hB2.output, hB2.size, hB2.block⟩⟩
  · have hd : decide (0 ≤ a) = true := by simpa using ha0
    by_cases hbn : (n : Int) ≤ z
    · have HRES := Lib.hid (show decide (askE n 1 xs = 0) = false by unfold askE; rw [HAO.out.2 (.inr hbn)]; rfl)
      have hd2 : decide (z < (n : Int)) = false := by simpa using hbn
      go_wp2_with fail
      go_quiet (fail)
      go_wp2
      go_ret
      exact ⟨by rw [HRES.out]; rfl, ⟨hB2.os, hB2.tape, hB2.output, hB2.size, hB2.block⟩⟩
    · have hzn : z < (n : Int) := by omega
      have hd2 : decide (z < (n : Int)) = true := by simpa using hzn
      have HALL := Lib.hid (show xs.all (fun x => decide (0 ≤ x) && decide (x < n)) = true from by
        cases e : xs.all (fun x => decide (0 ≤ x) && decide (x < n)) with
        | true => rfl
        | false => exact absurd (HAO.out.1 e) (by omega))
      obtain ⟨cl, hcl⟩ : ∃ cl, (Go.Lib.compact (sortL xs)).length = cl := ⟨_, rfl⟩
      have HRES := Lib.hid (show decide (askE n 1 xs = 0) = ((cl : Int) == (len : Int)) by
        rw [show ((cl : Int) == (len : Int)) = (cl == len) by rw [Bool.eq_iff_iff, beq_iff_eq, beq_iff_eq]; omega]
        have h1 := HTW.out
        rw [hcl, HLEN.out] at h1
        have h2 : cl ≤ len := by
          have := compact_len (sortL xs)
          have h3 := List.length_filter_le (Go.Lib.keeps (sortL xs).toArray) (List.range (sortL xs).length)
          rw [← this, hcl, List.length_range, HSL.out, HLEN.out] at h3
          exact h3
        unfold askE
        rw [if_pos HALL.out]
        by_cases hnd : xs.Nodup
        · rw [if_pos hnd, if_neg (by rw [HLEN.out]; omega)]
          have : cl = len := by
            have := mt h1.1
            by_cases q : cl < len
            · exact absurd hnd (h1.1 q)
            · omega
          simp [this]
        · rw [if_neg hnd]
          have := h1.2 hnd
          simp; omega)
      rw [hcl] at HCO
      have HCL := Lib.hid hcl
      clear hcl
      have z0 : w1.drew.cell? ⟨g, off, none⟩ = some (.int .i64 a) := x0
      have z1 : w1.drew.cell? ⟨g, off + last, none⟩ = some (.int .i64 z) := x1
      have z2 : w1.drew.cell? ⟨b, 3, none⟩ = some (.int .i64 (n : Int)) := d3
      have hli : (0 : Int) ≤ (last : Int) := by omega
      have hli2 : (last : Int) < (len : Int) := by omega
      have hwl : IntKind.i64.wrap (last : Int) = (last : Int) := by simp [IntKind.wrap, IntKind.signed, IntKind.bits]; omega
      have HOQ := Lib.hid (show ∀ W, Kept (fun k => (Value.slice (some ⟨g, off, none⟩) len cv).ownBlock = some k) w1.drew W → Below w.heap.size w W from fun W hk3 => (belowDrew' hB2).trans (hk3.toBelow hs2 (fun i h => HOB.out i h)))
      clear x0 x1 c3
      go_wp2_with fail
      refine q_start 31 (by as_aux_lemma => kernel_rfl) (by as_aux_lemma => kernel_rfl) ?_
      refine q_take 0 (by as_aux_lemma => kernel_rfl) (by as_aux_lemma => kernel_rfl) (by as_aux_lemma => kernel_rfl) (by as_aux_lemma => kernel_rfl) (fun oi ho => ?_)
      simp only [List.getElem?_toArray, List.getElem?_cons_succ, List.getElem?_cons_zero, Option.some.injEq] at ho
      subst ho
      refine ⟨?_, Or.inl ⟨by rfl, fun w _ => ?_⟩, ?_⟩
      rotate_left
      · (go_simp <;> with_reducible rfl)
      try simp only [Act.put, List.setIfInBounds_toArray, List.set_cons_zero, List.set_cons_succ]
      refine q_take 1 (by as_aux_lemma => kernel_rfl) (by as_aux_lemma => kernel_rfl) (by as_aux_lemma => kernel_rfl) (by as_aux_lemma => kernel_rfl) (fun oi ho => ?_)
      simp only [List.getElem?_toArray, List.getElem?_cons_succ, List.getElem?_cons_zero, Option.some.injEq] at ho
      subst ho
      refine ⟨?_, Or.inl ⟨by rfl, fun w _ => ?_⟩, ?_⟩
      rotate_left
      · (go_simp <;> with_reducible rfl)
      try simp only [Act.put, List.setIfInBounds_toArray, List.set_cons_zero, List.set_cons_succ]
      refine q_take 2 (by as_aux_lemma => kernel_rfl) (by as_aux_lemma => kernel_rfl) (by as_aux_lemma => kernel_rfl) (by as_aux_lemma => kernel_rfl) (fun oi ho => ?_)
      simp only [List.getElem?_toArray, List.getElem?_cons_succ, List.getElem?_cons_zero, Option.some.injEq] at ho
      subst ho
      refine ⟨?_, Or.inl ⟨by rfl, fun w _ => ?_⟩, ?_⟩
      rotate_left
      · (go_simp <;> with_reducible rfl)
      try simp only [Act.put, List.setIfInBounds_toArray, List.set_cons_zero, List.set_cons_succ]
      refine q_take 3 (by as_aux_lemma => kernel_rfl) (by as_aux_lemma => kernel_rfl) (by as_aux_lemma => kernel_rfl) (by as_aux_lemma => kernel_rfl) (fun oi ho => ?_)
      simp only [List.getElem?_toArray, List.getElem?_cons_succ, List.getElem?_cons_zero, Option.some.injEq] at ho
      subst ho
      refine ⟨?_, Or.inl ⟨by rfl, fun w _ => ?_⟩, ?_⟩
      rotate_left
      · (go_simp <;> with_reducible rfl)
      try simp only [Act.put, List.setIfInBounds_toArray, List.set_cons_zero, List.set_cons_succ]
      refine q_take 4 (by as_aux_lemma => kernel_rfl) (by as_aux_lemma => kernel_rfl) (by as_aux_lemma => kernel_rfl) (by as_aux_lemma => kernel_rfl) (fun oi ho => ?_)
      simp only [List.getElem?_toArray, List.getElem?_cons_succ, List.getElem?_cons_zero, Option.some.injEq] at ho
      subst ho
      refine ⟨?_, Or.inl ⟨by rfl, fun w _ => ?_⟩, ?_⟩
      rotate_left
      · (go_simp <;> with_reducible rfl)
      try simp only [Act.put, List.setIfInBounds_toArray, List.set_cons_zero, List.set_cons_succ]
      refine q_take 5 (by as_aux_lemma => kernel_rfl) (by as_aux_lemma => kernel_rfl) (by as_aux_lemma => kernel_rfl) (by as_aux_lemma => kernel_rfl) (fun oi ho => ?_)
      simp only [List.getElem?_toArray, List.getElem?_cons_succ, List.getElem?_cons_zero, Option.some.injEq] at ho
      subst ho
      refine ⟨?_, Or.inl ⟨by rfl, fun w _ => ?_⟩, ?_⟩
      rotate_left
      · (go_simp <;> with_reducible rfl)
      try simp only [Act.put, List.setIfInBounds_toArray, List.set_cons_zero, List.set_cons_succ]
      refine q_all (rs := [6]) (by as_aux_lemma => kernel_rfl) (by simp) ?_
      refine q_step 6 (by as_aux_lemma => kernel_rfl) (fun o ho K hK => ?_) AllReadyH.nil
      simp only [List.getElem?_toArray, List.getElem?_cons_succ, List.getElem?_cons_zero, Option.some.injEq] at ho
      subst ho
      go_simp
      refine hK.out _ _ ?_
      clear hK K
      try simp only [Act.put, List.setIfInBounds_toArray, List.set_cons_zero, List.set_cons_succ]
      refine q_take 7 (by as_aux_lemma => kernel_rfl) (by as_aux_lemma => kernel_rfl) (by as_aux_lemma => kernel_rfl) (by as_aux_lemma => kernel_rfl) (fun oi ho => ?_)
      simp only [List.getElem?_toArray, List.getElem?_cons_succ, List.getElem?_cons_zero, Option.some.injEq] at ho
      subst ho
      refine ⟨?_, Or.inl ⟨by rfl, fun w _ => ?_⟩, ?_⟩
      rotate_left
      · (go_simp <;> with_reducible rfl)
      try simp only [Act.put, List.setIfInBounds_toArray, List.set_cons_zero, List.set_cons_succ]
      refine q_take 8 (by as_aux_lemma => kernel_rfl) (by as_aux_lemma => kernel_rfl) (by as_aux_lemma => kernel_rfl) (by as_aux_lemma => kernel_rfl) (fun oi ho => ?_)
      simp only [List.getElem?_toArray, List.getElem?_cons_succ, List.getElem?_cons_zero, Option.some.injEq] at ho
      subst ho
      refine ⟨?_, Or.inl ⟨by rfl, fun w _ => ?_⟩, ?_⟩
      rotate_left
      · (go_simp <;> with_reducible rfl)
      try simp only [Act.put, List.setIfInBounds_toArray, List.set_cons_zero, List.set_cons_succ]
      refine q_take 9 (by as_aux_lemma => kernel_rfl) (by as_aux_lemma => kernel_rfl) (by as_aux_lemma => kernel_rfl) (by as_aux_lemma => kernel_rfl) (fun oi ho => ?_)
      simp only [List.getElem?_toArray, List.getElem?_cons_succ, List.getElem?_cons_zero, Option.some.injEq] at ho
      subst ho
      refine ⟨?_, Or.inl ⟨by rfl, fun w _ => ?_⟩, ?_⟩
      rotate_left
      · (go_simp <;> with_reducible rfl)
      try simp only [Act.put, List.setIfInBounds_toArray, List.set_cons_zero, List.set_cons_succ]
      refine q_take 10 (by as_aux_lemma => kernel_rfl) (by as_aux_lemma => kernel_rfl) (by as_aux_lemma => kernel_rfl) (by as_aux_lemma => kernel_rfl) (fun oi ho => ?_)
      simp only [List.getElem?_toArray, List.getElem?_cons_succ, List.getElem?_cons_zero, Option.some.injEq] at ho
      subst ho
      refine ⟨?_, Or.inl ⟨by rfl, fun w _ => ?_⟩, ?_⟩
      rotate_left
      · (go_simp <;> with_reducible rfl)
      try simp only [Act.put, List.setIfInBounds_toArray, List.set_cons_zero, List.set_cons_succ]
      refine q_take 11 (by as_aux_lemma => kernel_rfl) (by as_aux_lemma => kernel_rfl) (by as_aux_lemma => kernel_rfl) (by as_aux_lemma => kernel_rfl) (fun oi ho => ?_)
      simp only [List.getElem?_toArray, List.getElem?_cons_succ, List.getElem?_cons_zero, Option.some.injEq] at ho
      subst ho
      refine ⟨?_, Or.inl ⟨by rfl, fun w _ => ?_⟩, ?_⟩
      rotate_left
      · (go_simp <;> with_reducible rfl)
      try simp only [Act.put, List.setIfInBounds_toArray, List.set_cons_zero, List.set_cons_succ]
      refine q_take 12 (by as_aux_lemma => kernel_rfl) (by as_aux_lemma => kernel_rfl) (by as_aux_lemma => kernel_rfl) (by as_aux_lemma => kernel_rfl) (fun oi ho => ?_)
      simp only [List.getElem?_toArray, List.getElem?_cons_succ, List.getElem?_cons_zero, Option.some.injEq] at ho
      subst ho
      refine ⟨?_, Or.inl ⟨by rfl, fun w _ => ?_⟩, ?_⟩
      rotate_left
      · (go_simp <;> with_reducible rfl)
      try simp only [Act.put, List.setIfInBounds_toArray, List.set_cons_zero, List.set_cons_succ]
      refine q_take 13 (by as_aux_lemma => kernel_rfl) (by as_aux_lemma => kernel_rfl) (by as_aux_lemma => kernel_rfl) (by as_aux_lemma => kernel_rfl) (fun oi ho => ?_)
      simp only [List.getElem?_toArray, List.getElem?_cons_succ, List.getElem?_cons_zero, Option.some.injEq] at ho
      subst ho
      refine ⟨?_, Or.inl ⟨by rfl, fun w _ => ?_⟩, ?_⟩
      rotate_left
      · (go_simp <;> with_reducible rfl)
      try simp only [Act.put, List.setIfInBounds_toArray, List.set_cons_zero, List.set_cons_succ]
      refine q_take 14 (by as_aux_lemma => kernel_rfl) (by as_aux_lemma => kernel_rfl) (by as_aux_lemma => kernel_rfl) (by as_aux_lemma => kernel_rfl) (fun oi ho => ?_)
      simp only [List.getElem?_toArray, List.getElem?_cons_succ, List.getElem?_cons_zero, Option.some.injEq] at ho
      subst ho
      refine ⟨?_, Or.inl ⟨by rfl, fun w _ => ?_⟩, ?_⟩
      rotate_left
      · (go_simp <;> with_reducible rfl)
      try simp only [Act.put, List.setIfInBounds_toArray, List.set_cons_zero, List.set_cons_succ]
      refine q_take 16 (by as_aux_lemma => kernel_rfl) (by as_aux_lemma => kernel_rfl) (by as_aux_lemma => kernel_rfl) (by as_aux_lemma => kernel_rfl) (fun oi ho => ?_)
      simp only [List.getElem?_toArray, List.getElem?_cons_succ, List.getElem?_cons_zero, Option.some.injEq] at ho
      subst ho
      refine ⟨?_, Or.inl ⟨by rfl, fun w _ => ?_⟩, ?_⟩
      rotate_left
      · (go_simp <;> with_reducible rfl)
      try simp only [Act.put, List.setIfInBounds_toArray, List.set_cons_zero, List.set_cons_succ]
      refine q_take 17 (by as_aux_lemma => kernel_rfl) (by as_aux_lemma => kernel_rfl) (by as_aux_lemma => kernel_rfl) (by as_aux_lemma => kernel_rfl) (fun oi ho => ?_)
      simp only [List.getElem?_toArray, List.getElem?_cons_succ, List.getElem?_cons_zero, Option.some.injEq] at ho
      subst ho
      refine ⟨?_, Or.inl ⟨by rfl, fun w _ => ?_⟩, ?_⟩
      rotate_left
      · (go_simp <;> with_reducible rfl)
      try simp only [Act.put, List.setIfInBounds_toArray, List.set_cons_zero, List.set_cons_succ]
      refine q_take 18 (by as_aux_lemma => kernel_rfl) (by as_aux_lemma => kernel_rfl) (by as_aux_lemma => kernel_rfl) (by as_aux_lemma => kernel_rfl) (fun oi ho => ?_)
      simp only [List.getElem?_toArray, List.getElem?_cons_succ, List.getElem?_cons_zero, Option.some.injEq] at ho
      subst ho
      refine ⟨?_, Or.inl ⟨by rfl, fun w _ => ?_⟩, ?_⟩
      rotate_left
      · (go_simp <;> with_reducible rfl)
      try simp only [Act.put, List.setIfInBounds_toArray, List.set_cons_zero, List.set_cons_succ]
      refine q_all (rs := [15, 19]) (by as_aux_lemma => kernel_rfl) (by simp) ?_
      refine q_step 15 (by as_aux_lemma => kernel_rfl) (fun o ho K hK => ?_) ?_
      · simp only [List.getElem?_toArray, List.getElem?_cons_succ, List.getElem?_cons_zero, Option.some.injEq] at ho
        subst ho
        go_simp
        refine hK.out _ _ ?_
        clear hK K
        try simp only [Act.put, List.setIfInBounds_toArray, List.set_cons_zero, List.set_cons_succ]
        refine q_all (rs := [19]) (by as_aux_lemma => kernel_rfl) (by simp) ?_
        refine q_step 19 (by as_aux_lemma => kernel_rfl) (fun o ho K hK => ?_) AllReadyH.nil
        simp only [List.getElem?_toArray, List.getElem?_cons_succ, List.getElem?_cons_zero, Option.some.injEq] at ho
        subst ho
        go_simp
        refine hK.out _ _ ?_
        clear hK K
        try simp only [Act.put, List.setIfInBounds_toArray, List.set_cons_zero, List.set_cons_succ]
        refine q_take 20 (by as_aux_lemma => kernel_rfl) (by as_aux_lemma => kernel_rfl) (by as_aux_lemma => kernel_rfl) (by as_aux_lemma => kernel_rfl) (fun oi ho => ?_)
        simp only [List.getElem?_toArray, List.getElem?_cons_succ, List.getElem?_cons_zero, Option.some.injEq] at ho
        subst ho
        refine ⟨?_, Or.inl ⟨by rfl, fun w _ => ?_⟩, ?_⟩
        rotate_left
        · (go_simp <;> with_reducible rfl)
        try simp only [Act.put, List.setIfInBounds_toArray, List.set_cons_zero, List.set_cons_succ]
        refine q_take 21 (by as_aux_lemma => kernel_rfl) (by as_aux_lemma => kernel_rfl) (by as_aux_lemma => kernel_rfl) (by as_aux_lemma => kernel_rfl) (fun oi ho => ?_)
        simp only [List.getElem?_toArray, List.getElem?_cons_succ, List.getElem?_cons_zero, Option.some.injEq] at ho
        subst ho
        refine ⟨?_, Or.inl ⟨by rfl, fun w _ => ?_⟩, ?_⟩
        rotate_left
        · (go_simp <;> with_reducible rfl)
        try simp only [Act.put, List.setIfInBounds_toArray, List.set_cons_zero, List.set_cons_succ]
        refine q_take 22 (by as_aux_lemma => kernel_rfl) (by as_aux_lemma => kernel_rfl) (by as_aux_lemma => kernel_rfl) (by as_aux_lemma => kernel_rfl) (fun oi ho => ?_)
        simp only [List.getElem?_toArray, List.getElem?_cons_succ, List.getElem?_cons_zero, Option.some.injEq] at ho
        subst ho
        refine ⟨?_, Or.inl ⟨by rfl, fun w _ => ?_⟩, ?_⟩
        rotate_left
        · (go_simp <;> with_reducible rfl)
        try simp only [Act.put, List.setIfInBounds_toArray, List.set_cons_zero, List.set_cons_succ]
        refine q_take 23 (by as_aux_lemma => kernel_rfl) (by as_aux_lemma => kernel_rfl) (by as_aux_lemma => kernel_rfl) (by as_aux_lemma => kernel_rfl) (fun oi ho => ?_)
        simp only [List.getElem?_toArray, List.getElem?_cons_succ, List.getElem?_cons_zero, Option.some.injEq] at ho
        subst ho
        refine ⟨?_, Or.inl ⟨by rfl, fun w _ => ?_⟩, ?_⟩
        rotate_left
        · (go_simp <;> with_reducible rfl)
        try simp only [Act.put, List.setIfInBounds_toArray, List.set_cons_zero, List.set_cons_succ]
        refine q_take 26 (by as_aux_lemma => kernel_rfl) (by as_aux_lemma => kernel_rfl) (by as_aux_lemma => kernel_rfl) (by as_aux_lemma => kernel_rfl) (fun oi ho => ?_)
        simp only [List.getElem?_toArray, List.getElem?_cons_succ, List.getElem?_cons_zero, Option.some.injEq] at ho
        subst ho
        refine ⟨?_, Or.inl ⟨by rfl, fun w _ => ?_⟩, ?_⟩
        rotate_left
        · (go_simp <;> with_reducible rfl)
        try simp only [Act.put, List.setIfInBounds_toArray, List.set_cons_zero, List.set_cons_succ]
        refine q_take 27 (by as_aux_lemma => kernel_rfl) (by as_aux_lemma => kernel_rfl) (by as_aux_lemma => kernel_rfl) (by as_aux_lemma => kernel_rfl) (fun oi ho => ?_)
        simp only [List.getElem?_toArray, List.getElem?_cons_succ, List.getElem?_cons_zero, Option.some.injEq] at ho
        subst ho
        refine ⟨?_, Or.inl ⟨by rfl, fun w _ => ?_⟩, ?_⟩
        rotate_left
        · (go_simp <;> with_reducible rfl)
        try simp only [Act.put, List.setIfInBounds_toArray, List.set_cons_zero, List.set_cons_succ]
        refine q_all (rs := [24]) (by as_aux_lemma => kernel_rfl) (by simp) ?_
        refine q_step 24 (by as_aux_lemma => kernel_rfl) (fun o ho K hK => ?_) AllReadyH.nil
        simp only [List.getElem?_toArray, List.getElem?_cons_succ, List.getElem?_cons_zero, Option.some.injEq] at ho
        subst ho
        go_simp
        go_at_call 54
        refine (HCO.out w1.drew (belowDrew' (Below.refl _ w1))).mono ?_
        rintro e w3 ⟨p3, c3, rfl, hk3⟩
        have HB3 := Lib.hid (HOQ.out _ hk3)
        clear hk3
        go_wp2_with fail
        refine hK.out _ _ ?_
        clear hK K
        try simp only [Act.put, List.setIfInBounds_toArray, List.set_cons_zero, List.set_cons_succ]
        refine q_take 25 (by as_aux_lemma => kernel_rfl) (by as_aux_lemma => kernel_rfl) (by as_aux_lemma => kernel_rfl) (by as_aux_lemma => kernel_rfl) (fun oi ho => ?_)
        simp only [List.getElem?_toArray, List.getElem?_cons_succ, List.getElem?_cons_zero, Option.some.injEq] at ho
        subst ho
        refine ⟨?_, Or.inl ⟨by rfl, fun w _ => ?_⟩, ?_⟩
        rotate_left
        · (go_simp <;> with_reducible rfl)
        try simp only [Act.put, List.setIfInBounds_toArray, List.set_cons_zero, List.set_cons_succ]
        refine q_take 28 (by as_aux_lemma => kernel_rfl) (by as_aux_lemma => kernel_rfl) (by as_aux_lemma => kernel_rfl) (by as_aux_lemma => kernel_rfl) (fun oi ho => ?_)
        simp only [List.getElem?_toArray, List.getElem?_cons_succ, List.getElem?_cons_zero, Option.some.injEq] at ho
        subst ho
        refine ⟨?_, Or.inl ⟨by rfl, fun w _ => ?_⟩, ?_⟩
        rotate_left
        · (go_simp <;> with_reducible rfl)
        try simp only [Act.put, List.setIfInBounds_toArray, List.set_cons_zero, List.set_cons_succ]
        refine q_take 29 (by as_aux_lemma => kernel_rfl) (by as_aux_lemma => kernel_rfl) (by as_aux_lemma => kernel_rfl) (by as_aux_lemma => kernel_rfl) (fun oi ho => ?_)
        simp only [List.getElem?_toArray, List.getElem?_cons_succ, List.getElem?_cons_zero, Option.some.injEq] at ho
        subst ho
        refine ⟨?_, Or.inl ⟨by rfl, fun w _ => ?_⟩, ?_⟩
        rotate_left
        · (go_simp <;> with_reducible rfl)
        try simp only [Act.put, List.setIfInBounds_toArray, List.set_cons_zero, List.set_cons_succ]
        refine q_take 30 (by as_aux_lemma => kernel_rfl) (by as_aux_lemma => kernel_rfl) (by as_aux_lemma => kernel_rfl) (by as_aux_lemma => kernel_rfl) (fun oi ho => ?_)
        simp only [List.getElem?_toArray, List.getElem?_cons_succ, List.getElem?_cons_zero, Option.some.injEq] at ho
        subst ho
        refine ⟨?_, Or.inl ⟨by rfl, fun w _ => ?_⟩, ?_⟩
        rotate_left
        · (go_simp <;> with_reducible rfl)
        try simp only [Act.put, List.setIfInBounds_toArray, List.set_cons_zero, List.set_cons_succ]
        refine q_done (by as_aux_lemma => kernel_rfl) ?_
        go_wp2
        go_ret
        exact ⟨by rw [HRES.out]; rfl, HB3.out⟩
      refine q_step 19 (by as_aux_lemma => kernel_rfl) (fun o ho K hK => ?_) ?_
      · simp only [List.getElem?_toArray, List.getElem?_cons_succ, List.getElem?_cons_zero, Option.some.injEq] at ho
        subst ho
        go_simp
        refine hK.out _ _ ?_
        clear hK K
        try simp only [Act.put, List.setIfInBounds_toArray, List.set_cons_zero, List.set_cons_succ]
        refine q_all (rs := [15]) (by as_aux_lemma => kernel_rfl) (by simp) ?_
        refine q_step 15 (by as_aux_lemma => kernel_rfl) (fun o ho K hK => ?_) AllReadyH.nil
        simp only [List.getElem?_toArray, List.getElem?_cons_succ, List.getElem?_cons_zero, Option.some.injEq] at ho
        subst ho
        go_simp
        refine hK.out _ _ ?_
        clear hK K
        try simp only [Act.put, List.setIfInBounds_toArray, List.set_cons_zero, List.set_cons_succ]
        refine q_take 20 (by as_aux_lemma => kernel_rfl) (by as_aux_lemma => kernel_rfl) (by as_aux_lemma => kernel_rfl) (by as_aux_lemma => kernel_rfl) (fun oi ho => ?_)
        simp only [List.getElem?_toArray, List.getElem?_cons_succ, List.getElem?_cons_zero, Option.some.injEq] at ho
        subst ho
        refine ⟨?_, Or.inl ⟨by rfl, fun w _ => ?_⟩, ?_⟩
        rotate_left
        · (go_simp <;> with_reducible rfl)
        try simp only [Act.put, List.setIfInBounds_toArray, List.set_cons_zero, List.set_cons_succ]
        refine q_take 21 (by as_aux_lemma => kernel_rfl) (by as_aux_lemma => kernel_rfl) (by as_aux_lemma => kernel_rfl) (by as_aux_lemma => kernel_rfl) (fun oi ho => ?_)
        simp only [List.getElem?_toArray, List.getElem?_cons_succ, List.getElem?_cons_zero, Option.some.injEq] at ho
        subst ho
        refine ⟨?_, Or.inl ⟨by rfl, fun w _ => ?_⟩, ?_⟩
        rotate_left
        · (go_simp <;> with_reducible rfl)
        try simp only [Act.put, List.setIfInBounds_toArray, List.set_cons_zero, List.set_cons_succ]
        refine q_take 22 (by as_aux_lemma => kernel_rfl) (by as_aux_lemma => kernel_rfl) (by as_aux_lemma => kernel_rfl) (by as_aux_lemma => kernel_rfl) (fun oi ho => ?_)
        simp only [List.getElem?_toArray, List.getElem?_cons_succ, List.getElem?_cons_zero, Option.some.injEq] at ho
        subst ho
        refine ⟨?_, Or.inl ⟨by rfl, fun w _ => ?_⟩, ?_⟩
        rotate_left
        · (go_simp <;> with_reducible rfl)
        try simp only [Act.put, List.setIfInBounds_toArray, List.set_cons_zero, List.set_cons_succ]
        refine q_take 23 (by as_aux_lemma => kernel_rfl) (by as_aux_lemma => kernel_rfl) (by as_aux_lemma => kernel_rfl) (by as_aux_lemma => kernel_rfl) (fun oi ho => ?_)
        simp only [List.getElem?_toArray, List.getElem?_cons_succ, List.getElem?_cons_zero, Option.some.injEq] at ho
        subst ho
        refine ⟨?_, Or.inl ⟨by rfl, fun w _ => ?_⟩, ?_⟩
        rotate_left
        · (go_simp <;> with_reducible rfl)
        try simp only [Act.put, List.setIfInBounds_toArray, List.set_cons_zero, List.set_cons_succ]
        refine q_take 26 (by as_aux_lemma => kernel_rfl) (by as_aux_lemma => kernel_rfl) (by as_aux_lemma => kernel_rfl) (by as_aux_lemma => kernel_rfl) (fun oi ho => ?_)
        simp only [List.getElem?_toArray, List.getElem?_cons_succ, List.getElem?_cons_zero, Option.some.injEq] at ho
        subst ho
        refine ⟨?_, Or.inl ⟨by rfl, fun w _ => ?_⟩, ?_⟩
        rotate_left
        · (go_simp <;> with_reducible rfl)
        try simp only [Act.put, List.setIfInBounds_toArray, List.set_cons_zero, List.set_cons_succ]
        refine q_take 27 (by as_aux_lemma => kernel_rfl) (by as_aux_lemma => kernel_rfl) (by as_aux_lemma => kernel_rfl) (by as_aux_lemma => kernel_rfl) (fun oi ho => ?_)
        simp only [List.getElem?_toArray, List.getElem?_cons_succ, List.getElem?_cons_zero, Option.some.injEq] at ho
        subst ho
        refine ⟨?_, Or.inl ⟨by rfl, fun w _ => ?_⟩, ?_⟩
        rotate_left
        · (go_simp <;> with_reducible rfl)
        try simp only [Act.put, List.setIfInBounds_toArray, List.set_cons_zero, List.set_cons_succ]
        refine q_all (rs := [24]) (by as_aux_lemma => kernel_rfl) (by simp) ?_
        refine q_step 24 (by as_aux_lemma => kernel_rfl) (fun o ho K hK => ?_) AllReadyH.nil
        simp only [List.getElem?_toArray, List.getElem?_cons_succ, List.getElem?_cons_zero, Option.some.injEq] at ho
        subst ho
        go_simp
        go_at_call 54
        refine (HCO.out w1.drew (belowDrew' (Below.refl _ w1))).mono ?_
        rintro e w3 ⟨p3, c3, rfl, hk3⟩
        have HB3 := Lib.hid (HOQ.out _ hk3)
        clear hk3
        go_wp2_with fail
        refine hK.out _ _ ?_
        clear hK K
        try simp only [Act.put, List.setIfInBounds_toArray, List.set_cons_zero, List.set_cons_succ]
        refine q_take 25 (by as_aux_lemma => kernel_rfl) (by as_aux_lemma => kernel_rfl) (by as_aux_lemma => kernel_rfl) (by as_aux_lemma => kernel_rfl) (fun oi ho => ?_)
        simp only [List.getElem?_toArray, List.getElem?_cons_succ, List.getElem?_cons_zero, Option.some.injEq] at ho
        subst ho
        refine ⟨?_, Or.inl ⟨by rfl, fun w _ => ?_⟩, ?_⟩
        rotate_left
        · (go_simp <;> with_reducible rfl)
        try simp only [Act.put, List.setIfInBounds_toArray, List.set_cons_zero, List.set_cons_succ]
        refine q_take 28 (by as_aux_lemma => kernel_rfl) (by as_aux_lemma => kernel_rfl) (by as_aux_lemma => kernel_rfl) (by as_aux_lemma => kernel_rfl) (fun oi ho => ?_)
        simp only [List.getElem?_toArray, List.getElem?_cons_succ, List.getElem?_cons_zero, Option.some.injEq] at ho
        subst ho
        refine ⟨?_, Or.inl ⟨by rfl, fun w _ => ?_⟩, ?_⟩
        rotate_left
        · (go_simp <;> with_reducible rfl)
        try simp only [Act.put, List.setIfInBounds_toArray, List.set_cons_zero, List.set_cons_succ]
        refine q_take 29 (by as_aux_lemma => kernel_rfl) (by as_aux_lemma => kernel_rfl) (by as_aux_lemma => kernel_rfl) (by as_aux_lemma => kernel_rfl) (fun oi ho => ?_)
        simp only [List.getElem?_toArray, List.getElem?_cons_succ, List.getElem?_cons_zero, Option.some.injEq] at ho
        subst ho
        refine ⟨?_, Or.inl ⟨by rfl, fun w _ => ?_⟩, ?_⟩
        rotate_left
        · (go_simp <;> with_reducible rfl)
        try simp only [Act.put, List.setIfInBounds_toArray, List.set_cons_zero, List.set_cons_succ]
        refine q_take 30 (by as_aux_lemma => kernel_rfl) (by as_aux_lemma => kernel_rfl) (by as_aux_lemma => kernel_rfl) (by as_aux_lemma => kernel_rfl) (fun oi ho => ?_)
        simp only [List.getElem?_toArray, List.getElem?_cons_succ, List.getElem?_cons_zero, Option.some.injEq] at ho
        subst ho
        refine ⟨?_, Or.inl ⟨by rfl, fun w _ => ?_⟩, ?_⟩
        rotate_left
        · (go_simp <;> with_reducible rfl)
        try simp only [Act.put, List.setIfInBounds_toArray, List.set_cons_zero, List.set_cons_succ]
        refine q_done (by as_aux_lemma => kernel_rfl) ?_
        go_wp2
        go_ret
        exact ⟨by rw [HRES.out]; rfl, HB3.out⟩
      exact AllReadyH.nil

end Go.Proofs.YtlmpagicjgldkaaGreat
