/-
  RefM: Walks of the reference, layer 5 (code): asked.
  RefN: Walks of the reference, layer 5 (code): Turn.
-/
import Derived.Test.YtanjchpkekehgaaGreatMxbg
import Derived.Test.YtanjchpkekehgaaGreatMxan
namespace Go.Proofs.YtanjchpkekehgaaGreat

section -- RefM
open Go.RowKit Go.Maps
set_option linter.unusedVariables false
set_option maxRecDepth 100000
set_option maxHeartbeats 4000000

theorem take_snocI {xs : List Int} {m : Nat} (h : m < xs.length) : xs.take (m + 1) = xs.take m ++ [xs.getD m 0] := by
  rw [List.take_succ_eq_append_getElem h, List.getD_eq_getElem?_getD, List.getElem?_eq_getElem h]; rfl
theorem getI {xs : List Int} {i : Nat} (h : i < xs.length) : xs.getD i 0 = xs[i] := by rw [List.getD_eq_getElem?_getD, List.getElem?_eq_getElem h]; rfl
theorem nodup_take {xs : List Int} {m : Nat} (h : m < xs.length) : ¬ (xs.take (m + 1)).Nodup ↔ (¬ (xs.take m).Nodup ∨ ∃ j, j < m ∧ xs.getD j 0 = xs.getD m 0) := by
  have hmem : xs.getD m 0 ∈ xs.take m ↔ ∃ j, j < m ∧ xs.getD j 0 = xs.getD m 0 := by
    constructor
    · intro hh
      obtain ⟨j, hj, e⟩ := List.mem_iff_getElem.1 hh
      have hj' : j < m := by rw [List.length_take] at hj; omega
      refine ⟨j, hj', ?_⟩
      rw [List.getElem_take] at e
      rw [← e, getI (by omega)]
    · rintro ⟨j, hj, e⟩
      rw [← e, List.mem_iff_getElem]
      refine ⟨j, by simp; omega, ?_⟩
      rw [List.getElem_take, getI (by omega)]
  rw [take_snocI h, List.nodup_append, ← hmem]
  by_cases h1 : (xs.take m).Nodup <;> by_cases h2 : xs.getD m 0 ∈ xs.take m
  · simp only [h1, h2, true_and, not_true, false_or, iff_true]
    intro ⟨_, q⟩
    exact q _ h2 _ (by simp) rfl
  · simp only [h1, h2, true_and, not_true, or_self, iff_false, Classical.not_not]
    refine ⟨by simp, fun a ha b hb e => h2 ?_⟩
    rw [List.mem_singleton] at hb
    rw [← hb, ← e]; exact ha
  · simp [h1]
  · simp [h1]

theorem askE_arg {n k : Nat} {xs : List Int} {m : Nat} (h : m < xs.length) (hx : xs.getD m 0 < 0 ∨ (n : Int) ≤ xs.getD m 0) : askE n k xs = 2 := by
  unfold askE
  rw [if_neg]
  intro hh
  rw [List.all_eq_true] at hh
  have := hh (xs.getD m 0) (by rw [List.getD_eq_getElem?_getD, List.getElem?_eq_getElem h]; exact List.getElem_mem h)
  simp only [Bool.and_eq_true, decide_eq_true_eq] at this
  omega
theorem askE_in {n k : Nat} {xs : List Int} (h : ∀ j, j < xs.length → 0 ≤ xs.getD j 0 ∧ xs.getD j 0 < n) : askE n k xs = if xs.Nodup then (if xs.length < k then 8 else 0) else 9 := by
  unfold askE
  rw [if_pos]
  rw [List.all_eq_true]
  intro x hx
  obtain ⟨j, hj, rfl⟩ := List.mem_iff_getElem.1 hx
  have := h j hj
  rw [List.getD_eq_getElem?_getD, List.getElem?_eq_getElem hj] at this
  simp at this ⊢
  exact this

theorem rasked_any (w : World) {b n k : Nat} (hc : RCoderAt w b n k) (v : Value) (xs : List Int) (hv : IntsAt w v xs) (hl : xs.length ≤ 1000000) :
    Calls Tryz.prog 62 #[.pointer (some ⟨b, 0, none⟩), v] w fun e w' => e = .returned (.int .i64 (askE n k xs)) ∧ ∃ q, w' = w.drewN q := by
  have d0 := hc.c0
  have d1 := hc.c1
  obtain ⟨p, cap, rfl, hcap, hh⟩ := hv
  have HH := Lib.hid hh
  obtain ⟨L, hL⟩ : ∃ L, xs.length = L := ⟨_, rfl⟩
  rw [hL] at HH hcap hl ⊢
  have HL := Lib.hid hL
  obtain ⟨r, hr⟩ : ∃ r, askE n k xs = r := ⟨_, rfl⟩
  rw [hr]
  have HR := Lib.hid hr
  clear hh hc hL hr
  go_enter Tryz.func62, Tryz.ntmps62
  go_wp2
  go_loopw [5, 6, 7] (fun t i _ wr => ∃ (m q : Nat) (tw : Bool), m ≤ L ∧ i = .int .i64 (m : Int) ∧ t = .bool tw ∧ (tw = true ↔ ¬ (xs.take m).Nodup) ∧ (∀ j, j < m → 0 ≤ xs.getD j 0 ∧ xs.getD j 0 < n) ∧ wr = w.drewN q) (fun _ i _ _ => L - (intOf i).toNat)
  case atStart => exact ⟨0, 0, false, Nat.zero_le _, rfl, rfl, by simp, fun j h => absurd h (by omega), rfl⟩
  case round =>
    obtain ⟨m, q, tw, hm, rfl, rfl, htw, hin, rfl⟩ := hrel
    have HTW := Lib.hid htw
    have HIN := Lib.hid hin
    clear htw hin
    by_cases hlt : m < L
    · obtain ⟨g, off, rfl, hcc⟩ := HH.out (by omega)
      have HC := Lib.hid hcc
      have x0 := hcc m hlt
      obtain ⟨x, hx⟩ : ∃ x, xs.getD m 0 = x := ⟨_, rfl⟩
      rw [hx] at x0
      have HX := Lib.hid hx
      clear hcc hx
      by_cases h0 : x < 0
      · have HE := Lib.hid (show r = 2 by rw [← HR.out]; exact askE_arg (m := m) (by rw [HL.out]; exact hlt) (.inl (by rw [HX.out]; exact h0)))
        go_wp2_with fail
        go_quiet (fail)
        go_wp2
        go_ret
        exact ⟨by rw [HE.out]; rfl, _, by first | rfl | rw [World.drewN_drewN]⟩
      · by_cases hn : (n : Int) ≤ x
        · have HE := Lib.hid (show r = 2 by rw [← HR.out]; exact askE_arg (m := m) (by rw [HL.out]; exact hlt) (.inr (by rw [HX.out]; exact hn)))
          go_wp2_with fail
          go_quiet (fail)
          go_wp2
          go_ret
          exact ⟨by rw [HE.out]; rfl, _, by first | rfl | rw [World.drewN_drewN]⟩
        · go_wp2_with fail
          go_quiet (fail)
          go_wp2
          go_loopw [5, 7] (fun t i wr => ∃ (j q : Nat) (tw : Bool), j ≤ m ∧ i = .int .i64 (j : Int) ∧ t = .bool tw ∧ (tw = true ↔ ¬ (xs.take m).Nodup ∨ ∃ a, a < j ∧ xs.getD a 0 = x) ∧ wr = w.drewN q) (fun _ i _ => m - (intOf i).toNat)
          case atStart => exact ⟨0, q + nq, tw, Nat.zero_le _, rfl, rfl, by rw [HTW.out]; simp, by first | rfl | rw [World.drewN_drewN]⟩
          case round =>
            obtain ⟨j, q2, t2, hj, rfl, rfl, ht2, rfl⟩ := hrel
            have HT2 := Lib.hid ht2
            clear ht2
            by_cases hlt2 : j < m
            · have y0 := HC.out j (by omega)
              obtain ⟨y, hy⟩ : ∃ y, xs.getD j 0 = y := ⟨_, rfl⟩
              rw [hy] at y0
              have HY := Lib.hid hy
              clear hy
              cases t2 with
              | true =>
                go_wp2_with fail
                go_quiet (fail)
                go_wp2
                go_roundw
                case rel => exact ⟨j + 1, _, true, by omega, by go_num, rfl, by
                  simp only [true_iff]
                  rcases HT2.out.1 (by simp) with h | ⟨a, h1, h2⟩
                  · exact .inl h
                  · exact .inr ⟨a, by omega, h2⟩, by first | rfl | rw [World.drewN_drewN]⟩
                case measure => simp [intOf]; omega
              | false =>
                by_cases hyx : y = x
                · subst hyx
                  go_wp2_with fail
                  go_quiet (fail)
                  go_wp2
                  go_roundw
                  case rel => exact ⟨j + 1, _, true, by omega, by go_num, by simp, by
                    simp only [true_iff]
                    exact .inr ⟨j, by omega, HY.out⟩, by first | rfl | rw [World.drewN_drewN]⟩
                  case measure => simp [intOf]; omega
                · have hyx2 : (y == x) = false := by simpa using hyx
                  go_wp2_with fail
                  go_quiet (fail)
                  go_wp2
                  go_roundw
                  case rel => exact ⟨j + 1, _, false, by omega, by go_num, by simp, by
                    simp only [Bool.false_eq_true, false_iff]
                    intro h
                    refine absurd (HT2.out.2 ?_) (by simp)
                    rcases h with h | ⟨a, h1, h2⟩
                    · exact .inl h
                    · by_cases e : a = j
                      · subst e; exact absurd (HY.out.symm.trans h2) hyx
                      · exact .inr ⟨a, by omega, h2⟩, by first | rfl | rw [World.drewN_drewN]⟩
                  case measure => simp [intOf]; omega
            · obtain rfl : j = m := by omega
              have HN := Lib.hid (show t2 = true ↔ ¬ (xs.take (j + 1)).Nodup by rw [HT2.out, nodup_take (by rw [HL.out]; exact hlt), HX.out])
              have HI2 := Lib.hid (show ∀ a, a < j + 1 → 0 ≤ xs.getD a 0 ∧ xs.getD a 0 < n from fun a ha => by
                by_cases e : a = j
                · rw [e, HX.out]; omega
                · exact HIN.out a (by omega))
              go_wp2
              go_roundw
              case rel => exact ⟨j + 1, q2, t2, by omega, by go_num, rfl, HN.out, HI2.out, rfl⟩
              case measure => simp [intOf]; omega
    · obtain rfl : m = L := by omega
      have HE := Lib.hid (show r = if xs.Nodup then (if xs.length < k then 8 else 0) else 9 by rw [← HR.out]; exact askE_in (fun j hj => HIN.out j (by rw [← HL.out]; exact hj)))
      have HTK := Lib.hid (show xs.take m = xs by rw [← HL.out, List.take_length])
      cases tw with
      | true =>
        have HE2 := Lib.hid (show r = 9 by rw [HE.out, if_neg (by have := HTW.out.1 (by simp); rwa [HTK.out] at this)])
        go_wp2
        go_ret
        exact ⟨by rw [HE2.out]; rfl, q, rfl⟩
      | false =>
        have hnd : xs.Nodup := by
          have := HTW.out
          rw [HTK.out] at this
          by_cases e : xs.Nodup
          · exact e
          · exact absurd (this.2 e) (by simp)
        by_cases hk : m < k
        · have HE2 := Lib.hid (show r = 8 by rw [HE.out, if_pos hnd, if_pos (by rw [HL.out]; exact hk)])
          clear hnd
          go_wp2
          go_ret
          exact ⟨by rw [HE2.out]; rfl, q, rfl⟩
        · have HE2 := Lib.hid (show r = 0 by rw [HE.out, if_pos hnd, if_neg (by rw [HL.out]; exact hk)])
          clear hnd
          go_wp2
          go_ret
          exact ⟨by rw [HE2.out]; rfl, q, rfl⟩
end -- RefM

section -- RefN
open Go.RowKit Go.Maps
set_option linter.unusedVariables false
set_option maxRecDepth 100000
set_option maxHeartbeats 4000000

theorem idxB_snoc {m : Nat} {xs : List Int} (h : m < xs.length) : idxB (xs.take m) ++ [ofB (xs.getD m 0).toNat] = idxB (xs.take (m + 1)) := by
  rw [take_snocI h]; simp [idxB]
theorem turnL_len (k : Nat) (ys : List B) : (turnL k ys).length = k := by simp [turnL]
theorem turnL_succ (k : Nat) (ys : List B) : turnL (k + 1) ys = turnL k ys ++ [wtsL ys (ofB k)] := by simp [turnL, List.range_succ]
end -- RefN

end Go.Proofs.YtanjchpkekehgaaGreat
