/-
  ask: errors.
-/
import Derived.Test.YtlmpagicjgldkaaCaH
namespace Go.Proofs.Ytlmpagicjgldkaa
open Go.RowKit Go.Maps
set_option linter.unusedVariables false
set_option linter.unusedSimpArgs false
set_option maxRecDepth 100000
set_option maxHeartbeats 1500000

/-- The key of indexes that are none. -/
def OfNo (w : World) (e : Ending) (w' : World) : Prop := ∃ k' xs', Idx k' xs' ∧ e = .returned (.tuple #[keyV k' xs', .bool false]) ∧ Below w.heap.size w w'
theorem of_no1 (w : World) {F : Nat → Prop} {b bm : Nat} {s : CS} (hc : CacheAt w F b bm s) (k : Int) (v : Value) (xs : List Int) (hv : IntsAt w v xs) (hl : xs.length ≤ 1000000) (h : k < 1 ∨ s.n < k ∨ xs.length < k) :
    Calls Try.prog 21 #[.pointer (some ⟨b, 0, none⟩), .int .i64 k, v] w (OfNo w) :=
  (of_few w hc k v xs hv hl h).mono (fun e w' ⟨h1, h2⟩ => ⟨0, [], ⟨by omega, by omega, by simp, fun x hx => by simp at hx⟩, h1, h2⟩)
theorem of_no2 (w : World) {F : Nat → Prop} {b bm : Nat} {s : CS} (hc : CacheAt w F b bm s) (K : Nat) (v : Value) (xs : List Int) (hv : IntsAt w v xs) (hl : xs.length ≤ 1000000) (h1 : 1 ≤ K) (h2 : K ≤ s.n) (h3 : K ≤ xs.length) (hr : ¬ ∀ x ∈ xs.take K, 0 ≤ x ∧ x < s.n) :
    Calls Try.prog 21 #[.pointer (some ⟨b, 0, none⟩), .int .i64 (K : Int), v] w (OfNo w) :=
  (of_some w hc K v xs hv hl h1 h2 h3).mono (fun e w' h => by
    obtain ⟨h, hb⟩ := h
    rcases h with ⟨h, _⟩ | ⟨_, m, hi, h⟩
    · exact absurd h hr
    · exact ⟨_, _, hi, h, hb⟩)

theorem ask_no1 (w : World) {F : Nat → Prop} {b bm : Nat} {s : CS} (hc : CacheAt w F b bm s) (k : Int) (v : Value) (xs : List Int) (hv : IntsAt w v xs) (hl : xs.length ≤ 1000000) (h : k < 1 ∨ s.n < k) :
    Calls Try.prog 19 #[.pointer (some ⟨b, 0, none⟩), .int .i64 k, v] w fun e' w' => e' = .returned (.tuple #[.slice none 0 0, .int .i64 2]) ∧ Below w.heap.size w w' := by
  have hof := of_no1 w hc k v xs hv hl (h.imp id .inl)
  have HNB := Lib.hid (show ∀ W, _ from fun W => cnew_bad W s.n k (by rcases h with h | h <;> omega))
  clear h
  have HC := Lib.hid hc
  have HV := Lib.hid hv
  have h255 := hc.n255
  have HOF := Lib.hid hof
  obtain ⟨p, cap, hvv, _⟩ := hv
  subst hvv
  have hlb := hc.lt
  clear hc hof
  go_enter Try.func19, Try.ntmps19
  go_wp2_with fail
  refine HOF.out.mono ?_
  rintro e1 w1 ⟨k', xs', hix, rfl, hB1⟩
  obtain ⟨C, hC⟩ : ∃ C, (kcells k' xs').toArray = C := ⟨_, rfl⟩
  have HCZ := Lib.hid (show C.size = 256 by rw [← hC]; exact kc_size _ _)
  have HC1 := Lib.hid (show C.all (·.oneCell') = true by rw [← hC]; exact kc_one _ _)
  unfold keyV
  rw [hC]
  have hk := keyW_facts w1 C w1.heap.size rfl
  have hsc := keyW_run w1 C w1.heap.size rfl HCZ.out HC1.out
  have HB1 := Lib.hid (show Below w.heap.size w (keyW w1 C w1.heap.size) from hB1.trans (hk.2.1.toBelow hB1.size (fun _ h => h.elim)))
  have c3 := (HC.out.below HB1.out).c3
  have l3 := (HC.out.below HB1.out).lt
  clear hk hB1 hC hix
  go_wp2_with fail
  refine (HNB.out _).mono ?_
  rintro e5 w5 ⟨rfl, rfl⟩
  go_wp2
  go_ret2
  exact ⟨rfl, HB1.out⟩

theorem ask_no2 (w : World) {F : Nat → Prop} {b bm : Nat} {s : CS} (hc : CacheAt w F b bm s) (K : Nat) (v : Value) (xs : List Int) (hv : IntsAt w v xs) (hl : xs.length ≤ 1000000) (h1 : 1 ≤ K) (h2 : K ≤ s.n) (h3 : xs.length < K ∨ ¬ ∀ x ∈ xs.take K, 0 ≤ x ∧ x < s.n) (he : askE s.n K xs ≠ 0) :
    Calls Try.prog 19 #[.pointer (some ⟨b, 0, none⟩), .int .i64 (K : Int), v] w fun e' w' => e' = .returned (.tuple #[.slice none 0 0, .int .i64 (askE s.n K xs)]) ∧ Below w.heap.size w w' := by
  have hof : Calls Try.prog 21 #[.pointer (some ⟨b, 0, none⟩), .int .i64 (K : Int), v] w (OfNo w) := by
    by_cases q : xs.length < K
    · exact of_no1 w hc K v xs hv hl (.inr (.inr (by omega)))
    · exact of_no2 w hc K v xs hv hl h1 h2 (by omega) (h3.resolve_left q)
  have HER := Lib.hid he
  clear h3 he
  have HC := Lib.hid hc
  have HV := Lib.hid hv
  have h255 := hc.n255
  have HOF := Lib.hid hof
  obtain ⟨p, cap, hvv, _⟩ := hv
  subst hvv
  have hlb := hc.lt
  clear hc hof
  go_enter Try.func19, Try.ntmps19
  go_wp2_with fail
  refine HOF.out.mono ?_
  rintro e1 w1 ⟨k', xs', hix, rfl, hB1⟩
  obtain ⟨C, hC⟩ : ∃ C, (kcells k' xs').toArray = C := ⟨_, rfl⟩
  have HCZ := Lib.hid (show C.size = 256 by rw [← hC]; exact kc_size _ _)
  have HC1 := Lib.hid (show C.all (·.oneCell') = true by rw [← hC]; exact kc_one _ _)
  unfold keyV
  rw [hC]
  have hk := keyW_facts w1 C w1.heap.size rfl
  have hsc := keyW_run w1 C w1.heap.size rfl HCZ.out HC1.out
  have HB1 := Lib.hid (show Below w.heap.size w (keyW w1 C w1.heap.size) from hB1.trans (hk.2.1.toBelow hB1.size (fun _ h => h.elim)))
  have c3 := (HC.out.below HB1.out).c3
  have l3 := (HC.out.below HB1.out).lt
  clear hk hB1 hC hix
  go_wp2_with fail
  generalize keyW w1 C w1.heap.size = WW at *
  have HBW := HB1
  refine (cnew_any WW s.n K h1 h2 h255).mono ?_
  rintro e5 w5 ⟨bc, bf, vt, rfl, hc5, hb5⟩
  have HC5 := Lib.hid hc5
  have HB5 := Lib.hid (below_more HBW.out hb5 HBW.out.size)
  clear hc5 hb5
  go_wp2_with fail
  refine (turn_bad w5 HC5.out _ xs (HV.out.below HB5.out) hl HER.out).mono ?_
  rintro e6 w6 ⟨rfl, hb6⟩
  have HB6 := Lib.hid (below_more HB5.out hb6 HB5.out.size)
  have hae := HER.out
  obtain ⟨ae, hah⟩ : ∃ x, askE s.n K xs = x := ⟨_, rfl⟩
  have HAH := Lib.hid hah
  rw [hah] at hae ⊢
  have hae2 : (ae != 0) = true := by rw [bne_iff_ne]; exact hae
  have hae3 : (ae == 0) = false := by rw [beq_eq_false_iff_ne]; exact hae
  clear hb6 hah
  go_wp2
  go_ret2
  exact ⟨by rw [HAH.out]; rfl, HB6.out⟩

theorem ask_no3 (w : World) {F : Nat → Prop} {b bm : Nat} {s : CS} (hc : CacheAt w F b bm s) (K : Nat) (v : Value) (xs : List Int) (hv : IntsAt w v xs) (hl : xs.length ≤ 1000000) (h1 : 1 ≤ K) (h2 : K ≤ s.n) (h3 : K ≤ xs.length) (hr : ∀ x ∈ xs.take K, 0 ≤ x ∧ x < s.n) (hx : decide (askE s.n 1 xs = 0) = false) (he : askE s.n K xs ≠ 0) :
    Calls Try.prog 19 #[.pointer (some ⟨b, 0, none⟩), .int .i64 (K : Int), v] w fun e' w' => e' = .returned (.tuple #[.slice none 0 0, .int .i64 (askE s.n K xs)]) ∧ Below w.heap.size w w' := by
  have HER := Lib.hid he
  clear he
  have HC := Lib.hid hc
  have HV := Lib.hid hv
  have h255 := hc.n255
  have HOF := Lib.hid (of_yes w hc K v xs hv hl h1 h2 h3 hr)
  have HRR := Lib.hid hr
  obtain ⟨p, cap, hvv, _⟩ := hv
  subst hvv
  have HIX := Lib.hid (show Idx (K : Int) (xs.take K) from ⟨by omega, by omega, by rw [List.length_take]; omega, fun y hy => by have := hr y hy; omega⟩)
  obtain ⟨C, hC⟩ : ∃ C, (kcells K (xs.take K)).toArray = C := ⟨_, rfl⟩
  have HKV := Lib.hid (show keyV K (xs.take K) = .agg C by unfold keyV; rw [hC])
  have HCZ := Lib.hid (show C.size = 256 by rw [← hC]; exact kc_size _ _)
  have HC1 := Lib.hid (show C.all (·.oneCell') = true by rw [← hC]; exact kc_one _ _)
  have HCS := Lib.hid (show (Try.prog.info? 61).map (·.size) = some C.size by rw [HCZ.out]; exact size_key)
  rw [HKV.out] at HOF
  have hlb := hc.lt
  have hlm := hc.map.lt
  have HHX := Lib.hid hx
  clear hc hC hr hx
  go_enter Try.func19, Try.ntmps19
  go_wp2_with fail
  refine HOF.out.mono ?_
  rintro e1 w1 ⟨rfl, hB1⟩
  have hk := keyW_facts w1 C w1.heap.size rfl
  have hsc := keyW_run w1 C w1.heap.size rfl HCZ.out HC1.out
  have HB1 := Lib.hid (show Below w.heap.size w (keyW w1 C w1.heap.size) from hB1.trans (hk.2.1.toBelow hB1.size (fun _ h => h.elim)))
  have HG1 := Lib.hid hk.1
  have HZ1 := Lib.hid hk.2.2
  have hs1 := hB1.size
  clear hk hB1
  go_wp2_with fail
  generalize keyW w1 C w1.heap.size = w2 at *
  refine (unlike_any w2 (HC.out.below HB1.out) _ xs (HV.out.below HB1.out) hl (by omega)).mono ?_
  rw [show decide (askE s.n 1 xs = 0) = false from HHX.out]
  rintro e3 w3 ⟨rfl, hB3⟩
  have HB3 := Lib.hid (below_more HB1.out hB3 HB1.out.size)
  have HG3 := Lib.hid ((hB3.block w1.heap.size (by rw [HZ1.out]; omega)).trans HG1.out)
  have HS3 := Lib.hid (show w1.heap.size < w3.heap.size by have := hB3.size; rw [HZ1.out] at this; omega)
  have hs3 := HS3.out
  clear hB3
  have c3 := (HC.out.below HB3.out).c3
  have l3 := (HC.out.below HB3.out).lt
  go_wp2_with fail
  generalize w3 = WW at *
  have HBW := HB3
  refine (cnew_any WW s.n K h1 h2 h255).mono ?_
  rintro e5 w5 ⟨bc, bf, vt, rfl, hc5, hb5⟩
  have HC5 := Lib.hid hc5
  have HB5 := Lib.hid (below_more HBW.out hb5 HBW.out.size)
  clear hc5 hb5
  go_wp2_with fail
  refine (turn_bad w5 HC5.out _ xs (HV.out.below HB5.out) hl HER.out).mono ?_
  rintro e6 w6 ⟨rfl, hb6⟩
  have HB6 := Lib.hid (below_more HB5.out hb6 HB5.out.size)
  have hae := HER.out
  obtain ⟨ae, hah⟩ : ∃ x, askE s.n K xs = x := ⟨_, rfl⟩
  have HAH := Lib.hid hah
  rw [hah] at hae ⊢
  have hae2 : (ae != 0) = true := by rw [bne_iff_ne]; exact hae
  have hae3 : (ae == 0) = false := by rw [beq_eq_false_iff_ne]; exact hae
  clear hb6 hah
  go_wp2
  go_ret2
  exact ⟨by rw [HAH.out]; rfl, HB6.out⟩

/-- The error of what is asked. -/
def askErr (n : Nat) (k : Int) (xs : List Int) : Int := if k < 1 ∨ n < k then 2 else askE n k.toNat xs
theorem ask_bad (w : World) {F : Nat → Prop} {b bm : Nat} {s : CS} (hc : CacheAt w F b bm s) (k : Int) (v : Value) (xs : List Int) (hv : IntsAt w v xs) (hl : xs.length ≤ 1000000) (he : askErr s.n k xs ≠ 0) :
    Calls Try.prog 19 #[.pointer (some ⟨b, 0, none⟩), .int .i64 k, v] w fun e' w' => e' = .returned (.tuple #[.slice none 0 0, .int .i64 (askErr s.n k xs)]) ∧ Below w.heap.size w w' := by
  unfold askErr at he ⊢
  by_cases h : k < 1 ∨ s.n < k
  · rw [if_pos h]
    exact ask_no1 w hc k v xs hv hl h
  · rw [if_neg h] at he ⊢
    obtain ⟨K, rfl⟩ : ∃ K : Nat, k = K := ⟨k.toNat, by omega⟩
    rw [Int.toNat_natCast] at he ⊢
    have h1 : 1 ≤ K := by omega
    have h2 : K ≤ s.n := by omega
    by_cases h3 : xs.length < K ∨ ¬ ∀ x ∈ xs.take K, 0 ≤ x ∧ x < s.n
    · exact ask_no2 w hc K v xs hv hl h1 h2 h3 he
    · have h4 : K ≤ xs.length := by
        by_cases q : xs.length < K
        · exact absurd (.inl q) h3
        · omega
      have h5 : ∀ x ∈ xs.take K, 0 ≤ x ∧ x < s.n := by
        by_cases q : ∀ x ∈ xs.take K, 0 ≤ x ∧ x < s.n
        · exact q
        · exact absurd (.inr q) h3
      refine ask_no3 w hc K v xs hv hl h1 h2 h4 h5 ?_ he
      rw [decide_eq_false_iff_not]
      intro h6
      apply he
      unfold askE at h6 ⊢
      split at h6
      · rename_i q
        rw [if_pos q]
        split at h6
        · rename_i q2
          rw [if_pos q2, if_neg (by omega)]
        · cases h6
      · cases h6

end Go.Proofs.Ytlmpagicjgldkaa
