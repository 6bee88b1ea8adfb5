/-
  CaJ: ask: errors.
  CaK: ask, said of plain keys: which are kept, the one that was used last at the end.
-/
import Derived.Test.YtlmpagicjgldkaaGreatCaH
import Derived.Test.YtlmpagicjgldkaaGreatCaI
namespace Go.Proofs.YtlmpagicjgldkaaGreat

section -- CaJ
open Go.RowKit Go.Maps
set_option linter.unusedVariables false
set_option linter.unusedSimpArgs false
set_option maxRecDepth 100000
set_option maxHeartbeats 1500000

/-- The key of indexes that are none. -/
def OfNo (w : World) (e : Ending) (w' : World) : Prop := ∃ k' xs', Idx k' xs' ∧ e = .returned (.tuple #[keyV k' xs', .bool false]) ∧ Below w.heap.size w w'
theorem of_no1 (w : World) {F : Nat → Prop} {b bm : Nat} {s : CS} (hc : CacheAt w F b bm s) (k : Int) (v : Value) (xs : List Int) (hv : IntsAt w v xs) (hl : xs.length ≤ 1000000) (h : k < 1 ∨ s.n < k ∨ xs.length < k) :
    Calls Tryz.prog 38 #[.pointer (some ⟨b, 0, none⟩), .int .i64 k, v] w (OfNo w) :=
  (of_few w hc k v xs hv hl h).mono (fun e w' ⟨h1, h2⟩ => ⟨0, [], ⟨by omega, by omega, by simp, fun x hx => by simp at hx⟩, h1, h2⟩)
theorem of_no2 (w : World) {F : Nat → Prop} {b bm : Nat} {s : CS} (hc : CacheAt w F b bm s) (K : Nat) (v : Value) (xs : List Int) (hv : IntsAt w v xs) (hl : xs.length ≤ 1000000) (h1 : 1 ≤ K) (h2 : K ≤ s.n) (h3 : K ≤ xs.length) (hr : ¬ ∀ x ∈ xs.take K, 0 ≤ x ∧ x < s.n) :
    Calls Tryz.prog 38 #[.pointer (some ⟨b, 0, none⟩), .int .i64 (K : Int), v] w (OfNo w) :=
  (of_some w hc K v xs hv hl h1 h2 h3).mono (fun e w' h => by
    obtain ⟨h, hb⟩ := h
    rcases h with ⟨h, _⟩ | ⟨_, m, hi, h⟩
    · exact absurd h hr
    · exact ⟨_, _, hi, h, hb⟩)

theorem ask_no1 (w : World) {F : Nat → Prop} {b bm : Nat} {s : CS} (hc : CacheAt w F b bm s) (k : Int) (v : Value) (xs : List Int) (hv : IntsAt w v xs) (hl : xs.length ≤ 1000000) (h : k < 1 ∨ s.n < k) :
    Calls Tryz.prog 27 #[.pointer (some ⟨b, 0, none⟩), .int .i64 k, v] w fun e' w' => e' = .returned (.tuple #[.slice none 0 0, .int .i64 2]) ∧ Below w.heap.size w w' := by
  have hof := of_no1 w hc k v xs hv hl (h.imp id .inl)
  have HNB := Lib.hid (show ∀ W, _ from fun W => cnew_bad W s.n k (by rcases h with h | h <;> omega))
  clear h
  have HC := Lib.hid hc
  have HV := Lib.hid hv
  have h255 := hc.n255
  have HOF := Lib.hid hof
  obtain ⟨p, cap, hvv, _⟩ := hv
  subst hvv
  have hlb := hc.lt
  clear hc hof
  go_enter Tryz.func27, Tryz.ntmps27
  go_wp2_with fail
  refine HOF.out.mono ?_
  rintro e1 w1 ⟨k', xs', hix, rfl, hB1⟩
  obtain ⟨C, hC⟩ : ∃ C, (kcells k' xs').toArray = C := ⟨_, rfl⟩
  have HCZ := Lib.hid (show C.size = 256 by rw [← hC]; exact kc_size _ _)
  have HC1 := Lib.hid (show C.all (·.oneCell') = true by rw [← hC]; exact kc_one _ _)
  unfold keyV
  rw [hC]
  have hk := keyW_facts w1 C w1.heap.size rfl
  have hsc := keyW_run w1 C w1.heap.size rfl HCZ.out HC1.out
  have HB1 := Lib.hid (show Below w.heap.size w (keyW w1 C w1.heap.size) from hB1.trans (hk.2.1.toBelow hB1.size (fun _ h => h.elim)))
  have c3 := (HC.out.below HB1.out).c3
  have l3 := (HC.out.below HB1.out).lt
  clear hk hB1 hC hix
  go_wp2_with fail
  refine (HNB.out _).mono ?_
  rintro e5 w5 ⟨rfl, rfl⟩
  go_wp2
  go_ret2
  exact ⟨rfl, HB1.out⟩

theorem ask_no2 (w : World) {F : Nat → Prop} {b bm : Nat} {s : CS} (hc : CacheAt w F b bm s) (K : Nat) (v : Value) (xs : List Int) (hv : IntsAt w v xs) (hl : xs.length ≤ 1000000) (h1 : 1 ≤ K) (h2 : K ≤ s.n) (h3 : xs.length < K ∨ ¬ ∀ x ∈ xs.take K, 0 ≤ x ∧ x < s.n) (he : askE s.n K xs ≠ 0) :
    Calls Tryz.prog 27 #[.pointer (some ⟨b, 0, none⟩), .int .i64 (K : Int), v] w fun e' w' => e' = .returned (.tuple #[.slice none 0 0, .int .i64 (askE s.n K xs)]) ∧ Below w.heap.size w w' := by
  have hof : Calls Tryz.prog 38 #[.pointer (some ⟨b, 0, none⟩), .int .i64 (K : Int), v] w (OfNo w) := by
    by_cases q : xs.length < K
    · exact of_no1 w hc K v xs hv hl (.inr (.inr (by omega)))
    · exact of_no2 w hc K v xs hv hl h1 h2 (by omega) (h3.resolve_left q)
  have HER := Lib.hid he
  clear h3 he
  have HC := Lib.hid hc
  have HV := Lib.hid hv
  have h255 := hc.n255
  have HOF := Lib.hid hof
  obtain ⟨p, cap, hvv, _⟩ := hv
  subst hvv
  have hlb := hc.lt
  clear hc hof
  go_enter Tryz.func27, Tryz.ntmps27
  go_wp2_with fail
  refine HOF.out.mono ?_
  rintro e1 w1 ⟨k', xs', hix, rfl, hB1⟩
  obtain ⟨C, hC⟩ : ∃ C, (kcells k' xs').toArray = C := ⟨_, rfl⟩
  have HCZ := Lib.hid (show C.size = 256 by rw [← hC]; exact kc_size _ _)
  have HC1 := Lib.hid (show C.all (·.oneCell') = true by rw [← hC]; exact kc_one _ _)
  unfold keyV
  rw [hC]
  have hk := keyW_facts w1 C w1.heap.size rfl
  have hsc := keyW_run w1 C w1.heap.size rfl HCZ.out HC1.out
  have HB1 := Lib.hid (show Below w.heap.size w (keyW w1 C w1.heap.size) from hB1.trans (hk.2.1.toBelow hB1.size (fun _ h => h.elim)))
  have c3 := (HC.out.below HB1.out).c3
  have l3 := (HC.out.below HB1.out).lt
  clear hk hB1 hC hix
  go_wp2_with fail
  generalize keyW w1 C w1.heap.size = WW at *
  have HBW := HB1
  refine (cnew_any WW s.n K h1 h2 h255).mono ?_
  rintro e5 w5 ⟨bc, bf, vt, rfl, hc5, hb5⟩
  have HC5 := Lib.hid hc5
  have HB5 := Lib.hid (below_more HBW.out hb5 HBW.out.size)
  clear hc5 hb5
  go_wp2_with fail
  refine (turn_bad w5 HC5.out _ xs (HV.out.below HB5.out) hl HER.out).mono ?_
  rintro e6 w6 ⟨rfl, hb6⟩
  have HB6 := Lib.hid (below_more HB5.out hb6 HB5.out.size)
  have hae := HER.out
  obtain ⟨ae, hah⟩ : ∃ x, askE s.n K xs = x := ⟨_, rfl⟩
  have HAH := Lib.hid hah
  rw [hah] at hae ⊢
  have hae2 : (ae != 0) = true := by rw [bne_iff_ne]; exact hae
  have hae3 : (ae == 0) = false := by rw [beq_eq_false_iff_ne]; exact hae
  clear hb6 hah
  go_wp2
  go_ret2
  exact ⟨by rw [HAH.out]; rfl, HB6.out⟩

theorem ask_no3 (w : World) {F : Nat → Prop} {b bm : Nat} {s : CS} (hc : CacheAt w F b bm s) (K : Nat) (v : Value) (xs : List Int) (hv : IntsAt w v xs) (hl : xs.length ≤ 1000000) (h1 : 1 ≤ K) (h2 : K ≤ s.n) (h3 : K ≤ xs.length) (hr : ∀ x ∈ xs.take K, 0 ≤ x ∧ x < s.n) (hx : decide (askE s.n 1 xs = 0) = false) (he : askE s.n K xs ≠ 0) :
    Calls Tryz.prog 27 #[.pointer (some ⟨b, 0, none⟩), .int .i64 (K : Int), v] w fun e' w' => e' = .returned (.tuple #[.slice none 0 0, .int .i64 (askE s.n K xs)]) ∧ Below w.heap.size w w' := by
  have HER := Lib.hid he
  clear he
  have HC := Lib.hid hc
  have HV := Lib.hid hv
  have h255 := hc.n255
  have HOF := Lib.hid (of_yes w hc K v xs hv hl h1 h2 h3 hr)
  have HRR := Lib.hid hr
  obtain ⟨p, cap, hvv, _⟩ := hv
  subst hvv
  have HIX := Lib.hid (show Idx (K : Int) (xs.take K) from ⟨by omega, by omega, by rw [List.length_take]; omega, fun y hy => by have := hr y hy; omega⟩)
  obtain ⟨C, hC⟩ : ∃ C, (kcells K (xs.take K)).toArray = C := ⟨_, rfl⟩
  have HKV := Lib.hid (show keyV K (xs.take K) = .agg C by unfold keyV; rw [hC])
  have HCZ := Lib.hid (show C.size = 256 by rw [← hC]; exact kc_size _ _)
  have HC1 := Lib.hid (show C.all (·.oneCell') = true by rw [← hC]; exact kc_one _ _)
  have HCS := Lib.hid (show (Tryz.prog.info? 86).map (·.size) = some C.size by rw [HCZ.out]; exact size_key)
  rw [HKV.out] at HOF
  have hlb := hc.lt
  have hlm := hc.map.lt
  have HHX := Lib.hid hx
  clear hc hC hr hx
  go_enter Tryz.func27, Tryz.ntmps27
  go_wp2_with fail
  refine HOF.out.mono ?_
  rintro e1 w1 ⟨rfl, hB1⟩
  have hk := keyW_facts w1 C w1.heap.size rfl
  have hsc := keyW_run w1 C w1.heap.size rfl HCZ.out HC1.out
  have HB1 := Lib.hid (show Below w.heap.size w (keyW w1 C w1.heap.size) from hB1.trans (hk.2.1.toBelow hB1.size (fun _ h => h.elim)))
  have HG1 := Lib.hid hk.1
  have HZ1 := Lib.hid hk.2.2
  have hs1 := hB1.size
  clear hk hB1
  go_wp2_with fail
  generalize keyW w1 C w1.heap.size = w2 at *
  refine (unlike_any w2 (HC.out.below HB1.out) _ xs (HV.out.below HB1.out) hl (by omega)).mono ?_
  rw [show decide (askE s.n 1 xs = 0) = false from HHX.out]
  rintro e3 w3 ⟨rfl, hB3⟩
  have HB3 := Lib.hid (below_more HB1.out hB3 HB1.out.size)
  have HG3 := Lib.hid ((hB3.block w1.heap.size (by rw [HZ1.out]; omega)).trans HG1.out)
  have HS3 := Lib.hid (show w1.heap.size < w3.heap.size by have := hB3.size; rw [HZ1.out] at this; omega)
  have hs3 := HS3.out
  clear hB3
  have c3 := (HC.out.below HB3.out).c3
  have l3 := (HC.out.below HB3.out).lt
  go_wp2_with fail
  generalize w3 = WW at *
  have HBW := HB3
  refine (cnew_any WW s.n K h1 h2 h255).mono ?_
  rintro e5 w5 ⟨bc, bf, vt, rfl, hc5, hb5⟩
  have HC5 := Lib.hid hc5
  have HB5 := Lib.hid (below_more HBW.out hb5 HBW.out.size)
  clear hc5 hb5
  go_wp2_with fail
  refine (turn_bad w5 HC5.out _ xs (HV.out.below HB5.out) hl HER.out).mono ?_
  rintro e6 w6 ⟨rfl, hb6⟩
  have HB6 := Lib.hid (below_more HB5.out hb6 HB5.out.size)
  have hae := HER.out
  obtain ⟨ae, hah⟩ : ∃ x, askE s.n K xs = x := ⟨_, rfl⟩
  have HAH := Lib.hid hah
  rw [hah] at hae ⊢
  have hae2 : (ae != 0) = true := by rw [bne_iff_ne]; exact hae
  have hae3 : (ae == 0) = false := by rw [beq_eq_false_iff_ne]; exact hae
  clear hb6 hah
  go_wp2
  go_ret2
  exact ⟨by rw [HAH.out]; rfl, HB6.out⟩

/-- The error of what is asked. -/
def askErr (n : Nat) (k : Int) (xs : List Int) : Int := if k < 1 ∨ n < k then 2 else askE n k.toNat xs
theorem ask_bad (w : World) {F : Nat → Prop} {b bm : Nat} {s : CS} (hc : CacheAt w F b bm s) (k : Int) (v : Value) (xs : List Int) (hv : IntsAt w v xs) (hl : xs.length ≤ 1000000) (he : askErr s.n k xs ≠ 0) :
    Calls Tryz.prog 27 #[.pointer (some ⟨b, 0, none⟩), .int .i64 k, v] w fun e' w' => e' = .returned (.tuple #[.slice none 0 0, .int .i64 (askErr s.n k xs)]) ∧ Below w.heap.size w w' := by
  unfold askErr at he ⊢
  by_cases h : k < 1 ∨ s.n < k
  · rw [if_pos h]
    exact ask_no1 w hc k v xs hv hl h
  · rw [if_neg h] at he ⊢
    obtain ⟨K, rfl⟩ : ∃ K : Nat, k = K := ⟨k.toNat, by omega⟩
    rw [Int.toNat_natCast] at he ⊢
    have h1 : 1 ≤ K := by omega
    have h2 : K ≤ s.n := by omega
    by_cases h3 : xs.length < K ∨ ¬ ∀ x ∈ xs.take K, 0 ≤ x ∧ x < s.n
    · exact ask_no2 w hc K v xs hv hl h1 h2 h3 he
    · have h4 : K ≤ xs.length := by
        by_cases q : xs.length < K
        · exact absurd (.inl q) h3
        · omega
      have h5 : ∀ x ∈ xs.take K, 0 ≤ x ∧ x < s.n := by
        by_cases q : ∀ x ∈ xs.take K, 0 ≤ x ∧ x < s.n
        · exact q
        · exact absurd (.inr q) h3
      refine ask_no3 w hc K v xs hv hl h1 h2 h4 h5 ?_ he
      rw [decide_eq_false_iff_not]
      intro h6
      apply he
      unfold askE at h6 ⊢
      split at h6
      · rename_i q
        rw [if_pos q]
        split at h6
        · rename_i q2
          rw [if_pos q2, if_neg (by omega)]
        · cases h6
      · cases h6
end -- CaJ

section -- CaK
open Go.RowKit Go.Maps
set_option linter.unusedVariables false
set_option linter.unusedSimpArgs false
set_option maxRecDepth 100000
set_option maxHeartbeats 1000000

/-- A cache, plain. -/
structure PS where
  n : Nat
  room : Nat
  now : Nat
  hits : Nat
  misses : Nat
  dropped : Nat
  keys : List (Nat × List Int)
def CE.key (e : CE) : Nat × List Int := (e.k, e.xs)
def CS.plain (s : CS) : PS := ⟨s.n, s.room, s.now, s.hits, s.misses, s.dropped, s.es.map CE.key⟩
def PS.ask (p : PS) (q : Nat × List Int) : PS :=
  if q ∈ p.keys then { p with now := p.now + 1, hits := p.hits + 1, keys := p.keys.filter (fun x => decide (x ≠ q)) ++ [q] }
  else if p.keys.length < p.room then { p with now := p.now + 1, misses := p.misses + 1, keys := p.keys ++ [q] }
  else { p with now := p.now + 1, misses := p.misses + 1, dropped := p.dropped + 1, keys := p.keys.tail ++ [q] }

theorem kl_k {k k' : Int} {xs xs' : List Int} (h : Idx k xs) (h' : Idx k' xs') (e : kl k xs = kl k' xs') : k = k' := by
  have h1 := kl_key h
  rw [e] at h1
  have h2 := keyed.inj h1 (kl_key h')
  unfold keyV at h2
  have h3 : kcells k xs = kcells k' xs' := by
    have := Value.agg.inj h2
    simpa using congrArg Array.toList this
  unfold kcells at h3
  exact (Value.int.inj (List.cons.inj h3).1).2
theorem key_of_L {x : CE} {n now K : Nat} {ys : List Int} (hx : x.Good n now) (hn : n ≤ 255) (hi : Idx (K : Int) ys) (hy : ys.length = K) : x.L = kl (K : Int) ys ↔ x.key = (K, ys) := by
  constructor
  · intro h
    have h1 := kl_k (hx.idx hn) hi h
    have h2 : x.k = K := by omega
    have h3 := (kl_inj (hx.idx hn) hi (by rw [hx.len, hy, h2]) h).2
    unfold CE.key
    rw [h2, h3]
  · intro h
    unfold CE.key at h
    obtain ⟨a, b⟩ := Prod.mk.inj h
    unfold CE.L
    rw [a, b]
theorem addE_keys {es : List CE} {n now : Nat} (hg : ∀ x ∈ es, x.Good n now) (hn : n ≤ 255) (e : CE) (hi : Idx (e.k : Int) e.xs) (hy : e.xs.length = e.k) (u : Nat) : (addE es e u).map CE.key = (es.map CE.key).filter (fun x => decide (x ≠ e.key)) ++ [e.key] := by
  unfold addE
  rw [List.map_append, List.filter_map]
  congr 1
  congr 1
  apply List.filter_congr
  intro x hx
  rw [Bool.eq_iff_iff, neK_iff (l := e.L) (kl_is hi)]
  simp only [Function.comp, decide_eq_true_eq]
  exact not_congr (key_of_L (hg x hx) hn hi hy)

/-- A matrix that was asked for. -/
def Asked (w : World) (F : Nat → Prop) (b bm : Nat) (s : CS) (K : Nat) (ys : List Int) (e : Ending) (w' : World) : Prop :=
  ∃ s' x, e = .returned (.tuple #[CE.v x, .int .i64 0]) ∧ x ∈ s'.es ∧ x.k = K ∧ x.xs = ys ∧ CacheAt w' F b bm s' ∧ s'.plain = s.plain.ask (K, ys) ∧ Kept (CK b bm) w w'

theorem askErr_zero {n : Nat} {k : Int} {xs : List Int} (h : askErr n k xs = 0) : ∃ K : Nat, k = K ∧ 1 ≤ K ∧ K ≤ n ∧ AskOk n K xs := by
  unfold askErr at h
  by_cases q : k < 1 ∨ n < k
  · rw [if_pos q] at h; cases h
  · rw [if_neg q] at h
    exact ⟨k.toNat, by omega, by omega, by omega, askE_zero h⟩

theorem ask_any (w : World) {F : Nat → Prop} {b bm : Nat} {s : CS} (hc : CacheAt w F b bm s) (hF : ∀ i, F i → i < w.heap.size) (K : Nat) (v : Value) (xs : List Int) (hv : IntsAt w v xs) (hl : xs.length ≤ 1000000) (h1 : 1 ≤ K) (h2 : K ≤ s.n) (ho : AskOk s.n K xs)
    (hnow : s.now < 1000000000) (hhit : s.hits < 1000000000) (hmis : s.misses < 1000000000) (hdrp : s.dropped < 1000000000) :
    Calls Tryz.prog 27 #[.pointer (some ⟨b, 0, none⟩), .int .i64 (K : Int), v] w (Asked w F b bm s K (xs.take K)) := by
  have h255 := hc.n255
  have h3 : K ≤ xs.length := ho.len
  have hr : ∀ x ∈ xs.take K, 0 ≤ x ∧ x < s.n := fun x hx => ho.range x (List.mem_of_mem_take hx)
  have hx : decide (askE s.n 1 xs = 0) = true := by
    rw [decide_eq_true_eq]
    exact askE_ok ⟨ho.range, ho.nodup, by omega⟩
  have hylen : (xs.take K).length = K := by rw [List.length_take]; omega
  have hi : Idx (K : Int) (xs.take K) := ⟨by omega, by omega, by rw [hylen]; omega, fun y hy => by have := hr y hy; omega⟩
  have hpl : s.plain.keys = s.es.map CE.key := rfl
  by_cases hin : (K, xs.take K) ∈ s.plain.keys
  · rw [hpl] at hin
    obtain ⟨x, hxe, hxk⟩ := List.mem_map.1 hin
    have hxk2 := hxk
    unfold CE.key at hxk2
    obtain ⟨a1, a2⟩ := Prod.mk.inj hxk2
    refine (ask_hit w hc K v xs hv hl h1 h2 h3 hr hx x hxe a1 a2 hnow hhit).mono (fun e w' ⟨q1, q2, q3⟩ => ?_)
    refine ⟨_, x.now (s.now + 1), q1, ?_, a1, a2, q2, ?_, q3⟩
    · show x.now (s.now + 1) ∈ addE s.es x (s.now + 1)
      unfold addE
      simp
    · unfold PS.ask
      rw [if_pos (by rw [hpl]; exact hin)]
      have := addE_keys hc.good h255 x (by rw [a1, a2]; exact hi) (by rw [a1, a2]; exact hylen) (s.now + 1)
      rw [hxk] at this
      unfold CS.plain
      simp only [this]
  · have hno : ∀ x ∈ s.es, x.L ≠ kl K (xs.take K) := fun x hx h => hin (by
      rw [hpl]
      exact List.mem_map.2 ⟨x, hx, (key_of_L (hc.good x hx) h255 hi hylen).1 h⟩)
    have hkeys : ∀ gm, (addE s.es ⟨K, xs.take K, 0, gm⟩ (s.now + 1)).map CE.key = s.es.map CE.key ++ [(K, xs.take K)] := fun gm => by
      have := addE_keys hc.good h255 ⟨K, xs.take K, 0, gm⟩ hi hylen (s.now + 1)
      rw [this]
      congr 1
      exact List.filter_eq_self.2 (fun q hq => by
        simp only [decide_eq_true_eq]
        rintro rfl
        exact hin (by rw [hpl]; exact hq))
    by_cases hroom : s.es.length < s.room
    · refine (ask_low w hc hF K v xs hv hl h1 h2 h3 hr hx hno hnow hmis hdrp hroom).mono (fun e w' ⟨gm, q1, q2, q3⟩ => ?_)
      refine ⟨_, (CE.now ⟨K, xs.take K, 0, gm⟩ (s.now + 1)), q1, ?_, rfl, rfl, q2, ?_, q3⟩
      · show _ ∈ addE s.es _ (s.now + 1)
        unfold addE
        simp
      · unfold PS.ask
        rw [if_neg hin, if_pos (by rw [hpl, List.length_map]; exact hroom)]
        unfold CS.plain
        simp only [hkeys]
    · have hful : s.es.length = s.room := Nat.le_antisymm hc.full (by omega)
      have hr1 := hc.r1
      obtain ⟨e0, r0, hes⟩ : ∃ e0 r0, s.es = e0 :: r0 := by
        cases q : s.es with
        | nil => rw [q] at hful; simp at hful; omega
        | cons a r => exact ⟨a, r, rfl⟩
      refine (ask_full w hc hF K v xs hv hl h1 h2 h3 hr hx hno hnow hmis hdrp e0 r0 hes hful).mono (fun e w' ⟨gm, q1, q2, q3⟩ => ?_)
      refine ⟨_, (CE.now ⟨K, xs.take K, 0, gm⟩ (s.now + 1)), q1, ?_, rfl, rfl, q2, ?_, q3⟩
      · show _ ∈ addE r0 _ (s.now + 1)
        unfold addE
        simp
      · unfold PS.ask
        rw [if_neg hin, if_neg (by rw [hpl, List.length_map]; exact hroom)]
        have := addE_keys (es := r0) (n := s.n) (now := s.now) (fun x hx => hc.good x (by rw [hes]; exact List.mem_cons_of_mem _ hx)) h255 ⟨K, xs.take K, 0, gm⟩ hi hylen (s.now + 1)
        have h9 : (r0.map CE.key).filter (fun x => decide (x ≠ (K, xs.take K))) = r0.map CE.key := List.filter_eq_self.2 (fun q hq => by
          simp only [decide_eq_true_eq]
          rintro rfl
          exact hin (by rw [hpl, hes]; exact List.mem_cons_of_mem _ hq))
        unfold CS.plain
        simp only [this, hes, List.map_cons, List.tail_cons]
        rw [show (CE.key ⟨K, xs.take K, 0, gm⟩) = (K, xs.take K) from rfl, h9]
end -- CaK

end Go.Proofs.YtlmpagicjgldkaaGreat
