/-
  CodeOp: What came in: slices of bytes, rows, held symbols; their bounds.
  LayOp: What came in: tables, numbers.
  LayOq: What came in: numbers, with their bound.
-/
import Derived.Test.YtibelpamolcmcaaMxal
import Derived.ProofKit
import Derived.OpenShut
import Derived.Deep.SlicePairs
import Derived.SizedLaws
import Derived.Test.YtibelpamolcmcaaMxan
import Derived.Test.YtibelpamolcmcaaMxar
namespace Go.Proofs.Ytibelpamolcmcaa

section -- CodeOp
open Go.ChangeShapes Go.WideShapes Go.ChangeAt Go.RowKit Go.Deep
set_option linter.unusedVariables false

section
variable {H : Type} {enc : TypeId × Value → H} {P : Program} {w : World}

/-- Each part of what came in fits into memory. -/
def Fits (P : Program) (t : TypeId) (d : DataW H) : Prop := ∀ n ∈ d.weights P t, n ≤ reachBytes
theorem fits_all {e : TypeId} : ∀ {l : List (DataW H)} {d : DataW H}, d ∈ l → ∀ n ∈ d.weights P e, n ∈ DataW.weightsAll P e l
  | d0 :: l, d, h, n, hn => by
    simp only [DataW.weightsAll, List.mem_append]
    rcases List.mem_cons.1 h with rfl | h
    · exact .inl hn
    · exact .inr (fits_all h n hn)
theorem fits_elem {t e : TypeId} {elems spare : List (DataW H)} (hu : P.underlying t = some (.slice e)) (h : Fits P t (.slice elems spare)) {d : DataW H} (hd : d ∈ elems) : Fits P e d := fun n hn =>
  h n (by simp only [DataW.weights, hu, List.mem_cons, List.mem_append]; exact .inr (.inl (fits_all hd n hn)))
theorem fits_len {t e : TypeId} {elems spare : List (DataW H)} (hu : P.underlying t = some (.slice e)) (h : Fits P t (.slice elems spare)) : (elems.length + spare.length) * P.bytesOf e ≤ reachBytes :=
  h _ (by simp only [DataW.weights, hu, List.mem_cons]; exact .inl trivial)
theorem fits_two {t : TypeId} {f0 f1 : Field} {d0 d1 : DataW H} (hu : P.underlying t = some (.struct #[f0, f1])) (h : Fits P t (.agg [d0, d1])) : Fits P f1.type d1 := fun n hn =>
  h n (by simp only [DataW.weights, hu, List.map_cons, List.map_nil, DataW.weightsEach, List.mem_append]; exact .inr (.inl hn))

theorem byte_of {n : Int} (h : (Lit.int .u8 n).wf = true) : Value.int .u8 n = bv (ofB n.toNat) := by
  have : 0 ≤ n ∧ n ≤ 255 := by simpa [Lit.wf, IntKind.min, IntKind.max, IntKind.signed, IntKind.bits] using h
  unfold bv ofB
  congr 1
  simp only
  omega

theorem open_bytes {t e : TypeId} {fuel : Nat} {v : Value} {x : DataW H × List MemPlace} (ht : P.underlying t = some (.slice e)) (he : P.underlying e = some (.int .u8)) (ce : P.cellsOf e = 1) (hb : P.bytesOf e = 1)
    (h : DataW.trod enc P w 0 (fun _ => true) true fuel t [v] = some x) (hf : Fits P t x.1) : ∃ l, BytesAt w v l ∧ l.length ≤ 140737488355328 := by
  rcases open_slice1 ht ce h with ⟨hc, _⟩ | ⟨a, len, cap, m, n, V, D, Pl, hc, _, hl, hm, hmm, rfl, hx⟩
  · obtain rfl : v = .slice none 0 0 := by simpa using hc
    exact ⟨[], BytesAt.nil w, by simp⟩
  · obtain rfl : v = .slice (some a) len cap := by simpa using hc
    have hmm' : m = cap := by simpa using hmm
    subst hmm'
    have k0 : ∀ i, i < m → V i = bv (ofB (intOf (V i)).toNat) := by
      intro i hi
      obtain ⟨k, e, _, hw⟩ := DataW.trod_int he (hx i hi).2
      have e' : V i = .int .u8 k := by simpa using e
      rw [e']
      exact byte_of hw
    have hlen := fits_len ht hf
    rw [hb] at hlen
    simp at hlen
    refine ⟨(List.range len).map fun i => ofB (intOf (V i)).toNat, ⟨some a, m, by simp, fun h0 => ?_⟩, by simp; have : reachBytes < 2 ^ 47 := reachBytes_lt; omega⟩
    simp at h0
    obtain ⟨b, off, spot⟩ := a
    have hz := (hx 0 (by omega)).1
    have hspot : spot = none := by
      have := World.cell?_spot hz
      simpa [Addr.add] using this
    subst hspot
    refine ⟨b, off, rfl, fun i hi => ?_⟩
    simp at hi
    have := (hx i (by omega)).1
    rw [add_plain] at this
    rw [this, getD_range _ _ hi, ← k0 i (by omega)]

theorem open_rows {t e q : TypeId} {fuel : Nat} {v : Value} {x : DataW H × List MemPlace} (ht : P.underlying t = some (.slice e)) (he : P.underlying e = some (.slice q)) (hq : P.underlying q = some (.int .u8)) (ce : P.cellsOf e = 1) (cq : P.cellsOf q = 1) (be : P.bytesOf e = 24) (bq : P.bytesOf q = 1)
    (h : DataW.trod enc P w 0 (fun _ => true) true fuel t [v] = some x) (hf : Fits P t x.1) : ∃ ls, RowsAt w v ls ∧ ls.length ≤ 140737488355328 ∧ ∀ i, i < ls.length → (ls.getD i []).length ≤ 140737488355328 := by
  rcases open_slice1 ht ce h with ⟨hc, _⟩ | ⟨a, len, cap, m, n, V, D, Pl, hc, _, hl, hm, hmm, rfl, hx⟩
  · obtain rfl : v = .slice none 0 0 := by simpa using hc
    exact ⟨[], RowsAt.nil w, by simp, fun i hi => by simp at hi⟩
  · obtain rfl : v = .slice (some a) len cap := by simpa using hc
    have hmm' : m = cap := by simpa using hmm
    subst hmm'
    have hlen := fits_len ht hf
    rw [be] at hlen
    simp at hlen
    have hr : reachBytes < 2 ^ 47 := reachBytes_lt
    have each : ∀ i, i < len → ∃ l, BytesAt w (V i) l ∧ l.length ≤ 140737488355328 := fun i hi =>
      open_bytes he hq cq bq (hx i (by omega)).2 (fits_elem ht hf (List.mem_map.2 ⟨i, List.mem_range.2 hi, rfl⟩))
    obtain ⟨F, hF⟩ := choose_lt each
    refine ⟨(List.range len).map F, ⟨some a, m, by simp, fun h0 => ?_⟩, by simp; omega, fun i hi => ?_⟩
    · simp at h0
      obtain ⟨b, off, spot⟩ := a
      have hz := (hx 0 (by omega)).1
      have hspot : spot = none := by
        have := World.cell?_spot hz
        simpa [Addr.add] using this
      subst hspot
      refine ⟨b, off, rfl, fun i hi => ?_⟩
      simp at hi
      have := (hx i (by omega)).1
      rw [add_plain] at this
      exact ⟨V i, this, by rw [getD_range _ _ hi]; exact (hF i hi).1⟩
    · simp at hi
      rw [getD_range _ _ hi]
      exact (hF i hi).2

theorem open_held {t e : TypeId} {f0 f1 : Field} {q : TypeId} {fuel : Nat} {v : Value} {x : DataW H × List MemPlace} (ht : P.underlying t = some (.slice e)) (he : P.underlying e = some (.struct #[f0, f1]))
    (ce : P.cellsOf e = 2) (o0 : f0.offset = 0) (o1 : f1.offset = 1) (c0 : P.cellsOf f0.type = 1) (c1 : P.cellsOf f1.type = 1) (u0 : P.underlying f0.type = some (.int .i64)) (u1 : P.underlying f1.type = some (.slice q)) (hq : P.underlying q = some (.int .u8)) (cq : P.cellsOf q = 1) (be : P.bytesOf e = 32) (bq : P.bytesOf q = 1)
    (h : DataW.trod enc P w 0 (fun _ => true) true fuel t [v] = some x) (hf : Fits P t x.1) : ∃ hs, HeldAt w v hs ∧ hs.length ≤ 4500000000000 ∧ ∀ i, i < hs.length → (hs.getD i (0, [])).2.length ≤ 140737488355328 := by
  rcases open_slice_pairs ht he ce o0 o1 c0 c1 h with ⟨hc, _⟩ | ⟨a, len, cap, m, n, V0, V1, D0, D1, P0, P1, hc, _, hl, hm, hmm, rfl, hx⟩
  · obtain rfl : v = .slice none 0 0 := by simpa using hc
    exact ⟨[], ⟨none, 0, rfl, Nat.le_refl _, fun h => absurd h (by simp)⟩, by simp, fun i hi => by simp at hi⟩
  · obtain rfl : v = .slice (some a) len cap := by simpa using hc
    have hmm' : m = cap := by simpa using hmm
    subst hmm'
    have hlen := fits_len ht hf
    rw [be] at hlen
    simp at hlen
    have hr : reachBytes < 2 ^ 47 := reachBytes_lt
    have k0 : ∀ i, i < m → V0 i = .int .i64 (intOf (V0 i)) := by
      intro i hi
      obtain ⟨k, e, _, hw⟩ := DataW.trod_int u0 (hx i hi).2.2.1
      have e' : V0 i = .int .i64 k := by simpa using e
      rw [e']
      rfl
    have each : ∀ i, i < len → ∃ l, BytesAt w (V1 i) l ∧ l.length ≤ 140737488355328 := fun i hi =>
      open_bytes u1 hq cq bq (hx i (by omega)).2.2.2 (fits_two he (fits_elem ht hf (List.mem_map.2 ⟨i, List.mem_range.2 hi, rfl⟩)))
    obtain ⟨F, hF⟩ := choose_lt each
    refine ⟨(List.range len).map fun i => (intOf (V0 i), F i), ⟨some a, m, by simp, by simp; exact hl, fun h0 => ?_⟩, by simp; omega, fun i hi => ?_⟩
    · simp at h0
      obtain ⟨b, off, spot⟩ := a
      have hz := (hx 0 (by omega)).1
      have hspot : spot = none := by
        have := World.cell?_spot hz
        simpa [Addr.add] using this
      subst hspot
      refine ⟨b, off, rfl, fun i hi => ?_⟩
      simp at hi
      obtain ⟨h0, h1, _, _⟩ := hx i (by omega)
      rw [add_plain] at h0 h1
      rw [k0 i (by omega)] at h0
      rw [getD_range _ _ hi]
      exact ⟨h0, V1 i, by rw [Nat.add_assoc]; exact h1, (hF i hi).1⟩
    · simp at hi
      rw [getD_range _ _ hi]
      exact (hF i hi).2
end
end -- CodeOp

section -- LayOp
open Go.ChangeShapes Go.WideShapes Go.ChangeAt Go.RowKit Go.Deep
set_option linter.unusedVariables false

section
variable {H : Type} {enc : TypeId × Value → H} {P : Program} {w : World}
theorem open_tab {t e : TypeId} {f0 f1 : Field} {fuel : Nat} {v : Value} {x : DataW H × List MemPlace} (ht : P.underlying t = some (.slice e)) (he : P.underlying e = some (.struct #[f0, f1]))
    (ce : P.cellsOf e = 2) (o0 : f0.offset = 0) (o1 : f1.offset = 1) (c0 : P.cellsOf f0.type = 1) (c1 : P.cellsOf f1.type = 1) (u0 : P.underlying f0.type = some (.int .i64)) (u1 : P.underlying f1.type = some (.int .i64))
    (h : DataW.trod enc P w 0 (fun _ => true) true fuel t [v] = some x) : ∃ l, TableAt w v l := by
  rcases open_slice_pairs ht he ce o0 o1 c0 c1 h with ⟨hc, _⟩ | ⟨a, len, cap, m, n, V0, V1, D0, D1, P0, P1, hc, _, hl, hm, hmm, rfl, hx⟩
  · obtain rfl : v = .slice none 0 0 := by simpa using hc
    exact ⟨[], ⟨none, 0, rfl, Nat.le_refl _, fun h => absurd h (by simp)⟩⟩
  · obtain rfl : v = .slice (some a) len cap := by simpa using hc
    have hmm' : m = cap := by simpa using hmm
    subst hmm'
    have k0 : ∀ i, i < m → V0 i = .int .i64 (intOf (V0 i)) := by
      intro i hi
      obtain ⟨k, e, _, hw⟩ := DataW.trod_int u0 (hx i hi).2.2.1
      have e' : V0 i = .int .i64 k := by simpa using e
      rw [e']
      rfl
    have k1 : ∀ i, i < m → V1 i = .int .i64 (intOf (V1 i)) := by
      intro i hi
      obtain ⟨k, e, _, hw⟩ := DataW.trod_int u1 (hx i hi).2.2.2
      have e' : V1 i = .int .i64 k := by simpa using e
      rw [e']
      rfl
    refine ⟨(List.range len).map fun i => (intOf (V0 i), intOf (V1 i)), some a, m, by simp, by simp; exact hl, fun h0 => ?_⟩
    simp at h0
    obtain ⟨b, off, spot⟩ := a
    have hz := (hx 0 (by omega)).1
    have hspot : spot = none := by
      have := World.cell?_spot hz
      simpa [Addr.add] using this
    subst hspot
    refine ⟨b, off, rfl, fun i hi => ?_⟩
    simp at hi
    obtain ⟨h0, h1, _, _⟩ := hx i (by omega)
    rw [add_plain] at h0 h1
    rw [k0 i (by omega)] at h0
    rw [k1 i (by omega)] at h1
    rw [getD_range _ _ hi]
    exact ⟨h0, by rw [Nat.add_assoc]; exact h1⟩

theorem open_ints64 {t e : TypeId} {fuel : Nat} {v : Value} {x : DataW H × List MemPlace} (ht : P.underlying t = some (.slice e)) (he : P.underlying e = some (.int .i64)) (ce : P.cellsOf e = 1)
    (h : DataW.trod enc P w 0 (fun _ => true) true fuel t [v] = some x) : ∃ xs, IntsAt w v xs := by
  rcases open_slice1 ht ce h with ⟨hc, _⟩ | ⟨a, len, cap, m, n, V, D, Pl, hc, _, hl, hm, hmm, _, hx⟩
  · obtain rfl : v = .slice none 0 0 := by simpa using hc
    exact ⟨[], none, 0, rfl, Nat.le_refl _, fun h => absurd h (by simp)⟩
  · obtain rfl : v = .slice (some a) len cap := by simpa using hc
    have hmm' : m = cap := by simpa using hmm
    subst hmm'
    have k0 : ∀ i, i < m → V i = .int .i64 (intOf (V i)) := by
      intro i hi
      obtain ⟨k, e, _, hw⟩ := DataW.trod_int he (hx i hi).2
      have e' : V i = .int .i64 k := by simpa using e
      rw [e']
      rfl
    refine ⟨(List.range len).map fun i => intOf (V i), some a, m, by simp, by simp; exact hl, fun h0 => ?_⟩
    simp at h0
    obtain ⟨b, off, spot⟩ := a
    have hz := (hx 0 (by omega)).1
    have hspot : spot = none := by
      have := World.cell?_spot hz
      simpa [Addr.add] using this
    subst hspot
    refine ⟨b, off, rfl, fun i hi => ?_⟩
    simp at hi
    have := (hx i (by omega)).1
    rw [add_plain] at this
    rw [this, getD_range _ _ hi, ← k0 i (by omega)]
end
end -- LayOp

section -- LayOq
open Go.ChangeShapes Go.WideShapes Go.ChangeAt Go.RowKit Go.Deep
set_option linter.unusedVariables false

section
variable {H : Type} {enc : TypeId × Value → H} {P : Program} {w : World}
theorem open_intsB {t e : TypeId} {fuel : Nat} {v : Value} {x : DataW H × List MemPlace} (ht : P.underlying t = some (.slice e)) (he : P.underlying e = some (.int .i64)) (ce : P.cellsOf e = 1) (hb : P.bytesOf e = 8)
    (h : DataW.trod enc P w 0 (fun _ => true) true fuel t [v] = some x) (hf : Fits P t x.1) : ∃ xs, IntsAt w v xs ∧ xs.length ≤ 140737488355328 := by
  rcases open_slice1 ht ce h with ⟨hc, _⟩ | ⟨a, len, cap, m, n, V, D, Pl, hc, _, hl, hm, hmm, rfl, hx⟩
  · obtain rfl : v = .slice none 0 0 := by simpa using hc
    exact ⟨[], ⟨none, 0, rfl, Nat.le_refl _, fun h => absurd h (by simp)⟩, by simp⟩
  · obtain rfl : v = .slice (some a) len cap := by simpa using hc
    have hmm' : m = cap := by simpa using hmm
    subst hmm'
    have k0 : ∀ i, i < m → V i = .int .i64 (intOf (V i)) := by
      intro i hi
      obtain ⟨k, e, _, hw⟩ := DataW.trod_int he (hx i hi).2
      have e' : V i = .int .i64 k := by simpa using e
      rw [e']
      rfl
    have hlen := fits_len ht hf
    rw [hb] at hlen
    simp at hlen
    have hr : reachBytes < 2 ^ 47 := reachBytes_lt
    refine ⟨(List.range len).map fun i => intOf (V i), ⟨some a, m, by simp, by simp; exact hl, fun h0 => ?_⟩, by simp; omega⟩
    simp at h0
    obtain ⟨b, off, spot⟩ := a
    have hz := (hx 0 (by omega)).1
    have hspot : spot = none := by
      have := World.cell?_spot hz
      simpa [Addr.add] using this
    subst hspot
    refine ⟨b, off, rfl, fun i hi => ?_⟩
    simp at hi
    have := (hx i (by omega)).1
    rw [add_plain] at this
    rw [this, getD_range _ _ hi, ← k0 i (by omega)]
end
end -- LayOq

end Go.Proofs.Ytibelpamolcmcaa
