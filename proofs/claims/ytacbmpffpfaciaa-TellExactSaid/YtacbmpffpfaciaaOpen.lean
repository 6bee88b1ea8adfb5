/-
  A slice of pairs of numbers that came in: its cells.
-/
import Derived.Test.YtacbmpffpfaciaaHistC
import Derived.ProofKit
import Derived.OpenShut
import Derived.Deep.SlicePairs
namespace Go.Proofs.Ytacbmpffpfaciaa
open Go.ChangeShapes Go.WideShapes Go.ChangeAt Go.RowKit Go.Deep

/-- What the walk is told of a slice of pairs of numbers. -/
def PairsIn (w : World) (p : Option Addr) (xs : List (Int × Int)) : Prop :=
  (∀ x ∈ xs, Wf64 x.1 ∧ Wf64 x.2) ∧
  (0 < xs.length → ∃ g off, p = some ⟨g, off, none⟩ ∧ g < w.heap.size ∧ ∀ j x, xs[j]? = some x → w.cell? ⟨g, off + j * 2, none⟩ = some (.int .i64 x.1) ∧ w.cell? ⟨g, off + j * 2 + 1, none⟩ = some (.int .i64 x.2))

theorem wf64_of {n : Int} (h : (Lit.int .i64 n).wf = true) : Wf64 n := by
  simpa [Lit.wf, IntKind.min, IntKind.max, IntKind.signed, IntKind.bits, Wf64] using h

theorem open_pairs64 {H : Type} {enc : TypeId × Value → H} {P : Program} {w : World} {t e : TypeId} {f0 f1 : Field} {fuel : Nat} {v : Value} {x : DataW H × List MemPlace} (ht : P.underlying t = some (.slice e)) (he : P.underlying e = some (.struct #[f0, f1]))
    (ce : P.cellsOf e = 2) (o0 : f0.offset = 0) (o1 : f1.offset = 1) (c0 : P.cellsOf f0.type = 1) (c1 : P.cellsOf f1.type = 1) (u0 : P.underlying f0.type = some (.int .i64)) (u1 : P.underlying f1.type = some (.int .i64))
    (h : DataW.trod enc P w 0 (fun _ => true) true fuel t [v] = some x) :
    ∃ (p : Option Addr) (cap : Nat) (xs : List (Int × Int)), v = .slice p xs.length cap ∧ xs.length ≤ maxLen ∧ PairsIn w p xs := by
  rcases open_slice_pairs ht he ce o0 o1 c0 c1 h with ⟨hc, _⟩ | ⟨a, len, cap, m, n, V0, V1, D0, D1, P0, P1, hc, _, hl, hm, hmm, _, hx⟩
  · obtain rfl : v = .slice none 0 0 := by simpa using hc
    exact ⟨none, 0, [], rfl, Nat.zero_le _, by simp, fun h => absurd h (by simp)⟩
  · obtain rfl : v = .slice (some a) len cap := by simpa using hc
    have hmm' : m = cap := by simpa using hmm
    subst hmm'
    have k0 : ∀ i, i < m → V0 i = .int .i64 (intOf (V0 i)) ∧ Wf64 (intOf (V0 i)) := by
      intro i hi
      obtain ⟨_, _, h0, _⟩ := hx i hi
      obtain ⟨k, e, _, hw⟩ := DataW.trod_int u0 h0
      have e' : V0 i = .int .i64 k := by simpa using e
      rw [e']
      exact ⟨rfl, wf64_of hw⟩
    have k1 : ∀ i, i < m → V1 i = .int .i64 (intOf (V1 i)) ∧ Wf64 (intOf (V1 i)) := by
      intro i hi
      obtain ⟨_, _, _, h0⟩ := hx i hi
      obtain ⟨k, e, _, hw⟩ := DataW.trod_int u1 h0
      have e' : V1 i = .int .i64 k := by simpa using e
      rw [e']
      exact ⟨rfl, wf64_of hw⟩
    refine ⟨some a, m, (List.range len).map fun i => (intOf (V0 i), intOf (V1 i)), by simp, by simp; omega, ?_, ?_⟩
    · intro y hy
      obtain ⟨i, hi, rfl⟩ := List.mem_map.1 hy
      have := List.mem_range.1 hi
      exact ⟨(k0 i (by omega)).2, (k1 i (by omega)).2⟩
    · intro hp
      simp at hp
      obtain ⟨b, off, spot⟩ := a
      have hz := (hx 0 (by omega)).1
      have hspot : spot = none := by
        have := World.cell?_spot hz
        simpa [Addr.add] using this
      subst hspot
      have hlt := World.block_lt_of_cell? w _ hz
      refine ⟨b, off, rfl, by simpa [Addr.add] using hlt, fun j y hj => ?_⟩
      simp only [List.getElem?_map, Option.map_eq_some_iff] at hj
      obtain ⟨i, hi, rfl⟩ := hj
      have hir : i = j ∧ j < len := by
        obtain ⟨hl2, e2⟩ := List.getElem?_eq_some_iff.1 hi
        simp at hl2 e2
        omega
      obtain ⟨rfl, hjl⟩ := hir
      obtain ⟨h0, h1, _, _⟩ := hx i (by omega)
      rw [add_plain] at h0 h1
      rw [(k0 i (by omega)).1] at h0
      rw [(k1 i (by omega)).1] at h1
      exact ⟨h0, by rw [Nat.add_assoc]; exact h1⟩

end Go.Proofs.Ytacbmpffpfaciaa
