/-
  What came in: numbers, with their bound.
-/
import Derived.Test.YtanjchpkekehgaaGreatMxbn
namespace Go.Proofs.YtanjchpkekehgaaGreat
open Go.ChangeShapes Go.WideShapes Go.ChangeAt Go.RowKit Go.Deep
set_option linter.unusedVariables false

section
variable {H : Type} {enc : TypeId × Value → H} {P : Program} {w : World}
theorem open_intsB {t e : TypeId} {fuel : Nat} {v : Value} {x : DataW H × List MemPlace} (ht : P.underlying t = some (.slice e)) (he : P.underlying e = some (.int .i64)) (ce : P.cellsOf e = 1) (hb : P.bytesOf e = 8)
    (h : DataW.trod enc P w 0 (fun _ => true) true fuel t [v] = some x) (hf : Fits P t x.1) : ∃ xs, IntsAt w v xs ∧ xs.length ≤ 140737488355328 := by
  rcases open_slice1 ht ce h with ⟨hc, _⟩ | ⟨a, len, cap, m, n, V, D, Pl, hc, _, hl, hm, hmm, rfl, hx⟩
  · obtain rfl : v = .slice none 0 0 := by simpa using hc
    exact ⟨[], ⟨none, 0, rfl, Nat.le_refl _, fun h => absurd h (by simp)⟩, by simp⟩
  · obtain rfl : v = .slice (some a) len cap := by simpa using hc
    have hmm' : m = cap := by simpa using hmm
    subst hmm'
    have k0 : ∀ i, i < m → V i = .int .i64 (intOf (V i)) := by
      intro i hi
      obtain ⟨k, e, _, hw⟩ := DataW.trod_int he (hx i hi).2
      have e' : V i = .int .i64 k := by simpa using e
      rw [e']
      rfl
    have hlen := fits_len ht hf
    rw [hb] at hlen
    simp at hlen
    have hr : reachBytes < 2 ^ 47 := reachBytes_lt
    refine ⟨(List.range len).map fun i => intOf (V i), ⟨some a, m, by simp, by simp; exact hl, fun h0 => ?_⟩, by simp; omega⟩
    simp at h0
    obtain ⟨b, off, spot⟩ := a
    have hz := (hx 0 (by omega)).1
    have hspot : spot = none := by
      have := World.cell?_spot hz
      simpa [Addr.add] using this
    subst hspot
    refine ⟨b, off, rfl, fun i hi => ?_⟩
    simp at hi
    have := (hx i (by omega)).1
    rw [add_plain] at this
    rw [this, getD_range _ _ hi, ← k0 i (by omega)]
end
end Go.Proofs.YtanjchpkekehgaaGreat
