/-
  RefJ: Walks of the reference, layer 5 (code): moved.
  RefK: Walks of the reference, layer 5 (code): Encode, Symbol; the program's Symbol of what is none.
-/
import Derived.Test.YtanjchpkekehgaaMxbi
import Derived.Deep.RegionHeld3
namespace Go.Proofs.Ytanjchpkekehgaa

section -- RefJ
open Go.RowKit Go.Maps
set_option linter.unusedVariables false
set_option maxRecDepth 100000
set_option maxHeartbeats 4000000

/-- What is moved: place j of row r. -/
def movB (xs : List B) (ls : List (List B)) (ts : List B) (n : Nat) (r j : Nat) : B := sm n fun i => lag xs i (ts.getD r 0) * (ls.getD i []).getD j 0
def movL (xs : List B) (ls : List (List B)) (ts : List B) (n m wide : Nat) : List (List B) := (List.range m).map fun r => rowL wide (movB xs ls ts n r)
/-- .. as far as place p of row q. -/
def movP (xs : List B) (ls : List (List B)) (ts : List B) (n p q r j : Nat) : B := if j < p ∨ (j = p ∧ r < q) then movB xs ls ts n r j else 0

theorem BytesAt.cells {w : World} {p : Option Addr} {n c : Nat} {l : List B} (h : BytesAt w (.slice p n c) l) (hn : l.length = n) (h0 : 0 < n) : ∃ g off, p = some ⟨g, off, none⟩ ∧ ∀ i, i < n → w.cell? ⟨g, off + i, none⟩ = some (bv (l.getD i 0)) := by
  subst hn
  obtain ⟨p', c', e, hh⟩ := h
  simp only [Value.slice.injEq, true_and] at e
  obtain ⟨rfl, rfl⟩ := e
  exact hh h0
end -- RefJ

section -- RefK
open Go.RowKit Go.Maps
set_option linter.unusedVariables false
set_option maxRecDepth 100000
set_option maxHeartbeats 4000000

theorem belowDrew {B : Nat} {a w : World} (h : Below B a w) : Below B a w.drew := ⟨h.os, h.tape, h.output, h.size, h.block⟩
theorem mov_row {xs ts : List B} {ls : List (List B)} {n wide r : Nat} {x : B} (hx : xs.length = n) (ht : ts.getD r 0 = x) : rowL wide (movB xs ls ts n r) = mixL (wtsL xs x) ls wide := by
  subst hx
  subst ht
  unfold rowL mixL
  refine List.map_congr_left (fun j _ => ?_)
  unfold movB
  rw [wtsL_len]
  exact sm_congr (fun i hi => by rw [wtsL_get hi]; grind)
theorem mov_enc {ls : List (List B)} {n k wide : Nat} : movL (ptsL k) ls (ptsL n) k n wide = encL n k ls wide :=
  List.map_congr_left (fun r hr => mov_row (ptsL_len k) (ptsL_get (List.mem_range.1 hr)))
end -- RefK

end Go.Proofs.Ytanjchpkekehgaa
