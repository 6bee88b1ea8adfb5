/-
  RefK: Walks of the reference, layer 5 (code): Encode, Symbol; the program's Symbol of what is none.
  RefL: Walks of the reference, layer 5 (code): Symbol; the program's Symbol of what is none.
-/
import Derived.Test.YtanjchpkekehgaaMxbj
import Derived.Deep.RegionHeld3
namespace Go.Proofs.Ytanjchpkekehgaa

section -- RefK
open Go.RowKit Go.Maps
set_option linter.unusedVariables false
set_option maxRecDepth 100000
set_option maxHeartbeats 4000000

theorem belowDrew {B : Nat} {a w : World} (h : Below B a w) : Below B a w.drew := ⟨h.os, h.tape, h.output, h.size, h.block⟩
theorem mov_row {xs ts : List B} {ls : List (List B)} {n wide r : Nat} {x : B} (hx : xs.length = n) (ht : ts.getD r 0 = x) : rowL wide (movB xs ls ts n r) = mixL (wtsL xs x) ls wide := by
  subst hx
  subst ht
  unfold rowL mixL
  refine List.map_congr_left (fun j _ => ?_)
  unfold movB
  rw [wtsL_len]
  exact sm_congr (fun i hi => by rw [wtsL_get hi]; grind)
theorem mov_enc {ls : List (List B)} {n k wide : Nat} : movL (ptsL k) ls (ptsL n) k n wide = encL n k ls wide :=
  List.map_congr_left (fun r hr => mov_row (ptsL_len k) (ptsL_get (List.mem_range.1 hr)))
end -- RefK

section -- RefL
open Go.RowKit Go.Maps
set_option linter.unusedVariables false
set_option maxRecDepth 100000
set_option maxHeartbeats 4000000
end -- RefL

end Go.Proofs.Ytanjchpkekehgaa
