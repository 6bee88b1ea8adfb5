/-
  RefD: Walks of the reference, layer 2 (poly): Add, product.
  RefE: Walks of the reference, layer 2 (poly): product.
-/
import Derived.Test.YtanjchpkekehgaaMxax
namespace Go.Proofs.Ytanjchpkekehgaa

section -- RefD
open Go.RowKit Go.Maps
set_option linter.unusedVariables false
set_option maxRecDepth 100000
set_option maxHeartbeats 2000000
end -- RefD

section -- RefE
open Go.RowKit Go.Maps
set_option linter.unusedVariables false
set_option maxRecDepth 100000
set_option maxHeartbeats 2000000

theorem belowDr {B : Nat} {a w : World} (h : Below B a w) (n : Nat) : Below B a (w.drewN n) := ⟨h.os, h.tape, h.output, h.size, h.block⟩
end -- RefE

end Go.Proofs.Ytanjchpkekehgaa
