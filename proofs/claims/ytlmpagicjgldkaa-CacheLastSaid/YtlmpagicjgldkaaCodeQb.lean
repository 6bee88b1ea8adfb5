/-
  Walks of layer 5 (code): there, right, Encode, Symbol.
-/
import Derived.Test.YtlmpagicjgldkaaCodeQa
import Derived.Test.YtlmpagicjgldkaaOwnA
namespace Go.Proofs.Ytlmpagicjgldkaa
open Go.RowKit Go.Maps
set_option linter.unusedVariables false
set_option maxRecDepth 100000
set_option maxHeartbeats 2000000

theorem there_yes (w : World) {bc n k bf : Nat} {vt : Value} (hc : CoderAt w bc n k bf vt) :
    Calls Try.prog 24 #[.pointer (some ⟨bc, 0, none⟩)] w fun e w' => e = .returned (.bool true) ∧ w = w' := by
  have d2 := hc.c2
  have k1 : (0 : Int) < k := by have := hc.k1; omega
  have k2 : 0 < k := by omega
  clear hc
  go_enter Try.func24, Try.ntmps24
  go_wp2
  go_ret
  exact ⟨rfl, rfl⟩


end Go.Proofs.Ytlmpagicjgldkaa
