/-
  No cell of these rows narrows 'for every input' (looked for: loops, veiled, ifaces, maps, wideKeys, modest, calm, conditions, laid).
  DERIVED. THE GIVEN ROWS OF THIS SEAT. 3 by the template 'for every input the law returns true; each argument reads behind the call as it read before'; 0 by the template 'total and deterministic' (their statements: YtanjchpkekehgaaTotals.lean).
  GIVEN WITH THE SEED: the statements are not yours to turn. If you find one false, say at which input.
  Laid BY PROGRAM, IN A SANDBOX (cutbox-rows.mjs): the forced cells as the released guide's own fill.sh prints them over the translation eff1583c77c53294… (all of the seat's roots in one cut). By AI agents, Wed Nov 11 2026. No macro, syntax, notation, axiom, sorry.
-/
import Derived.Test.YtanjchpkekehgaaChecked
import GoSem.Claim
import GoSem.ClaimJoined
import GoSem.ClaimMapViews
import Derived.JoinedTies
import Derived.KernelRfl
namespace Go.Proofs.Ytanjchpkekehgaa
/- THE CELL 'sum', in the pinned program and in every row, IS THE sha256 OF THE DUMP (.gsa) THAT YtanjchpkekehgaaProg.lean LOADS. Nothing in Lean hashes anything: it is a label: what it is worth is what the hold of that sum in a sandbox is worth. -/
noncomputable def Try.pinned : Pinned := { name := "ytanjchpkekehgaa", sum := "eff1583c77c53294fd884b94ad10fca9cf94d928f53497fe9f833d754874b3b9", checked := Try.checked }
namespace Rows
def none {H : Type} : Left H := { results := [], args := [] }

/-- 'hourglasslaw10.LayTables': WHATEVER THE INPUT: true; the input reads as it did. -/
def layTablesSpec : ChangeSpec := { name := "layTables", fn := fun _ => fun
  | [d1, d2, d3] => { results := [.lit (.bool true)], args := [d1, d2, d3] }
  | _ => none }
def layTablesRow : OpenClaim := { program := "ytanjchpkekehgaa", sum := "eff1583c77c53294fd884b94ad10fca9cf94d928f53497fe9f833d754874b3b9", func := "hourglass/hourglasslaw10.LayTables", spec := "layTables", unfollowed := true, recurses := true, apart := false }
def LayTablesSaid : Prop := layTablesRow.holds Try.pinned (OpenSpec.ofChange layTablesSpec)

/-- ITS FALSE NEIGHBOUR: 'it returns false'. Refute it at one input. -/
def layTablesWrong : ChangeSpec := { name := "layTables", fn := fun _ => fun
  | [d1, d2, d3] => { results := [.lit (.bool false)], args := [d1, d2, d3] }
  | _ => none }
def LayTablesWrongFalsely : Prop := layTablesRow.holds Try.pinned (OpenSpec.ofChange layTablesWrong)

/-- 'hourglasslaw10.LayPrefix': WHATEVER THE INPUT: true; the input reads as it did. -/
def layPrefixSpec : ChangeSpec := { name := "layPrefix", fn := fun _ => fun
  | [d1, d2, d3, d4] => { results := [.lit (.bool true)], args := [d1, d2, d3, d4] }
  | _ => none }
def layPrefixRow : OpenClaim := { program := "ytanjchpkekehgaa", sum := "eff1583c77c53294fd884b94ad10fca9cf94d928f53497fe9f833d754874b3b9", func := "hourglass/hourglasslaw10.LayPrefix", spec := "layPrefix", unfollowed := true, recurses := true, apart := false }
def LayPrefixSaid : Prop := layPrefixRow.holds Try.pinned (OpenSpec.ofChange layPrefixSpec)

/-- ITS FALSE NEIGHBOUR: 'it returns false'. Refute it at one input. -/
def layPrefixWrong : ChangeSpec := { name := "layPrefix", fn := fun _ => fun
  | [d1, d2, d3, d4] => { results := [.lit (.bool false)], args := [d1, d2, d3, d4] }
  | _ => none }
def LayPrefixWrongFalsely : Prop := layPrefixRow.holds Try.pinned (OpenSpec.ofChange layPrefixWrong)

/-- 'hourglasslaw10.LayMore': WHATEVER THE INPUT: true; the input reads as it did. -/
def layMoreSpec : ChangeSpec := { name := "layMore", fn := fun _ => fun
  | [d1, d2, d3, d4, d5] => { results := [.lit (.bool true)], args := [d1, d2, d3, d4, d5] }
  | _ => none }
def layMoreRow : OpenClaim := { program := "ytanjchpkekehgaa", sum := "eff1583c77c53294fd884b94ad10fca9cf94d928f53497fe9f833d754874b3b9", func := "hourglass/hourglasslaw10.LayMore", spec := "layMore", unfollowed := true, recurses := true, apart := false }
def LayMoreSaid : Prop := layMoreRow.holds Try.pinned (OpenSpec.ofChange layMoreSpec)

/-- ITS FALSE NEIGHBOUR: 'it returns false'. Refute it at one input. -/
def layMoreWrong : ChangeSpec := { name := "layMore", fn := fun _ => fun
  | [d1, d2, d3, d4, d5] => { results := [.lit (.bool false)], args := [d1, d2, d3, d4, d5] }
  | _ => none }
def LayMoreWrongFalsely : Prop := layMoreRow.holds Try.pinned (OpenSpec.ofChange layMoreWrong)

/- THE SECOND FORM. 'bulk': how many values and letters a reading holds, each counted each time it is reached (what is shared counts as often as it is met; a slice's spare places count too). A statement '..UptoSaid' is the law's where the arguments, and the package variables that the reading takes, are together of bulk at most 1048576: NARROWER than '..Said'. Prove '..Said' where nothing that the law and all that it calls make is longer than what came in: it says more and counts as full. Else prove '..UptoSaid'. A law counts once. -/
mutual
def uptoBulk {H : Type} : DataW H → Nat
  | .lit (.string bytes) => bytes.length + 1
  | .lit _ => 1
  | .nil => 1
  | .ptr d => uptoBulk d + 1
  | .slice elems spare => uptoBulkAll elems + uptoBulkAll spare + 1
  | .agg parts => uptoBulkAll parts + 1
  | .iface _ d => uptoBulk d + 1
  | .map entries => uptoBulkEntries entries + 1
  | .held _ => 1
def uptoBulkAll {H : Type} : List (DataW H) → Nat
  | [] => 0
  | d :: r => uptoBulk d + uptoBulkAll r
def uptoBulkEntries {H : Type} : List (Lit × DataW H) → Nat
  | [] => 0
  | x :: r => uptoBulkEntry x + uptoBulkEntries r
def uptoBulkEntry {H : Type} : Lit × DataW H → Nat
  | (.string bytes, d) => bytes.length + uptoBulk d + 1
  | (_, d) => uptoBulk d + 1
 end
def uptoSmall : (H : Type) → List (DataW H) → Bool := fun _ ds => decide (uptoBulkAll ds ≤ 1048576)
def OpenSpec.upto (s : _root_.Go.ChangeSpec) : _root_.Go.OpenSpec := { _root_.Go.OpenSpec.ofChange s with cond := some uptoSmall }

/-- 'hourglasslaw10.LayTables', WHERE WHAT IT READS IS OF BULK AT MOST 1048576: true; the input reads as it did. -/
def layTablesUptoRow : OpenClaim := { program := "ytanjchpkekehgaa", sum := "eff1583c77c53294fd884b94ad10fca9cf94d928f53497fe9f833d754874b3b9", func := "hourglass/hourglasslaw10.LayTables", spec := "layTables", unfollowed := true, recurses := true, apart := false, narrowed := true }
def LayTablesUptoSaid : Prop := layTablesUptoRow.holds Try.pinned (OpenSpec.upto layTablesSpec)

/-- 'hourglasslaw10.LayPrefix', WHERE WHAT IT READS IS OF BULK AT MOST 1048576: true; the input reads as it did. -/
def layPrefixUptoRow : OpenClaim := { program := "ytanjchpkekehgaa", sum := "eff1583c77c53294fd884b94ad10fca9cf94d928f53497fe9f833d754874b3b9", func := "hourglass/hourglasslaw10.LayPrefix", spec := "layPrefix", unfollowed := true, recurses := true, apart := false, narrowed := true }
def LayPrefixUptoSaid : Prop := layPrefixUptoRow.holds Try.pinned (OpenSpec.upto layPrefixSpec)

/-- 'hourglasslaw10.LayMore', WHERE WHAT IT READS IS OF BULK AT MOST 1048576: true; the input reads as it did. -/
def layMoreUptoRow : OpenClaim := { program := "ytanjchpkekehgaa", sum := "eff1583c77c53294fd884b94ad10fca9cf94d928f53497fe9f833d754874b3b9", func := "hourglass/hourglasslaw10.LayMore", spec := "layMore", unfollowed := true, recurses := true, apart := false, narrowed := true }
def LayMoreUptoSaid : Prop := layMoreUptoRow.holds Try.pinned (OpenSpec.upto layMoreSpec)

end Rows
end Go.Proofs.Ytanjchpkekehgaa
