/-
  No cell of these rows narrows 'for every input' (looked for: loops, veiled, ifaces, maps, wideKeys, modest, calm, conditions, laid).
  DERIVED. THE GIVEN ROWS OF THIS SEAT. 3 by the template 'for every input the law returns true; each argument reads behind the call as it read before'; 0 by the template 'total and deterministic' (their statements: YtanjchpkekehgaaGreatTotals.lean).
  GIVEN WITH THE SEED: the statements are not yours to turn. If you find one false, say at which input.
  Laid BY PROGRAM, IN A SANDBOX (cutbox-rows.mjs): the forced cells as the released guide's own fill.sh prints them over the translation e844d4e6bf7b03d7… (all of the seat's roots in one cut). By AI agents, Wed Nov 11 2026. No macro, syntax, notation, axiom, sorry.
-/
import Derived.Test.YtanjchpkekehgaaGreatChecked
import GoSem.Claim
import GoSem.ClaimJoined
import GoSem.ClaimMapViews
import Derived.JoinedTies
import Derived.KernelRfl
namespace Go.Proofs.YtanjchpkekehgaaGreat
/- THE CELL 'sum', in the pinned program and in every row, IS THE sha256 OF THE DUMP (.gsa) THAT YtanjchpkekehgaaGreatProg.lean LOADS. Nothing in Lean hashes anything: it is a label: what it is worth is what the hold of that sum in a sandbox is worth. -/
noncomputable def Tryz.pinned : Pinned := { name := "ytanjchpkekehgaagreat", sum := "e844d4e6bf7b03d7a299406a80a1b0798781c344eddabd2f5d5859cad7b04bdc", checked := Tryz.checked }
namespace Rows
def none {H : Type} : Left H := { results := [], args := [] }

/-- 'hourglasslaw10.LayBodies': WHATEVER THE INPUT: true; the input reads as it did. -/
def layBodiesSpec : ChangeSpec := { name := "layBodies", fn := fun _ => fun
  | [d1, d2, d3] => { results := [.lit (.bool true)], args := [d1, d2, d3] }
  | _ => none }
def layBodiesRow : OpenClaim := { program := "ytanjchpkekehgaagreat", sum := "e844d4e6bf7b03d7a299406a80a1b0798781c344eddabd2f5d5859cad7b04bdc", func := "hourglass/hourglasslaw10.LayBodies", spec := "layBodies", unfollowed := true, recurses := true, apart := false }
def LayBodiesSaid : Prop := layBodiesRow.holds Tryz.pinned (OpenSpec.ofChange layBodiesSpec)

/-- ITS FALSE NEIGHBOUR: 'it returns false'. Refute it at one input. -/
def layBodiesWrong : ChangeSpec := { name := "layBodies", fn := fun _ => fun
  | [d1, d2, d3] => { results := [.lit (.bool false)], args := [d1, d2, d3] }
  | _ => none }
def LayBodiesWrongFalsely : Prop := layBodiesRow.holds Tryz.pinned (OpenSpec.ofChange layBodiesWrong)

/-- 'hourglasslaw10.LayGathers': WHATEVER THE INPUT: true; the input reads as it did. -/
def layGathersSpec : ChangeSpec := { name := "layGathers", fn := fun _ => fun
  | [d1, d2, d3] => { results := [.lit (.bool true)], args := [d1, d2, d3] }
  | _ => none }
def layGathersRow : OpenClaim := { program := "ytanjchpkekehgaagreat", sum := "e844d4e6bf7b03d7a299406a80a1b0798781c344eddabd2f5d5859cad7b04bdc", func := "hourglass/hourglasslaw10.LayGathers", spec := "layGathers", unfollowed := true, recurses := true, apart := false }
def LayGathersSaid : Prop := layGathersRow.holds Tryz.pinned (OpenSpec.ofChange layGathersSpec)

/-- ITS FALSE NEIGHBOUR: 'it returns false'. Refute it at one input. -/
def layGathersWrong : ChangeSpec := { name := "layGathers", fn := fun _ => fun
  | [d1, d2, d3] => { results := [.lit (.bool false)], args := [d1, d2, d3] }
  | _ => none }
def LayGathersWrongFalsely : Prop := layGathersRow.holds Tryz.pinned (OpenSpec.ofChange layGathersWrong)

/-- 'hourglasslaw10.LayEnds': WHATEVER THE INPUT: true; the input reads as it did. -/
def layEndsSpec : ChangeSpec := { name := "layEnds", fn := fun _ => fun
  | [] => { results := [.lit (.bool true)], args := [] }
  | _ => none }
def layEndsRow : OpenClaim := { program := "ytanjchpkekehgaagreat", sum := "e844d4e6bf7b03d7a299406a80a1b0798781c344eddabd2f5d5859cad7b04bdc", func := "hourglass/hourglasslaw10.LayEnds", spec := "layEnds", unfollowed := true, recurses := true, apart := false }
def LayEndsSaid : Prop := layEndsRow.holds Tryz.pinned (OpenSpec.ofChange layEndsSpec)

/-- ITS FALSE NEIGHBOUR: 'it returns false'. Refute it at one input. -/
def layEndsWrong : ChangeSpec := { name := "layEnds", fn := fun _ => fun
  | [] => { results := [.lit (.bool false)], args := [] }
  | _ => none }
def LayEndsWrongFalsely : Prop := layEndsRow.holds Tryz.pinned (OpenSpec.ofChange layEndsWrong)

/- THE SECOND FORM. 'bulk': how many values and letters a reading holds, each counted each time it is reached (what is shared counts as often as it is met; a slice's spare places count too). A statement '..UptoSaid' is the law's where the arguments, and the package variables that the reading takes, are together of bulk at most 1048576: NARROWER than '..Said'. Prove '..Said' where nothing that the law and all that it calls make is longer than what came in: it says more and counts as full. Else prove '..UptoSaid'. A law counts once. -/
mutual
def uptoBulk {H : Type} : DataW H → Nat
  | .lit (.string bytes) => bytes.length + 1
  | .lit _ => 1
  | .nil => 1
  | .ptr d => uptoBulk d + 1
  | .slice elems spare => uptoBulkAll elems + uptoBulkAll spare + 1
  | .agg parts => uptoBulkAll parts + 1
  | .iface _ d => uptoBulk d + 1
  | .map entries => uptoBulkEntries entries + 1
  | .held _ => 1
def uptoBulkAll {H : Type} : List (DataW H) → Nat
  | [] => 0
  | d :: r => uptoBulk d + uptoBulkAll r
def uptoBulkEntries {H : Type} : List (Lit × DataW H) → Nat
  | [] => 0
  | x :: r => uptoBulkEntry x + uptoBulkEntries r
def uptoBulkEntry {H : Type} : Lit × DataW H → Nat
  | (.string bytes, d) => bytes.length + uptoBulk d + 1
  | (_, d) => uptoBulk d + 1
 end
def uptoSmall : (H : Type) → List (DataW H) → Bool := fun _ ds => decide (uptoBulkAll ds ≤ 1048576)
def OpenSpec.upto (s : _root_.Go.ChangeSpec) : _root_.Go.OpenSpec := { _root_.Go.OpenSpec.ofChange s with cond := some uptoSmall }

/-- 'hourglasslaw10.LayBodies', WHERE WHAT IT READS IS OF BULK AT MOST 1048576: true; the input reads as it did. -/
def layBodiesUptoRow : OpenClaim := { program := "ytanjchpkekehgaagreat", sum := "e844d4e6bf7b03d7a299406a80a1b0798781c344eddabd2f5d5859cad7b04bdc", func := "hourglass/hourglasslaw10.LayBodies", spec := "layBodies", unfollowed := true, recurses := true, apart := false, narrowed := true }
def LayBodiesUptoSaid : Prop := layBodiesUptoRow.holds Tryz.pinned (OpenSpec.upto layBodiesSpec)

/-- 'hourglasslaw10.LayGathers', WHERE WHAT IT READS IS OF BULK AT MOST 1048576: true; the input reads as it did. -/
def layGathersUptoRow : OpenClaim := { program := "ytanjchpkekehgaagreat", sum := "e844d4e6bf7b03d7a299406a80a1b0798781c344eddabd2f5d5859cad7b04bdc", func := "hourglass/hourglasslaw10.LayGathers", spec := "layGathers", unfollowed := true, recurses := true, apart := false, narrowed := true }
def LayGathersUptoSaid : Prop := layGathersUptoRow.holds Tryz.pinned (OpenSpec.upto layGathersSpec)

/-- 'hourglasslaw10.LayEnds', WHERE WHAT IT READS IS OF BULK AT MOST 1048576: true; the input reads as it did. -/
def layEndsUptoRow : OpenClaim := { program := "ytanjchpkekehgaagreat", sum := "e844d4e6bf7b03d7a299406a80a1b0798781c344eddabd2f5d5859cad7b04bdc", func := "hourglass/hourglasslaw10.LayEnds", spec := "layEnds", unfollowed := true, recurses := true, apart := false, narrowed := true }
def LayEndsUptoSaid : Prop := layEndsUptoRow.holds Tryz.pinned (OpenSpec.upto layEndsSpec)

end Rows
end Go.Proofs.YtanjchpkekehgaaGreat
