/-
  No cell of these rows narrows 'for every input' (looked for: loops, veiled, ifaces, maps, wideKeys, modest, calm, conditions, laid).
  DERIVED. THE GIVEN ROWS OF THIS SEAT. 5 by the template 'for every input the law returns true; each argument reads behind the call as it read before'; 0 by the template 'total and deterministic' (their statements: YtacbmpffpfaciaaTotals.lean).
  GIVEN WITH THE SEED: the statements are not yours to turn. If you find one false, say at which input.
  Laid BY PROGRAM, IN A SANDBOX (cutbox-rows.mjs): the forced cells as the released guide's own fill.sh prints them over the translation 641b60fee09c9b13… (all of the seat's roots in one cut). By AI agents, Wed Nov 11 2026. No macro, syntax, notation, axiom, sorry.
-/
import Derived.Test.YtacbmpffpfaciaaChecked
import GoSem.Claim
import GoSem.ClaimJoined
import GoSem.ClaimMapViews
import Derived.JoinedTies
import Derived.KernelRfl
namespace Go.Proofs.Ytacbmpffpfaciaa
/- THE CELL 'sum', in the pinned program and in every row, IS THE sha256 OF THE DUMP (.gsa) THAT YtacbmpffpfaciaaProg.lean LOADS. Nothing in Lean hashes anything: it is a label: what it is worth is what the hold of that sum in a sandbox is worth. -/
noncomputable def Try.pinned : Pinned := { name := "ytacbmpffpfaciaa", sum := "641b60fee09c9b138ae6ad6d342f5cc7f47bb406ac23b7c5961662915f328e51", checked := Try.checked }
namespace Rows
def none {H : Type} : Left H := { results := [], args := [] }

/-- 'hourglasslaw21.HistExact': WHATEVER THE INPUT: true; the input reads as it did. -/
def histExactSpec : ChangeSpec := { name := "histExact", fn := fun _ => fun
  | [d1, d2] => { results := [.lit (.bool true)], args := [d1, d2] }
  | _ => none }
def histExactRow : OpenClaim := { program := "ytacbmpffpfaciaa", sum := "641b60fee09c9b138ae6ad6d342f5cc7f47bb406ac23b7c5961662915f328e51", func := "hourglass/hourglasslaw21.HistExact", spec := "histExact", unfollowed := true, recurses := true, apart := false }
def HistExactSaid : Prop := histExactRow.holds Try.pinned (OpenSpec.ofChange histExactSpec)

/-- ITS FALSE NEIGHBOUR: 'it returns false'. Refute it at one input. -/
def histExactWrong : ChangeSpec := { name := "histExact", fn := fun _ => fun
  | [d1, d2] => { results := [.lit (.bool false)], args := [d1, d2] }
  | _ => none }
def HistExactWrongFalsely : Prop := histExactRow.holds Try.pinned (OpenSpec.ofChange histExactWrong)

/-- 'hourglasslaw22.TellDoes': WHATEVER THE INPUT: true; the input reads as it did. -/
def tellDoesSpec : ChangeSpec := { name := "tellDoes", fn := fun _ => fun
  | [d1, d2, d3, d4] => { results := [.lit (.bool true)], args := [d1, d2, d3, d4] }
  | _ => none }
def tellDoesRow : OpenClaim := { program := "ytacbmpffpfaciaa", sum := "641b60fee09c9b138ae6ad6d342f5cc7f47bb406ac23b7c5961662915f328e51", func := "hourglass/hourglasslaw22.TellDoes", spec := "tellDoes", unfollowed := true, recurses := true, apart := false }
def TellDoesSaid : Prop := tellDoesRow.holds Try.pinned (OpenSpec.ofChange tellDoesSpec)

/-- ITS FALSE NEIGHBOUR: 'it returns false'. Refute it at one input. -/
def tellDoesWrong : ChangeSpec := { name := "tellDoes", fn := fun _ => fun
  | [d1, d2, d3, d4] => { results := [.lit (.bool false)], args := [d1, d2, d3, d4] }
  | _ => none }
def TellDoesWrongFalsely : Prop := tellDoesRow.holds Try.pinned (OpenSpec.ofChange tellDoesWrong)

/-- 'hourglasslaw22.TellSmall': WHATEVER THE INPUT: true; the input reads as it did. -/
def tellSmallSpec : ChangeSpec := { name := "tellSmall", fn := fun _ => fun
  | [] => { results := [.lit (.bool true)], args := [] }
  | _ => none }
def tellSmallRow : OpenClaim := { program := "ytacbmpffpfaciaa", sum := "641b60fee09c9b138ae6ad6d342f5cc7f47bb406ac23b7c5961662915f328e51", func := "hourglass/hourglasslaw22.TellSmall", spec := "tellSmall", unfollowed := true, recurses := true, apart := false }
def TellSmallSaid : Prop := tellSmallRow.holds Try.pinned (OpenSpec.ofChange tellSmallSpec)

/-- ITS FALSE NEIGHBOUR: 'it returns false'. Refute it at one input. -/
def tellSmallWrong : ChangeSpec := { name := "tellSmall", fn := fun _ => fun
  | [] => { results := [.lit (.bool false)], args := [] }
  | _ => none }
def TellSmallWrongFalsely : Prop := tellSmallRow.holds Try.pinned (OpenSpec.ofChange tellSmallWrong)

/-- 'hourglasslaw22.TellExact': WHATEVER THE INPUT: true; the input reads as it did. -/
def tellExactSpec : ChangeSpec := { name := "tellExact", fn := fun _ => fun
  | [d1, d2, d3] => { results := [.lit (.bool true)], args := [d1, d2, d3] }
  | _ => none }
def tellExactRow : OpenClaim := { program := "ytacbmpffpfaciaa", sum := "641b60fee09c9b138ae6ad6d342f5cc7f47bb406ac23b7c5961662915f328e51", func := "hourglass/hourglasslaw22.TellExact", spec := "tellExact", unfollowed := true, recurses := true, apart := false }
def TellExactSaid : Prop := tellExactRow.holds Try.pinned (OpenSpec.ofChange tellExactSpec)

/-- ITS FALSE NEIGHBOUR: 'it returns false'. Refute it at one input. -/
def tellExactWrong : ChangeSpec := { name := "tellExact", fn := fun _ => fun
  | [d1, d2, d3] => { results := [.lit (.bool false)], args := [d1, d2, d3] }
  | _ => none }
def TellExactWrongFalsely : Prop := tellExactRow.holds Try.pinned (OpenSpec.ofChange tellExactWrong)

/-- 'hourglasslaw22.TellIdle': WHATEVER THE INPUT: true; the input reads as it did. -/
def tellIdleSpec : ChangeSpec := { name := "tellIdle", fn := fun _ => fun
  | [d1, d2, d3] => { results := [.lit (.bool true)], args := [d1, d2, d3] }
  | _ => none }
def tellIdleRow : OpenClaim := { program := "ytacbmpffpfaciaa", sum := "641b60fee09c9b138ae6ad6d342f5cc7f47bb406ac23b7c5961662915f328e51", func := "hourglass/hourglasslaw22.TellIdle", spec := "tellIdle", unfollowed := true, recurses := true, apart := false }
def TellIdleSaid : Prop := tellIdleRow.holds Try.pinned (OpenSpec.ofChange tellIdleSpec)

/-- ITS FALSE NEIGHBOUR: 'it returns false'. Refute it at one input. -/
def tellIdleWrong : ChangeSpec := { name := "tellIdle", fn := fun _ => fun
  | [d1, d2, d3] => { results := [.lit (.bool false)], args := [d1, d2, d3] }
  | _ => none }
def TellIdleWrongFalsely : Prop := tellIdleRow.holds Try.pinned (OpenSpec.ofChange tellIdleWrong)

/- THE SECOND FORM. 'bulk': how many values and letters a reading holds, each counted each time it is reached (what is shared counts as often as it is met; a slice's spare places count too). A statement '..UptoSaid' is the law's where the arguments, and the package variables that the reading takes, are together of bulk at most 1048576: NARROWER than '..Said'. Prove '..Said' where nothing that the law and all that it calls make is longer than what came in: it says more and counts as full. Else prove '..UptoSaid'. A law counts once. -/
mutual
def uptoBulk {H : Type} : DataW H → Nat
  | .lit (.string bytes) => bytes.length + 1
  | .lit _ => 1
  | .nil => 1
  | .ptr d => uptoBulk d + 1
  | .slice elems spare => uptoBulkAll elems + uptoBulkAll spare + 1
  | .agg parts => uptoBulkAll parts + 1
  | .iface _ d => uptoBulk d + 1
  | .map entries => uptoBulkEntries entries + 1
  | .held _ => 1
def uptoBulkAll {H : Type} : List (DataW H) → Nat
  | [] => 0
  | d :: r => uptoBulk d + uptoBulkAll r
def uptoBulkEntries {H : Type} : List (Lit × DataW H) → Nat
  | [] => 0
  | x :: r => uptoBulkEntry x + uptoBulkEntries r
def uptoBulkEntry {H : Type} : Lit × DataW H → Nat
  | (.string bytes, d) => bytes.length + uptoBulk d + 1
  | (_, d) => uptoBulk d + 1
 end
def uptoSmall : (H : Type) → List (DataW H) → Bool := fun _ ds => decide (uptoBulkAll ds ≤ 1048576)
def OpenSpec.upto (s : _root_.Go.ChangeSpec) : _root_.Go.OpenSpec := { _root_.Go.OpenSpec.ofChange s with cond := some uptoSmall }

/-- 'hourglasslaw21.HistExact', WHERE WHAT IT READS IS OF BULK AT MOST 1048576: true; the input reads as it did. -/
def histExactUptoRow : OpenClaim := { program := "ytacbmpffpfaciaa", sum := "641b60fee09c9b138ae6ad6d342f5cc7f47bb406ac23b7c5961662915f328e51", func := "hourglass/hourglasslaw21.HistExact", spec := "histExact", unfollowed := true, recurses := true, apart := false, narrowed := true }
def HistExactUptoSaid : Prop := histExactUptoRow.holds Try.pinned (OpenSpec.upto histExactSpec)

/-- 'hourglasslaw22.TellDoes', WHERE WHAT IT READS IS OF BULK AT MOST 1048576: true; the input reads as it did. -/
def tellDoesUptoRow : OpenClaim := { program := "ytacbmpffpfaciaa", sum := "641b60fee09c9b138ae6ad6d342f5cc7f47bb406ac23b7c5961662915f328e51", func := "hourglass/hourglasslaw22.TellDoes", spec := "tellDoes", unfollowed := true, recurses := true, apart := false, narrowed := true }
def TellDoesUptoSaid : Prop := tellDoesUptoRow.holds Try.pinned (OpenSpec.upto tellDoesSpec)

/-- 'hourglasslaw22.TellSmall', WHERE WHAT IT READS IS OF BULK AT MOST 1048576: true; the input reads as it did. -/
def tellSmallUptoRow : OpenClaim := { program := "ytacbmpffpfaciaa", sum := "641b60fee09c9b138ae6ad6d342f5cc7f47bb406ac23b7c5961662915f328e51", func := "hourglass/hourglasslaw22.TellSmall", spec := "tellSmall", unfollowed := true, recurses := true, apart := false, narrowed := true }
def TellSmallUptoSaid : Prop := tellSmallUptoRow.holds Try.pinned (OpenSpec.upto tellSmallSpec)

/-- 'hourglasslaw22.TellExact', WHERE WHAT IT READS IS OF BULK AT MOST 1048576: true; the input reads as it did. -/
def tellExactUptoRow : OpenClaim := { program := "ytacbmpffpfaciaa", sum := "641b60fee09c9b138ae6ad6d342f5cc7f47bb406ac23b7c5961662915f328e51", func := "hourglass/hourglasslaw22.TellExact", spec := "tellExact", unfollowed := true, recurses := true, apart := false, narrowed := true }
def TellExactUptoSaid : Prop := tellExactUptoRow.holds Try.pinned (OpenSpec.upto tellExactSpec)

/-- 'hourglasslaw22.TellIdle', WHERE WHAT IT READS IS OF BULK AT MOST 1048576: true; the input reads as it did. -/
def tellIdleUptoRow : OpenClaim := { program := "ytacbmpffpfaciaa", sum := "641b60fee09c9b138ae6ad6d342f5cc7f47bb406ac23b7c5961662915f328e51", func := "hourglass/hourglasslaw22.TellIdle", spec := "tellIdle", unfollowed := true, recurses := true, apart := false, narrowed := true }
def TellIdleUptoSaid : Prop := tellIdleUptoRow.holds Try.pinned (OpenSpec.upto tellIdleSpec)

end Rows
end Go.Proofs.Ytacbmpffpfaciaa
