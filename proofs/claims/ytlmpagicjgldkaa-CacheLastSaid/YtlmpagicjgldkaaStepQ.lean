/-
  A region that draws its order, step by step: an operation is taken first; or those that may come up are gone through.
-/
import Derived.Test.YtlmpagicjgldkaaKept
import Derived.Deep.RegionHeld3
namespace Go.Proofs.Ytlmpagicjgldkaa
open Go.RowKit Go.Maps
set_option linter.unusedVariables false
set_option maxRecDepth 100000
set_option maxHeartbeats 4000000

def Tru (_ : World) : Prop := True
section
variable {P : Program} {ops : Array Oper} {Q : Exit → Act → World → Prop} {fuel : Nat} {listed : Array Bool} {a : Act} {w : World}
/-- Begin. -/
theorem q_start {id : Nat} (n : Nat) (hn : ops.size = n) (hm : P.follows .mixedOrders = true) (h : wpAnyH P .any ops (NoPanic Q) Tru n (Array.replicate n false) a w.drew) : (Code.region id ops true).wp P Q a w :=
  wp_region_noPanic (wp_region_held_drew (S := Tru) hm trivial (fun _ => by rw [hn]; exact h))
/-- Take number i first. -/
theorem q_take (i : Nat) (hs : Region.noSelect ops = true) (hf : Region.free .any ops listed i = true) (hr : (Region.ready .any ops listed).contains i = true) (hi : (ops[i]?).isSome = true)
    (H : ∀ oi, ops[i]? = some oi → ∃ v, YieldsIf P ops Tru oi v a ∧ wpAnyH P .any ops (NoPanic Q) Tru fuel (listed.setIfInBounds i true) (a.put oi.dst v) w) : wpAnyH P .any ops (NoPanic Q) Tru (fuel + 1) listed a w := by
  obtain ⟨oi, ho⟩ := Option.isSome_iff_exists.1 hi
  obtain ⟨v, hy, h⟩ := H oi ho
  exact wpAnyH_take ho hs hf hr (fun _ _ _ h => h) hy trivial h
/-- Go through those that may come up. -/
theorem q_all {rs : List Nat} (hr : Region.ready .any ops listed = rs) (hne : rs ≠ []) (h : AllReadyH P .any ops (NoPanic Q) Tru fuel listed a w rs) : wpAnyH P .any ops (NoPanic Q) Tru (fuel + 1) listed a w := wpAnyH_ready hr hne h
theorem q_step (i : Nat) {rs : List Nat} (hi : (ops[i]?).isSome = true)
    (H : ∀ o, ops[i]? = some o → ∀ K : Act → World → Prop, Shut (∀ a w, wpAnyH P .any ops (NoPanic Q) Tru fuel (listed.setIfInBounds i true) a w → K a w) → if Region.wanted o (yielded ops a.tmps) = true then Oper.wp P o a w K (NoPanic Q) else K (a.put o.dst undef) w)
    (hs : AllReadyH P .any ops (NoPanic Q) Tru fuel listed a w rs) : AllReadyH P .any ops (NoPanic Q) Tru fuel listed a w (i :: rs) := by
  obtain ⟨o, ho⟩ := Option.isSome_iff_exists.1 hi
  exact AllReadyH.cons ho (fun K hK => H o ho K (fun a w h => hK a w trivial (fun _ => h))) hs
theorem q_done (hr : Region.ready .any ops listed = []) (h : Q .normal a w) : wpAnyH P .any ops (NoPanic Q) Tru fuel listed a w := wpAnyH_done hr (NoPanic.normal h) fuel

variable {S : World → Prop}
/-- With something that holds of each world on the way. -/
theorem s_start {id : Nat} (n : Nat) (S : World → Prop) (hn : ops.size = n) (hm : P.follows .mixedOrders = true) (hS : S w.drew) (h : wpAnyH P .any ops (NoPanic Q) S n (Array.replicate n false) a w.drew) : (Code.region id ops true).wp P Q a w :=
  wp_region_noPanic (wp_region_held_drew (S := S) hm hS (fun _ => by rw [hn]; exact h))
theorem s_take (i : Nat) (hs : Region.noSelect ops = true) (hf : Region.free .any ops listed i = true) (hr : (Region.ready .any ops listed).contains i = true) (hi : (ops[i]?).isSome = true) (hS : S w)
    (H : ∀ oi, ops[i]? = some oi → ∃ v, YieldsIf P ops S oi v a ∧ wpAnyH P .any ops (NoPanic Q) S fuel (listed.setIfInBounds i true) (a.put oi.dst v) w) : wpAnyH P .any ops (NoPanic Q) S (fuel + 1) listed a w := by
  obtain ⟨oi, ho⟩ := Option.isSome_iff_exists.1 hi
  obtain ⟨v, hy, h⟩ := H oi ho
  exact wpAnyH_take ho hs hf hr (fun _ _ _ h => h) hy hS h
theorem s_all {rs : List Nat} (hr : Region.ready .any ops listed = rs) (hne : rs ≠ []) (h : AllReadyH P .any ops (NoPanic Q) S fuel listed a w rs) : wpAnyH P .any ops (NoPanic Q) S (fuel + 1) listed a w := wpAnyH_ready hr hne h
theorem s_step (i : Nat) {rs : List Nat} (hi : (ops[i]?).isSome = true)
    (H : ∀ o, ops[i]? = some o → ∀ K : Act → World → Prop, Shut (∀ a w, S w → wpAnyH P .any ops (NoPanic Q) S fuel (listed.setIfInBounds i true) a w → K a w) → if Region.wanted o (yielded ops a.tmps) = true then Oper.wp P o a w K (NoPanic Q) else K (a.put o.dst undef) w)
    (hs : AllReadyH P .any ops (NoPanic Q) S fuel listed a w rs) : AllReadyH P .any ops (NoPanic Q) S fuel listed a w (i :: rs) := by
  obtain ⟨o, ho⟩ := Option.isSome_iff_exists.1 hi
  exact AllReadyH.cons ho (fun K hK => H o ho K (fun a w hS h => hK a w hS (fun _ => h))) hs
theorem s_done (hr : Region.ready .any ops listed = []) (h : Q .normal a w) : wpAnyH P .any ops (NoPanic Q) S fuel listed a w := wpAnyH_done hr (NoPanic.normal h) fuel
end
end Go.Proofs.Ytlmpagicjgldkaa
