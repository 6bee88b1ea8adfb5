/-
  LayF: Layer 10, walks: the reference's Right.
  LayI: Layer 10, walks: the reference's Long; Ready (the program's, the reference's).
  StepZ: A region that draws its order, step by step, where something (S) holds of each world ahead of its last operation, which alone may break it.
-/
import Derived.Test.YtibelpamolcmcaaMxan
import Derived.Test.YtibelpamolcmcaaMxao
import Derived.Test.YtibelpamolcmcaaMxad
import Derived.StillTail
namespace Go.Proofs.Ytibelpamolcmcaa

section -- LayF
open Go.RowKit Go.Maps
set_option linter.unusedVariables false
set_option linter.unusedSimpArgs false
set_option maxRecDepth 100000
set_option maxHeartbeats 4000000

theorem balD (w : World) (q : Nat) : Below w.heap.size w (w.drewN q) := (Kept.refl (fun _ => False) w).drewN q |>.toBelow (Nat.le_refl _) (fun _ h => h.elim)
end -- LayF

section -- LayI
open Go.RowKit Go.Maps
set_option linter.unusedVariables false
set_option linter.unusedSimpArgs false
set_option maxRecDepth 100000
set_option maxHeartbeats 2000000

def longV (n : Int) (t : List (Int × Int)) : Int := if TableOk n t then ((atT t t.length : Nat) : Int) else 0
def readyV (n : Int) (t : List (Int × Int)) (came : Int) : Int := if TableOk n t then ((readyT t came : Nat) : Int) else 0
def tabE (n : Int) (t : List (Int × Int)) : Int := if TableOk n t then 0 else 2

def idxT (t : List (Int × Int)) (came : Int) : Int := if readyT t came < t.length then ((readyT t came : Nat) : Int) else -1
end -- LayI

section -- StepZ
open Go.RowKit Go.Maps
set_option linter.unusedVariables false

section
variable {P : Program} {ops : Array Oper} {Q : Exit → Act → World → Prop} {md : Region.Mode} {S : World → Prop} {z : Nat}

/-- Whatever order is picked from here on: S holds behind each operation, number z alone being free. -/
def wpAnyE (P : Program) (md : Region.Mode) (ops : Array Oper) (Q : Exit → Act → World → Prop) (S : World → Prop) (z : Nat) : Nat → Array Bool → Act → World → Prop
  | 0, listed, a, w => Region.ready md ops listed = [] ∧ Q .normal a w
  | f + 1, listed, a, w => (Region.ready md ops listed = [] → Q .normal a w) ∧
    ∀ i ∈ Region.ready md ops listed, wpOp P ops Q i (fun a' w' => (i ≠ z → S w') ∧ wpAnyE P md ops Q S z f (listed.setIfInBounds i true) a' w') a w

theorem wpAny_of_E : ∀ (f : Nat) (listed : Array Bool) (a : Act) (w : World), wpAnyE P md ops Q S z f listed a w → wpAny P md ops Q f listed a w
  | 0, _, _, _, h => h
  | f + 1, _, _, _, h => ⟨h.1, fun i hi => wpOp_mono (fun a' w' h' => wpAny_of_E f _ a' w' h'.2) (h.2 i hi)⟩

/-- Number z waits for number k. -/
def lastB (md : Region.Mode) (ops : Array Oper) (z k : Nat) : Bool := k == z || match ops[z]? with
  | some o => o.after.any fun e => Region.binds md e && e.on == k
  | none => false
theorem lastB_spec {i : Nat} (h : lastB md ops z i = true) {listed : Array Bool} (hz : z ∈ Region.ready md ops listed) (hi : i ∈ Region.ready md ops listed) : i = z := by
  obtain ⟨hiun, oi, hoi, _⟩ := mem_ready.1 hi
  obtain ⟨_, oz, hoz, hall⟩ := mem_ready.1 hz
  have h1 := h
  unfold lastB at h1
  rw [hoz] at h1
  by_cases e : i = z
  · exact e
  · simp only [Bool.or_eq_true, beq_iff_eq, e, false_or] at h1
    obtain ⟨x, hx, hb⟩ := Array.any_eq_true'.1 h1
    simp only [Bool.and_eq_true, beq_iff_eq] at hb
    have h2 := hall x hx hb.1
    rw [hb.2, getD_both hiun] at h2
    cases h2

theorem wpAnyE_first {i : Nat} {oi : Oper} {v : Value} (hi : ops[i]? = some oi) (hsel : ∀ (j : Nat) (o : Oper) cs b, ops[j]? = some o → o.op ≠ .select cs b)
    (hQ : ∀ c a w, Q (.panic c) (a.put oi.dst v) w → Q (.panic c) a w) (hl : lastB md ops z i = true) :
    ∀ (f : Nat) (listed : Array Bool) (a : Act) (w : World),
      (∀ j oj, ops[j]? = some oj → j ≠ i → listed.getD j true = false → (∀ e ∈ oj.after, Region.binds md e = true → e.on ≠ i) → oi.apart ops oj = true) →
      i ∈ Region.ready md ops listed → YieldsIf P ops S oi v a → S w →
      wpAnyE P md ops Q S z f (listed.setIfInBounds i true) (a.put oi.dst v) w → wpAnyE P md ops Q S z (f + 1) listed a w := by
  intro f
  induction f with
  | zero =>
    intro listed a w _ hr hy hS H
    refine ⟨fun h => (by rw [h] at hr; cases hr), fun j hj => ?_⟩
    by_cases hji : j = i
    · subst hji; exact hy.wpOp hi hS ⟨fun _ => hS, H⟩
    · have := ready_mono hj hji
      rw [H.1] at this
      cases this
  | succ f ih =>
    intro listed a w hfree hr hy hS H
    refine ⟨fun h => (by rw [h] at hr; cases hr), fun j hj => ?_⟩
    by_cases hji : j = i
    · subst hji; exact hy.wpOp hi hS ⟨fun _ => hS, H⟩
    · have hjz : j ≠ z := fun e => hji (by subst e; exact (lastB_spec hl hj hr).symm)
      have h1 := H.2 j (ready_mono hj hji)
      obtain ⟨hjun, oj, hoj, hall⟩ := mem_ready.1 hj
      have hnot : ∀ e ∈ oj.after, Region.binds md e = true → e.on ≠ i := fun e he hb heq => by
        have h2 := hall e he hb
        rw [heq, getD_both (mem_ready.1 hr).1] at h2
        cases h2
      have h2 := wpOp_putIf hoj (hfree j oj hoj hji hjun hnot) (fun cs b => hsel i oi cs b hi) (fun cs b => hsel j oj cs b hoj) hQ hy h1
      have hfree' : ∀ k ok, ops[k]? = some ok → k ≠ i → (listed.setIfInBounds j true).getD k true = false →
          (∀ e ∈ ok.after, Region.binds md e = true → e.on ≠ i) → oi.apart ops ok = true := fun k ok hk hki hun hno => by
        refine hfree k ok hk hki ?_ hno
        by_cases hjk : j = k
        · subst hjk; exact hjun
        · rw [Go.getD_set_ne true hjk] at hun; exact hun
      refine wpOp_mono (fun a' w' h3 => ⟨h3.2.1, ih (listed.setIfInBounds j true) a' w' hfree' (ready_mono hr (Ne.symm hji)) h3.1 (h3.2.1 hjz) ?_⟩) h2
      rw [Array.setIfInBounds_comm _ _ hji]
      exact h3.2.2
end

section
variable {P : Program} {ops : Array Oper} {Q : Exit → Act → World → Prop} {fuel : Nat} {listed : Array Bool} {a : Act} {w : World} {S : World → Prop} {z : Nat}
/-- Those that may come up. -/
def AllReadyE (P : Program) (ops : Array Oper) (Q : Exit → Act → World → Prop) (S : World → Prop) (z : Nat) (fuel : Nat) (listed : Array Bool) (a : Act) (w : World) (rs : List Nat) : Prop :=
  ∀ i ∈ rs, wpOp P ops Q i (fun a' w' => (i ≠ z → S w') ∧ wpAnyE P .any ops Q S z fuel (listed.setIfInBounds i true) a' w') a w
theorem AllReadyE.nil : AllReadyE P ops Q S z fuel listed a w [] := fun _ h => by cases h
theorem z_start {id : Nat} (n : Nat) (S : World → Prop) (z : Nat) (hn : ops.size = n) (hm : P.follows .mixedOrders = true) (h : wpAnyE P .any ops (NoPanic Q) S z n (Array.replicate n false) a w.drew) : (Code.region id ops true).wp P Q a w :=
  wp_region_noPanic (wp_region_any hm (wpAny_of_E (S := S) (z := z) _ _ _ _ (by rw [hn]; exact h)))
theorem z_take (i : Nat) (hs : Region.noSelect ops = true) (hl : lastB .any ops z i = true) (hf : Region.free .any ops listed i = true) (hr : (Region.ready .any ops listed).contains i = true) (hi : (ops[i]?).isSome = true) (hS : S w)
    (H : ∀ oi, ops[i]? = some oi → ∃ v, YieldsIf P ops S oi v a ∧ wpAnyE P .any ops (NoPanic Q) S z fuel (listed.setIfInBounds i true) (a.put oi.dst v) w) : wpAnyE P .any ops (NoPanic Q) S z (fuel + 1) listed a w := by
  obtain ⟨oi, ho⟩ := Option.isSome_iff_exists.1 hi
  obtain ⟨v, hy, h⟩ := H oi ho
  exact wpAnyE_first ho (Region.noSelect_spec hs) (fun _ _ _ h => h) hl fuel listed a w (Region.free_spec ho hf) (by simpa using hr) hy hS h
theorem z_all {rs : List Nat} (hr : Region.ready .any ops listed = rs) (hne : rs ≠ []) (h : AllReadyE P ops (NoPanic Q) S z fuel listed a w rs) : wpAnyE P .any ops (NoPanic Q) S z (fuel + 1) listed a w :=
  ⟨fun h0 => absurd (hr ▸ h0) hne, hr ▸ h⟩
theorem z_step (i : Nat) {rs : List Nat} (hi : (ops[i]?).isSome = true)
    (H : ∀ o, ops[i]? = some o → ∀ K : Act → World → Prop, Shut (∀ a w, S w → wpAnyE P .any ops (NoPanic Q) S z fuel (listed.setIfInBounds i true) a w → K a w) → if Region.wanted o (yielded ops a.tmps) = true then Oper.wp P o a w K (NoPanic Q) else K (a.put o.dst undef) w)
    (hs : AllReadyE P ops (NoPanic Q) S z fuel listed a w rs) : AllReadyE P ops (NoPanic Q) S z fuel listed a w (i :: rs) := fun j hj => by
  rcases List.mem_cons.1 hj with rfl | hj
  · obtain ⟨o, ho⟩ := Option.isSome_iff_exists.1 hi
    exact wpOp_step ho (fun K' hK => H o ho K' (fun a w hS hW => hK a w ⟨fun _ => hS, hW⟩))
  · exact hs j hj
/-- The last one: S may break. -/
theorem z_last (hi : (ops[z]?).isSome = true)
    (H : ∀ o, ops[z]? = some o → ∀ K : Act → World → Prop, Shut (∀ a w, wpAnyE P .any ops (NoPanic Q) S z fuel (listed.setIfInBounds z true) a w → K a w) → if Region.wanted o (yielded ops a.tmps) = true then Oper.wp P o a w K (NoPanic Q) else K (a.put o.dst undef) w) :
    AllReadyE P ops (NoPanic Q) S z fuel listed a w [z] := fun j hj => by
  rw [List.mem_singleton] at hj
  subst hj
  obtain ⟨o, ho⟩ := Option.isSome_iff_exists.1 hi
  exact wpOp_step ho (fun K' hK => H o ho K' (fun a w hW => hK a w ⟨fun h => absurd rfl h, hW⟩))
theorem z_done (hr : Region.ready .any ops listed = []) (h : Q .normal a w) : wpAnyE P .any ops (NoPanic Q) S z fuel listed a w := by
  cases fuel with
  | zero => exact ⟨hr, NoPanic.normal h⟩
  | succ f => exact ⟨fun _ => NoPanic.normal h, by rw [hr]; simp⟩
end
end -- StepZ

end Go.Proofs.Ytibelpamolcmcaa
