/-
  StepQ: A region that draws its order, step by step: an operation is taken first; or those that may come up are gone through.
  LayD: Layer 10, walks: widths (the program's, the reference's); whether rows are a table.
-/
import Derived.Test.YtanjchpkekehgaaKept
import Derived.Deep.RegionHeld3
import Derived.Test.YtanjchpkekehgaaMxas
import Derived.Test.YtanjchpkekehgaaMxar
namespace Go.Proofs.Ytanjchpkekehgaa

section -- StepQ
open Go.RowKit Go.Maps
set_option linter.unusedVariables false
set_option maxRecDepth 100000
set_option maxHeartbeats 4000000

def Tru (_ : World) : Prop := True
section
variable {P : Program} {ops : Array Oper} {Q : Exit → Act → World → Prop} {fuel : Nat} {listed : Array Bool} {a : Act} {w : World}
/-- Begin. -/
theorem q_start {id : Nat} (n : Nat) (hn : ops.size = n) (hm : P.follows .mixedOrders = true) (h : wpAnyH P .any ops (NoPanic Q) Tru n (Array.replicate n false) a w.drew) : (Code.region id ops true).wp P Q a w :=
  wp_region_noPanic (wp_region_held_drew (S := Tru) hm trivial (fun _ => by rw [hn]; exact h))
/-- Take number i first. -/
theorem q_take (i : Nat) (hs : Region.noSelect ops = true) (hf : Region.free .any ops listed i = true) (hr : (Region.ready .any ops listed).contains i = true) (hi : (ops[i]?).isSome = true)
    (H : ∀ oi, ops[i]? = some oi → ∃ v, YieldsIf P ops Tru oi v a ∧ wpAnyH P .any ops (NoPanic Q) Tru fuel (listed.setIfInBounds i true) (a.put oi.dst v) w) : wpAnyH P .any ops (NoPanic Q) Tru (fuel + 1) listed a w := by
  obtain ⟨oi, ho⟩ := Option.isSome_iff_exists.1 hi
  obtain ⟨v, hy, h⟩ := H oi ho
  exact wpAnyH_take ho hs hf hr (fun _ _ _ h => h) hy trivial h
/-- Go through those that may come up. -/
theorem q_all {rs : List Nat} (hr : Region.ready .any ops listed = rs) (hne : rs ≠ []) (h : AllReadyH P .any ops (NoPanic Q) Tru fuel listed a w rs) : wpAnyH P .any ops (NoPanic Q) Tru (fuel + 1) listed a w := wpAnyH_ready hr hne h
theorem q_step (i : Nat) {rs : List Nat} (hi : (ops[i]?).isSome = true)
    (H : ∀ o, ops[i]? = some o → ∀ K : Act → World → Prop, Shut (∀ a w, wpAnyH P .any ops (NoPanic Q) Tru fuel (listed.setIfInBounds i true) a w → K a w) → if Region.wanted o (yielded ops a.tmps) = true then Oper.wp P o a w K (NoPanic Q) else K (a.put o.dst undef) w)
    (hs : AllReadyH P .any ops (NoPanic Q) Tru fuel listed a w rs) : AllReadyH P .any ops (NoPanic Q) Tru fuel listed a w (i :: rs) := by
  obtain ⟨o, ho⟩ := Option.isSome_iff_exists.1 hi
  exact AllReadyH.cons ho (fun K hK => H o ho K (fun a w h => hK a w trivial (fun _ => h))) hs
theorem q_done (hr : Region.ready .any ops listed = []) (h : Q .normal a w) : wpAnyH P .any ops (NoPanic Q) Tru fuel listed a w := wpAnyH_done hr (NoPanic.normal h) fuel

variable {S : World → Prop}
/-- With something that holds of each world on the way. -/
theorem s_start {id : Nat} (n : Nat) (S : World → Prop) (hn : ops.size = n) (hm : P.follows .mixedOrders = true) (hS : S w.drew) (h : wpAnyH P .any ops (NoPanic Q) S n (Array.replicate n false) a w.drew) : (Code.region id ops true).wp P Q a w :=
  wp_region_noPanic (wp_region_held_drew (S := S) hm hS (fun _ => by rw [hn]; exact h))
theorem s_take (i : Nat) (hs : Region.noSelect ops = true) (hf : Region.free .any ops listed i = true) (hr : (Region.ready .any ops listed).contains i = true) (hi : (ops[i]?).isSome = true) (hS : S w)
    (H : ∀ oi, ops[i]? = some oi → ∃ v, YieldsIf P ops S oi v a ∧ wpAnyH P .any ops (NoPanic Q) S fuel (listed.setIfInBounds i true) (a.put oi.dst v) w) : wpAnyH P .any ops (NoPanic Q) S (fuel + 1) listed a w := by
  obtain ⟨oi, ho⟩ := Option.isSome_iff_exists.1 hi
  obtain ⟨v, hy, h⟩ := H oi ho
  exact wpAnyH_take ho hs hf hr (fun _ _ _ h => h) hy hS h
theorem s_all {rs : List Nat} (hr : Region.ready .any ops listed = rs) (hne : rs ≠ []) (h : AllReadyH P .any ops (NoPanic Q) S fuel listed a w rs) : wpAnyH P .any ops (NoPanic Q) S (fuel + 1) listed a w := wpAnyH_ready hr hne h
theorem s_step (i : Nat) {rs : List Nat} (hi : (ops[i]?).isSome = true)
    (H : ∀ o, ops[i]? = some o → ∀ K : Act → World → Prop, Shut (∀ a w, S w → wpAnyH P .any ops (NoPanic Q) S fuel (listed.setIfInBounds i true) a w → K a w) → if Region.wanted o (yielded ops a.tmps) = true then Oper.wp P o a w K (NoPanic Q) else K (a.put o.dst undef) w)
    (hs : AllReadyH P .any ops (NoPanic Q) S fuel listed a w rs) : AllReadyH P .any ops (NoPanic Q) S fuel listed a w (i :: rs) := by
  obtain ⟨o, ho⟩ := Option.isSome_iff_exists.1 hi
  exact AllReadyH.cons ho (fun K hK => H o ho K (fun a w hS h => hK a w hS (fun _ => h))) hs
theorem s_done (hr : Region.ready .any ops listed = []) (h : Q .normal a w) : wpAnyH P .any ops (NoPanic Q) S fuel listed a w := wpAnyH_done hr (NoPanic.normal h) fuel
end
end -- StepQ

section -- LayD
open Go.RowKit Go.Maps
set_option linter.unusedVariables false
set_option linter.unusedSimpArgs false
set_option maxRecDepth 100000
set_option maxHeartbeats 2000000

theorem width_any (w : World) (long k : Nat) (h1 : long ≤ 65535) (h2 : 1 ≤ k) (h3 : k ≤ 255) :
    Calls Try.prog 31 #[.int .i64 (long : Int), .int .i64 (k : Int)] w fun e w' => e = .returned (.tuple #[.int .i64 ((wdN long k : Nat) : Int), .int .i64 0]) ∧ w = w' := by
  have HW := Lib.hid (show ((long : Int) + (k : Int) - 1).tdiv (k : Int) = ((wdN long k : Nat) : Int) by
    unfold wdN
    rw [show (long : Int) + (k : Int) - 1 = ((long + k - 1 : Nat) : Int) by omega, ← Int.ofNat_tdiv])
  have HW2 := Lib.hid (show ((long : Int) + (k : Int) - 1) / (k : Int) = ((wdN long k : Nat) : Int) by
    unfold wdN
    rw [show (long : Int) + (k : Int) - 1 = ((long + k - 1 : Nat) : Int) by omega, ← Int.natCast_ediv])
  go_enter Try.func31, Try.ntmps31
  go_wp2
  first | rw [HW.out] | rw [HW2.out]
  go_ret2
  exact ⟨rfl, rfl⟩
theorem rwidth9_any (w : World) (long k : Nat) (h1 : long ≤ 65535) (h2 : 1 ≤ k) (h3 : k ≤ 255) :
    Calls Try.prog 32 #[.int .i64 (long : Int), .int .i64 (k : Int)] w fun e w' => e = .returned (.tuple #[.int .i64 ((wdN long k : Nat) : Int), .int .i64 0]) ∧ w = w' := by
  have hd : long / k * k ≤ long := Nat.div_mul_le_self _ _
  have hd2 : long / k ≤ long := Nat.div_le_self _ _
  have HQ := Lib.hid (show (long : Int) / (k : Int) = ((long / k : Nat) : Int) by rw [Int.natCast_ediv])
  obtain ⟨q, hq⟩ : ∃ q, long / k = q := ⟨_, rfl⟩
  rw [hq] at hd hd2 HQ
  clear hq
  go_enter Try.func32, Try.ntmps32
  go_wp2
  rw [HQ.out]
  go_loopw [6] (fun i wr => ∃ v : Nat, i = .int .i64 (v : Int) ∧ v ≤ long + 1 ∧ v * k < long + k ∧ w = wr) (fun i _ => long + 1 - (intOf i).toNat)
  case atStart => exact ⟨q, by rw [show wrap64 ((q : Nat) : Int) = (q : Int) from IntWalk.wrap64_in _ (by omega)], by omega, by omega, by first | rfl | trivial⟩
  case round =>
    obtain ⟨v, rfl, hv, hvk, rfl⟩ := hrel
    have e : (v : Int) * (k : Int) = ((v * k : Nat) : Int) := by rw [Int.natCast_mul]
    have e2 : IntKind.i64.wrap ((v : Int) * (k : Int)) = ((v * k : Nat) : Int) := by rw [e]; exact IntWalk.i64_in _ (by omega)
    obtain ⟨p, hp⟩ : ∃ p, v * k = p := ⟨_, rfl⟩
    have hpv : v ≤ p := by rw [← hp]; exact Nat.le_mul_of_pos_right v h2
    by_cases hlt : v * k < long
    · have hs : (v + 1) * k < long + k := by rw [Nat.add_mul, Nat.one_mul]; omega
      have HS := Lib.hid hs
      rw [hp] at e2 hlt hvk
      clear hp e hs hd
      go_wp2
      go_roundw
      case rel => exact ⟨v + 1, by go_num, by omega, HS.out, by first | rfl | trivial⟩
      case measure => simp [intOf]; omega
    · have hu := wdN_unique h2 (by omega) hvk
      rw [hp] at e2 hlt hvk
      clear hp e hd
      subst hu
      go_wp2
      go_ret2
      exact ⟨rfl, rfl⟩
/-- The reference's width of a row. -/
theorem rwidth_any (w : World) (r : Int × Int) (n : Int) (h1 : 1 ≤ r.1) (h2 : r.1 ≤ 255) (h3 : 0 ≤ r.2) (h4 : r.2 ≤ 65535) :
    Calls Try.prog 23 #[.agg #[.int .i64 r.1, .int .i64 r.2]] w fun e w' => e = .returned (.int .i64 ((wdT r : Nat) : Int)) ∧ Below w.heap.size w w' := by
  obtain ⟨k, hk⟩ : ∃ k : Nat, r.1 = (k : Int) := ⟨r.1.toNat, by omega⟩
  obtain ⟨l, hl⟩ : ∃ l : Nat, r.2 = (l : Int) := ⟨r.2.toNat, by omega⟩
  have e : wdT r = wdN l k := by unfold wdT; rw [hk, hl]; rfl
  rw [hk] at h1 h2
  rw [hl] at h3 h4
  rw [e, hk, hl]
  have HW := Lib.hid (fun W => rwidth9_any W l k (by omega) (by omega) (by omega))
  have HB := Lib.hid ((Kept.alloc (fun _ => False) w (.cells #[.int .i64 (k : Int), .int .i64 (l : Int)] 39)).toBelow (Nat.le_refl _) (fun _ h => h.elim))
  clear e hk hl
  go_enter Try.func23, Try.ntmps23
  go_wp2_with fail
  refine (HW.out _).mono ?_
  rintro e w' ⟨rfl, rfl⟩
  go_wp2
  go_ret
  exact ⟨rfl, HB.out⟩
end -- LayD

end Go.Proofs.Ytanjchpkekehgaa
