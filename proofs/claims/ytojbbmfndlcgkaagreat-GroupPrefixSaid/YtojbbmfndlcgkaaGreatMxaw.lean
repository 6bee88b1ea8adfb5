/-
  LayT: Layer 10: tables in memory.
  StepQ: A region that draws its order, step by step: an operation is taken first; or those that may come up are gone through.
  LayD: Layer 10, walks: widths (the program's, the reference's); whether rows are a table.
-/
import Derived.Test.YtojbbmfndlcgkaaGreatMxav
import Derived.Test.YtojbbmfndlcgkaaGreatKept
import Derived.Deep.RegionHeld3
namespace Go.Proofs.YtojbbmfndlcgkaaGreat

section -- LayT
open Go.RowKit Go.Maps
set_option linter.unusedVariables false
set_option maxRecDepth 100000

/-- A table's cells. -/
def tc (t : List (Int × Int)) : List Value := t.flatMap fun r => [.int .i64 r.1, .int .i64 r.2]
theorem tc_app (a b : List (Int × Int)) : tc (a ++ b) = tc a ++ tc b := by simp [tc]
theorem tc_cons (r : Int × Int) (t : List (Int × Int)) : tc (r :: t) = .int .i64 r.1 :: .int .i64 r.2 :: tc t := rfl
theorem tc_len : ∀ t : List (Int × Int), (tc t).length = t.length * 2
  | [] => rfl
  | r :: t => by rw [tc_cons, List.length_cons, List.length_cons, tc_len t, List.length_cons]; omega
theorem tc_get : ∀ {t : List (Int × Int)} {i : Nat}, i < t.length → (tc t)[i * 2]? = some (.int .i64 (t.getD i (0, 0)).1) ∧ (tc t)[i * 2 + 1]? = some (.int .i64 (t.getD i (0, 0)).2)
  | [], i, h => absurd h (by simp)
  | r :: t, 0, h => ⟨rfl, rfl⟩
  | r :: t, i + 1, h => by
    have ih := tc_get (t := t) (i := i) (by simpa using h)
    rw [tc_cons, show (i + 1) * 2 = i * 2 + 1 + 1 by omega, List.getElem?_cons_succ, List.getElem?_cons_succ, show i * 2 + 1 + 1 + 1 = i * 2 + 1 + 1 + 1 from rfl, List.getElem?_cons_succ, List.getElem?_cons_succ]
    simpa using ih
theorem tc_one {t : List (Int × Int)} : ∀ v ∈ tc t, v.oneCell' = true := fun v hv => by
  obtain ⟨r, _, h⟩ := List.mem_flatMap.1 hv
  simp only [List.mem_cons, List.not_mem_nil, or_false] at h
  rcases h with rfl | rfl <;> rfl
theorem row_cellsT {w : World} {base size n : Nat} {e : TypeId} {v : Value} {us : List Value} (h : w.ownsRow base e size v n us) (hn : 0 < n) : ∃ g cap, v = .slice (some ⟨g, 0, none⟩) n cap ∧ n ≤ cap ∧ ∀ j, j < n * size → w.cell? ⟨g, j, none⟩ = us[j]? := by
  obtain ⟨h0, h1⟩ := h
  rcases h1 with ⟨rfl, hz⟩ | ⟨g, cap, cur, rfl, h2, h3, h4, h5, h6, h7⟩
  · omega
  · refine ⟨g, cap, rfl, h4, fun i hi => ?_⟩
    rw [cell_of h3, ← h7, List.getElem?_take, if_pos hi, Array.getElem?_toList]
theorem infoT : (Tryz.prog.info? 46).map (fun i => (i.zero, i.size, i.bytes)) = some (some (.agg #[.int .i64 0, .int .i64 0]), 2, 16) := by kernel_rfl
/-- A table, wherever it lies. -/
def TableAt (w : World) (v : Value) (t : List (Int × Int)) : Prop := ∃ p cap, v = .slice p t.length cap ∧ t.length ≤ cap ∧ (0 < t.length → ∃ g off, p = some ⟨g, off, none⟩ ∧ ∀ i, i < t.length →
  w.cell? ⟨g, off + i * 2, none⟩ = some (.int .i64 (t.getD i (0, 0)).1) ∧ w.cell? ⟨g, off + i * 2 + 1, none⟩ = some (.int .i64 (t.getD i (0, 0)).2))
section
variable {w w' : World} {v : Value} {t : List (Int × Int)}
theorem TableAt.kept {S : Nat → Prop} (h : TableAt w v t) (hk : Kept S w w') (hS : ∀ k, k < w.heap.size → ¬ S k) : TableAt w' v t := by
  obtain ⟨p, cap, e, hc, hh⟩ := h
  refine ⟨p, cap, e, hc, fun h0 => ?_⟩
  obtain ⟨g, off, e2, hcc⟩ := hh h0
  exact ⟨g, off, e2, fun i hi => ⟨(hk.cell (p := ⟨g, off + i * 2, none⟩) (blt (hcc i hi).1) (hS _ (blt (hcc i hi).1))).trans (hcc i hi).1, (hk.cell (p := ⟨g, off + i * 2 + 1, none⟩) (blt (hcc i hi).2) (hS _ (blt (hcc i hi).2))).trans (hcc i hi).2⟩⟩
theorem TableAt.below (h : TableAt w v t) (hb : Below w.heap.size w w') : TableAt w' v t := h.kept (Kept.below hb) (fun _ _ h => h)
theorem TableAt.keptB {S : Nat → Prop} (h : TableAt w v t) (hk : Kept S w w') (hS : ∀ k, v.ownBlock = some k → ¬ S k) : TableAt w' v t := by
  obtain ⟨p, cap, rfl, hc, hh⟩ := h
  refine ⟨p, cap, rfl, hc, fun h0 => ?_⟩
  obtain ⟨g, off, rfl, hcc⟩ := hh h0
  exact ⟨g, off, rfl, fun i hi => ⟨(hk.cell (p := ⟨g, off + i * 2, none⟩) (blt (hcc i hi).1) (hS _ rfl)).trans (hcc i hi).1, (hk.cell (p := ⟨g, off + i * 2 + 1, none⟩) (blt (hcc i hi).2) (hS _ rfl)).trans (hcc i hi).2⟩⟩
theorem TableAt.of_owns {base : Nat} (h : w.ownsRow base 46 2 v t.length (tc t)) : TableAt w v t := by
  by_cases h0 : 0 < t.length
  · obtain ⟨g, cap, rfl, hcap, hc⟩ := row_cellsT h h0
    refine ⟨_, cap, rfl, hcap, fun _ => ⟨g, 0, rfl, fun i hi => ?_⟩⟩
    obtain ⟨t0, t1⟩ := tc_get hi
    rw [Nat.zero_add]
    exact ⟨(hc _ (by omega)).trans t0, (hc _ (by omega)).trans t1⟩
  · have hl : t.length = 0 := by omega
    rcases h.2 with ⟨rfl, _⟩ | ⟨g, cap, cur, rfl, _, _, hcap, _⟩
    · exact ⟨none, 0, by rw [hl], by omega, fun h => absurd h h0⟩
    · exact ⟨_, cap, rfl, hcap, fun h => absurd h h0⟩
theorem TableAt.shape (h : TableAt w v t) : ∃ p c, v = .slice p t.length c := by
  obtain ⟨p, c, rfl, _⟩ := h
  exact ⟨p, c, rfl⟩
end
end -- LayT

section -- StepQ
open Go.RowKit Go.Maps
set_option linter.unusedVariables false
set_option maxRecDepth 100000
set_option maxHeartbeats 4000000

def Tru (_ : World) : Prop := True
section
variable {P : Program} {ops : Array Oper} {Q : Exit → Act → World → Prop} {fuel : Nat} {listed : Array Bool} {a : Act} {w : World}
/-- Begin. -/
theorem q_start {id : Nat} (n : Nat) (hn : ops.size = n) (hm : P.follows .mixedOrders = true) (h : wpAnyH P .any ops (NoPanic Q) Tru n (Array.replicate n false) a w.drew) : (Code.region id ops true).wp P Q a w :=
  wp_region_noPanic (wp_region_held_drew (S := Tru) hm trivial (fun _ => by rw [hn]; exact h))
/-- Take number i first. -/
theorem q_take (i : Nat) (hs : Region.noSelect ops = true) (hf : Region.free .any ops listed i = true) (hr : (Region.ready .any ops listed).contains i = true) (hi : (ops[i]?).isSome = true)
    (H : ∀ oi, ops[i]? = some oi → ∃ v, YieldsIf P ops Tru oi v a ∧ wpAnyH P .any ops (NoPanic Q) Tru fuel (listed.setIfInBounds i true) (a.put oi.dst v) w) : wpAnyH P .any ops (NoPanic Q) Tru (fuel + 1) listed a w := by
  obtain ⟨oi, ho⟩ := Option.isSome_iff_exists.1 hi
  obtain ⟨v, hy, h⟩ := H oi ho
  exact wpAnyH_take ho hs hf hr (fun _ _ _ h => h) hy trivial h
/-- Go through those that may come up. -/
theorem q_all {rs : List Nat} (hr : Region.ready .any ops listed = rs) (hne : rs ≠ []) (h : AllReadyH P .any ops (NoPanic Q) Tru fuel listed a w rs) : wpAnyH P .any ops (NoPanic Q) Tru (fuel + 1) listed a w := wpAnyH_ready hr hne h
theorem q_step (i : Nat) {rs : List Nat} (hi : (ops[i]?).isSome = true)
    (H : ∀ o, ops[i]? = some o → ∀ K : Act → World → Prop, Shut (∀ a w, wpAnyH P .any ops (NoPanic Q) Tru fuel (listed.setIfInBounds i true) a w → K a w) → if Region.wanted o (yielded ops a.tmps) = true then Oper.wp P o a w K (NoPanic Q) else K (a.put o.dst undef) w)
    (hs : AllReadyH P .any ops (NoPanic Q) Tru fuel listed a w rs) : AllReadyH P .any ops (NoPanic Q) Tru fuel listed a w (i :: rs) := by
  obtain ⟨o, ho⟩ := Option.isSome_iff_exists.1 hi
  exact AllReadyH.cons ho (fun K hK => H o ho K (fun a w h => hK a w trivial (fun _ => h))) hs
theorem q_done (hr : Region.ready .any ops listed = []) (h : Q .normal a w) : wpAnyH P .any ops (NoPanic Q) Tru fuel listed a w := wpAnyH_done hr (NoPanic.normal h) fuel

variable {S : World → Prop}
/-- With something that holds of each world on the way. -/
theorem s_start {id : Nat} (n : Nat) (S : World → Prop) (hn : ops.size = n) (hm : P.follows .mixedOrders = true) (hS : S w.drew) (h : wpAnyH P .any ops (NoPanic Q) S n (Array.replicate n false) a w.drew) : (Code.region id ops true).wp P Q a w :=
  wp_region_noPanic (wp_region_held_drew (S := S) hm hS (fun _ => by rw [hn]; exact h))
theorem s_take (i : Nat) (hs : Region.noSelect ops = true) (hf : Region.free .any ops listed i = true) (hr : (Region.ready .any ops listed).contains i = true) (hi : (ops[i]?).isSome = true) (hS : S w)
    (H : ∀ oi, ops[i]? = some oi → ∃ v, YieldsIf P ops S oi v a ∧ wpAnyH P .any ops (NoPanic Q) S fuel (listed.setIfInBounds i true) (a.put oi.dst v) w) : wpAnyH P .any ops (NoPanic Q) S (fuel + 1) listed a w := by
  obtain ⟨oi, ho⟩ := Option.isSome_iff_exists.1 hi
  obtain ⟨v, hy, h⟩ := H oi ho
  exact wpAnyH_take ho hs hf hr (fun _ _ _ h => h) hy hS h
theorem s_all {rs : List Nat} (hr : Region.ready .any ops listed = rs) (hne : rs ≠ []) (h : AllReadyH P .any ops (NoPanic Q) S fuel listed a w rs) : wpAnyH P .any ops (NoPanic Q) S (fuel + 1) listed a w := wpAnyH_ready hr hne h
theorem s_step (i : Nat) {rs : List Nat} (hi : (ops[i]?).isSome = true)
    (H : ∀ o, ops[i]? = some o → ∀ K : Act → World → Prop, Shut (∀ a w, S w → wpAnyH P .any ops (NoPanic Q) S fuel (listed.setIfInBounds i true) a w → K a w) → if Region.wanted o (yielded ops a.tmps) = true then Oper.wp P o a w K (NoPanic Q) else K (a.put o.dst undef) w)
    (hs : AllReadyH P .any ops (NoPanic Q) S fuel listed a w rs) : AllReadyH P .any ops (NoPanic Q) S fuel listed a w (i :: rs) := by
  obtain ⟨o, ho⟩ := Option.isSome_iff_exists.1 hi
  exact AllReadyH.cons ho (fun K hK => H o ho K (fun a w hS h => hK a w hS (fun _ => h))) hs
theorem s_done (hr : Region.ready .any ops listed = []) (h : Q .normal a w) : wpAnyH P .any ops (NoPanic Q) S fuel listed a w := wpAnyH_done hr (NoPanic.normal h) fuel
end
end -- StepQ

section -- LayD
open Go.RowKit Go.Maps
set_option linter.unusedVariables false
set_option linter.unusedSimpArgs false
set_option maxRecDepth 100000
set_option maxHeartbeats 2000000

theorem width_any (w : World) (long k : Nat) (h1 : long ≤ 65535) (h2 : 1 ≤ k) (h3 : k ≤ 255) :
    Calls Tryz.prog 44 #[.int .i64 (long : Int), .int .i64 (k : Int)] w fun e w' => e = .returned (.tuple #[.int .i64 ((wdN long k : Nat) : Int), .int .i64 0]) ∧ w = w' := by
  have HW := Lib.hid (show ((long : Int) + (k : Int) - 1).tdiv (k : Int) = ((wdN long k : Nat) : Int) by
    unfold wdN
    rw [show (long : Int) + (k : Int) - 1 = ((long + k - 1 : Nat) : Int) by omega, ← Int.ofNat_tdiv])
  have HW2 := Lib.hid (show ((long : Int) + (k : Int) - 1) / (k : Int) = ((wdN long k : Nat) : Int) by
    unfold wdN
    rw [show (long : Int) + (k : Int) - 1 = ((long + k - 1 : Nat) : Int) by omega, ← Int.natCast_ediv])
  go_enter Tryz.func44, Tryz.ntmps44
  go_wp2
  first | rw [HW.out] | rw [HW2.out]
  go_ret2
  exact ⟨rfl, rfl⟩
end -- LayD

end Go.Proofs.YtojbbmfndlcgkaaGreat
