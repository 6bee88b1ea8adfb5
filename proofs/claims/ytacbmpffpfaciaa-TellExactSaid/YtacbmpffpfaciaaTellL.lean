/-
  No tellers: nil and the empty one; rows of deeds.
-/
import Derived.Test.YtacbmpffpfaciaaTellK
namespace Go.Proofs.Ytacbmpffpfaciaa
open Go.RowKit Go.Maps Go.Shelf Go.Sort

set_option maxRecDepth 100000
set_option maxHeartbeats 2000000

/-- No teller. -/
def Unmade (w : World) (p : Option Addr) : Prop := p = none ∨ ∃ c, p = some ⟨c, 0, none⟩ ∧ c < w.heap.size ∧ w.cell? ⟨c, 1, none⟩ = some (.pointer none)
theorem Unmade.kept {S : Nat → Prop} {w w' : World} {p : Option Addr} (h : Unmade w p) (hk : Kept S w w') (hS : ∀ i, S i → w.heap.size ≤ i) : Unmade w' p := by
  rcases h with rfl | ⟨c, rfl, h1, h2⟩
  · exact .inl rfl
  · exact .inr ⟨c, rfl, Nat.lt_of_lt_of_le h1 hk.size, (hk.cell (p := ⟨c, 1, none⟩) h1 (fun h => by have := hS _ h; simp only at this; omega)).trans h2⟩

theorem umade (w : World) (p : Option Addr) (h : Unmade w p) :
    Calls Try.prog 42 #[.pointer p] w fun e w' => e = .returned (.bool false) ∧ w = w' := by
  rcases h with rfl | ⟨c, rfl, h1, h2⟩
  · exact tmade_nil w
  · go_enter Try.func42, Try.ntmps42
    go_wp2
    go_ret
    exact ⟨rfl, rfl⟩

theorem uclosed (w : World) (p : Option Addr) (k : Int) (h : Unmade w p) :
    Calls Try.prog 24 #[.pointer p, .int .i64 k] w fun e w' => e = .returned (.int .i64 1) ∧ w = w' := by
  have HH := Lib.hid h
  clear h
  go_enter Try.func24, Try.ntmps24
  go_wp2_with fail
  refine (umade _ p HH.out).mono ?_
  rintro e w' ⟨rfl, rfl⟩
  go_wp2
  go_ret
  exact ⟨rfl, rfl⟩

theorem useq (w : World) (p : Option Addr) (h : Unmade w p) :
    Calls Try.prog 28 #[.pointer p] w fun e w' => e = .returned (.int .i64 0) ∧ w = w' := by
  have HH := Lib.hid h
  clear h
  go_enter Try.func28, Try.ntmps28
  go_wp2_with fail
  refine (umade _ p HH.out).mono ?_
  rintro e w' ⟨rfl, rfl⟩
  go_wp2
  go_ret
  exact ⟨rfl, rfl⟩

theorem uopen (w : World) (p : Option Addr) (h : Unmade w p) :
    Calls Try.prog 26 #[.pointer p] w fun e w' => e = .returned (.slice none 0 0) ∧ w = w' := by
  have HH := Lib.hid h
  clear h
  go_enter Try.func26, Try.ntmps26
  go_wp2_with fail
  refine (umade _ p HH.out).mono ?_
  rintro e w' ⟨rfl, rfl⟩
  go_wp2
  go_ret
  exact ⟨rfl, rfl⟩

theorem utick (w : World) (p : Option Addr) (now : Int) (h : Unmade w p) :
    Calls Try.prog 20 #[.pointer p, .int .i64 now] w fun e w' => e = .returned (.tuple #[.agg #[.int .i64 0, .int .i64 0, .int .i64 0, .slice none 0 0], .bool false]) ∧ Kept (fun _ => False) w w' := by
  have k0 : Kept (fun _ => False) w (w.alloc (.cells #[.int .i64 0, .int .i64 0, .int .i64 0, .slice none 0 0] 48)) := Kept.alloc (fun _ => False) _ _
  have HH := Lib.hid (h.kept k0 (fun i h => h.elim))
  clear h
  go_enter Try.func20, Try.ntmps20
  go_wp2_with fail
  refine (umade _ p HH.out).mono ?_
  rintro e w' ⟨rfl, rfl⟩
  go_wp2
  refine bodyPost_ret (v := .tuple #[.agg #[.int .i64 0, .int .i64 0, .int .i64 0, .slice none 0 0], .bool false]) ?_ rfl ⟨rfl, ?_⟩
  · simp [results, Try.f20, go_sem]
  · exact Kept.alloc _ _ _

theorem PairsIn.kept {S : Nat → Prop} {w w' : World} {p : Option Addr} {cs : List (Int × Int)} (h : PairsIn w p cs) (hk : Kept S w w') (hS : ∀ i, S i → w.heap.size ≤ i) : PairsIn w' p cs := by
  refine ⟨h.1, fun hl => ?_⟩
  obtain ⟨g, off, rfl, hg, hc⟩ := h.2 hl
  refine ⟨g, off, rfl, Nat.lt_of_lt_of_le hg hk.size, fun j x hx => ?_⟩
  have hn : ¬ S g := fun h => by have := hS _ h; omega
  exact ⟨(hk.cell (p := ⟨g, off + j * 2, none⟩) hg hn).trans (hc j x hx).1, (hk.cell (p := ⟨g, off + j * 2 + 1, none⟩) hg hn).trans (hc j x hx).2⟩

theorem pairs_lit (w : World) (cs : List (Int × Int)) (t : TypeId) (hw : ∀ x ∈ cs, Wf64 x.1 ∧ Wf64 x.2) : PairsIn (w.alloc (.cells (flat cs).toArray t)) (some ⟨w.heap.size, 0, none⟩) cs := by
  refine ⟨hw, fun _ => ⟨w.heap.size, 0, rfl, by simp, fun j x hx => ?_⟩⟩
  obtain ⟨e1, e2⟩ := flat_get cs j x hx
  have k1 := World.cell?_alloc_new w (flat cs).toArray t (j * 2)
  have k2 := World.cell?_alloc_new w (flat cs).toArray t (j * 2 + 1)
  rw [Nat.zero_add, k1, k2]
  exact ⟨by simpa using e1, by simpa using e2⟩

theorem pairs_row {w : World} {base : Nat} {v : Value} {cs : List (Int × Int)} (h : w.ownsRow base 45 2 v cs.length (flat cs)) (hw : ∀ x ∈ cs, Wf64 x.1 ∧ Wf64 x.2) : ∃ p cap, v = .slice p cs.length cap ∧ PairsIn w p cs := by
  rcases h.2 with ⟨rfl, hz⟩ | ⟨g, cap, cur, rfl, hb, hg, h1, h2, h3, h4⟩
  · have : cs = [] := List.eq_nil_of_length_eq_zero hz
    subst this
    exact ⟨none, 0, rfl, by simp, fun h => by simp at h⟩
  · refine ⟨_, cap, rfl, hw, fun _ => ⟨g, 0, rfl, (Array.getElem?_eq_some_iff.1 hg).1, fun j x hx => ?_⟩⟩
    obtain ⟨e1, e2⟩ := flat_get cs j x hx
    rw [← h4, List.getElem?_take] at e1 e2
    split at e1
    · split at e2
      · simp only [World.cell?, hg, Nat.zero_add]
        exact ⟨by simpa using e1, by simpa using e2⟩
      · cases e2
    · cases e1

theorem infoDeed : (Try.prog.info? 45).map (fun i => (i.zero, i.size, i.bytes)) = some (some (.agg #[.int .i64 0, .int .i64 0]), 2, 16) := by kernel_rfl

end Go.Proofs.Ytacbmpffpfaciaa
