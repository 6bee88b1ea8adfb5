/-
  Walks of layer 21 (hist): all, Frames.
-/
import Derived.Test.YtacbmpffpfaciaaHistA
namespace Go.Proofs.Ytacbmpffpfaciaa
open Go.RowKit Go.Maps

theorem lawI : Keyed Try.prog 3 := int_keyed Try.underlying3

set_option maxRecDepth 100000

/-- all: how many were counted, in whatever order the map is gone through. -/
theorem all_any (w : World) (bm n : Nat) (f : Int → Int) (hg : Good n f) (hown : w.ownsMap Try.prog 3 (plainElem Try.prog 3) bm 256 (tallyD n f)) :
    Calls Try.prog 33 #[.map (some bm)] w fun e w' => e = .returned (.int .i64 (framesOf n f)) ∧ Kept (fun _ => False) w w' := by
  go_enter Try.func33, Try.ntmps33
  go_wp2_with (first
    | (at_range; refine wpList_range_own _ rfl _ 67 rfl 3 3 lawI Try.underlying67 _ bm 256 _ rfl hown ?_; intro w0 hrg0 hg0 hs0)
    | go_in)
  go_frame
  go_loopw [2, 4] (fun s _ wr => ∃ (left : Lit → Bool) (cnt : Nat), wr.ranges Try.prog 3 (plainElem Try.prog 3) bm w.heap.size 256 (tallyD n f) left cnt ∧ s = .int .i64 (sumNot n f left) ∧ Below w.heap.size w wr)
    (fun _ _ wr => wr.rangeLeft bm w.heap.size)
  case atStart => exact ⟨_, _, hrg0, by rw [sumNot_start], (Below.refl _ w).grown hg0 (Nat.le_refl _) (fun k e => by cases e)⟩
  case round =>
    obtain ⟨left, cnt, hrg, rfl, hB⟩ := hrel
    have hb := sumNot_bound hg left
    go_wp2_with (first
      | (at_next; refine wpList_next_ranges_ii _ rfl _ rfl 3 3 .i64 .i64 lawI Try.underlying3 Try.underlying3 bm w.heap.size 256 _ _ _ rfl hrg ?_ ?_)
      | go_in)
    · intro _ hl0
      go_wp2
      go_ret
      exact ⟨by rw [sumNot_end hg hl0]; rfl, Kept.below hB⟩
    · intro x c w1 cnt1 hwx hwc hlx hat hrg1 hlt hg1 hs1 hen
      obtain ⟨hx, hcx⟩ := key_of_at hat
      have hst := sumNot_step (f := f) hlx hx
      have hb2 := sumNot_bound hg (fun z => left z && !z.sameKey (.int .i64 x))
      rw [hst] at hb2
      subst hcx
      have HB := hB.grown hg1 hB.size (fun k e => by cases e; exact Nat.le_refl _)
      have HS := Lib.hid hst
      clear hst hat hs1 hx
      go_wp2
      go_roundw
      case rel => exact ⟨_, cnt1, hrg1, by rw [HS.out], HB⟩
      case measure => rw [hrg1.left_eq, hrg.left_eq]; exact hlt

/-- Frames. -/
theorem frames_nil (w : World) :
    Calls Try.prog 12 #[.pointer none] w fun e w' => e = .returned (.int .i64 0) ∧ w = w' := by
  go_enter Try.func12, Try.ntmps12
  go_wp2_with (go_at_call 31; refine (made_nil _).mono ?_; rintro e w' ⟨rfl, rfl⟩)
  go_ret
  exact ⟨rfl, rfl⟩

theorem frames_any (w : World) (b bm n : Nat) (f : Int → Int) (h : HistAt w b bm n f) :
    Calls Try.prog 12 #[.pointer (some ⟨b, 0, none⟩)] w fun e w' => e = .returned (.int .i64 (framesOf n f)) ∧ Kept (fun _ => False) w w' := by
  have hc := h.c0
  have hm := h.map
  go_enter Try.func12, Try.ntmps12
  go_wp2_with (first
    | (go_at_call 31; refine (made_yes _ b bm n f h).mono ?_; rintro e w' ⟨rfl, rfl⟩)
    | (go_at_call 33; refine (all_any _ bm n f h.good hm).mono ?_; rintro e w' ⟨rfl, hk⟩))
  go_ret
  exact ⟨rfl, hk⟩

end Go.Proofs.Ytacbmpffpfaciaa
