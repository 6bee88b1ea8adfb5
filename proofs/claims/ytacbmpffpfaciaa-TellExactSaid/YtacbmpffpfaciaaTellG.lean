/-
  Walks of the reference of layer 21: Frames, Counts, Take.
-/
import Derived.Test.YtacbmpffpfaciaaTellF
namespace Go.Proofs.Ytacbmpffpfaciaa
open Go.RowKit Go.Maps Go.Shelf Go.Sort

set_option maxRecDepth 100000
set_option maxHeartbeats 2000000

theorem numsTo_succ (n : Nat) : numsTo (n + 1) = numsTo n ++ [(n : Int) + 1] := by simp [numsTo, List.range_succ]
theorem framesOf_succ (n : Nat) (f : Int → Int) : framesOf (n + 1) f = framesOf n f + f ((n : Int) + 1) := by simp [framesOf, numsTo_succ]
theorem framesOf_zero (f : Int → Int) : framesOf 0 f = 0 := by simp [framesOf, numsTo]
theorem countsOf_zero (f : Int → Int) : countsOf 0 f = [] := by simp [countsOf, keysOf, numsTo]
theorem countsOf_pos {n : Nat} {f : Int → Int} (h : 0 < f ((n : Int) + 1)) : countsOf (n + 1) f = countsOf n f ++ [((n : Int) + 1, min (f ((n : Int) + 1)) 65535)] := by
  simp [countsOf, keysOf, numsTo_succ, h]
theorem countsOf_nil {n : Nat} {f : Int → Int} (h : ¬ 0 < f ((n : Int) + 1)) : countsOf (n + 1) f = countsOf n f := by
  simp [countsOf, keysOf, numsTo_succ, h]

theorem RefAt.ck1 {w : World} {r n : Nat} {f : Int → Int} (h : RefAt w r n f) {k : Nat} (h2 : k < 255) : w.cell? ⟨r, 1 + (k + 1), none⟩ = some (.int .i64 (f ((k : Int) + 1))) := by
  have := h.ck (k := (k : Int) + 1) (by omega) (by omega)
  rwa [show ((k : Int) + 1).toNat = k + 1 from by omega] at this

/-- Frames. -/
theorem rframes_any (w : World) (r n : Nat) (f : Int → Int) (h : RefAt w r n f) :
    Calls Try.prog 44 #[.pointer (some ⟨r, 0, none⟩)] w fun e w' => e = .returned (.int .i64 (framesOf n f)) ∧ w = w' := by
  have d0 := h.c0
  have hn := h.good.n255
  have HH := Lib.hid h
  clear h
  go_enter Try.func44, Try.ntmps44
  go_wp2_with fail
  go_loopw [3, 4] (fun s i wr => ∃ k : Nat, k ≤ n ∧ i = .int .i64 ((k : Int) + 1) ∧ s = .int .i64 (framesOf k f) ∧ (0 ≤ framesOf k f ∧ framesOf k f ≤ 1099511627776 * k) ∧ w = wr) (fun _ i _ => n + 1 - (intOf i).toNat)
  case atStart => exact ⟨0, Nat.zero_le _, rfl, by rw [framesOf_zero], by rw [framesOf_zero]; omega, rfl⟩
  case round =>
    obtain ⟨k, hk, rfl, rfl, hb, rfl⟩ := hrel
    by_cases hlt : k < n
    · have d1 := HH.out.ck1 (k := k) (by omega)
      have hp := HH.out.good.pos ((k : Int) + 1)
      have ht := HH.out.good.top ((k : Int) + 1)
      go_wp2
      go_roundw
      case rel => exact ⟨k + 1, by omega, by go_num, by rw [framesOf_succ], by rw [framesOf_succ]; omega, trivial⟩
      case measure => simp [intOf]; omega
    · obtain rfl : k = n := by omega
      go_wp2
      go_ret
      exact ⟨rfl, rfl⟩

/-- Counts. -/
theorem rcounts_any (w : World) (r n : Nat) (f : Int → Int) (h : RefAt w r n f) :
    Calls Try.prog 27 #[.pointer (some ⟨r, 0, none⟩)] w fun e w' => ∃ v, e = .returned v ∧ w'.ownsRow w.heap.size 32 2 v (countsOf n f).length (flat (countsOf n f)) ∧ Below w.heap.size w w' := by
  obtain ⟨i0, hi, hz0, hz1, hz2⟩ := info_parts infoC
  have d0 := h.c0
  have hn := h.good.n255
  have HH := Lib.hid h
  have hlt0 := h.lt
  clear h
  go_enter Try.func27, Try.ntmps27
  go_wp2_with fail
  go_loopw [3, 4] (fun s i wr => ∃ k : Nat, k ≤ n ∧ i = .int .i64 ((k : Int) + 1) ∧ wr.ownsRow w.heap.size 32 2 s (countsOf k f).length (flat (countsOf k f)) ∧ Below w.heap.size w wr) (fun _ i _ => n + 1 - (intOf i).toNat)
  case atStart => exact ⟨0, Nat.zero_le _, rfl, by rw [countsOf_zero]; exact World.ownsRow_nil _ _ _ _, Below.refl _ _⟩
  case round =>
    obtain ⟨k, hk, rfl, hr, hb⟩ := hrel
    have d0' : wr.cell? ⟨r, 0, none⟩ = some (.int .i64 (n : Int)) := (hb.cell (p := ⟨r, 0, none⟩) hlt0).trans d0
    obtain ⟨p, c, hv⟩ := (countsAt_of_row hr).shape
    subst hv
    have HR := Lib.hid hr
    have hle := countsOf_length_le k f
    have hsz := hb.size
    clear hr
    by_cases hlt : k < n
    · have d1 : wr.cell? ⟨r, 1 + (k + 1), none⟩ = some (.int .i64 (f ((k : Int) + 1))) := (hb.cell (p := ⟨r, 1 + (k + 1), none⟩) hlt0).trans (HH.out.ck1 (k := k) (by omega))
      have ht := HH.out.good.top ((k : Int) + 1)
      have hp := HH.out.good.pos ((k : Int) + 1)
      clear d0
      by_cases hx : 0 < f ((k : Int) + 1)
      · go_wp2_with (at_builtin; refine wpList_append_own _ rfl _ _ 29 rfl w.heap.size 32 i0 (.agg #[.int .i64 0, .int .i64 0]) 2 16 Try.underlying29 hi hz0 hz1 hz2 rfl (by decide) _ _ _ rfl (HR.out.alloc _) ⟨wr.heap.size, 0, none⟩ 1 1 [.int .i64 ((k : Int) + 1), .int .i64 (min (f ((k : Int) + 1)) 65535)] rfl rfl (cell_two_new _ _ _ _) (by simp [Value.oneCell']) (by unfold maxLen; omega) (by omega) (by simp; omega) ?_; intro v1 w1 hown1 hgrow1 _)
        go_roundw
        case rel =>
          refine ⟨k + 1, by omega, by go_num, ?_, ?_⟩
          · rw [countsOf_pos hx, flat_snoc]; simpa using hown1
          · exact ((Kept.below hb).trans ((Kept.alloc (fun i => w.heap.size ≤ i) wr _).trans (Kept.grown hgrow1) (fun i _ hi => (HR.out.lt i hi.symm).1)) (fun i h1 h2 => by omega)).toBelow (Nat.le_refl _) (fun i h => h.elim)
        case measure => simp [intOf]; omega
      · have e := countsOf_nil (n := k) hx
        go_wp2
        go_roundw
        case rel => exact ⟨k + 1, by omega, by go_num, by rw [e]; exact HR.out, hb⟩
        case measure => simp [intOf]; omega
    · obtain rfl : k = n := by omega
      clear d0
      go_wp2
      go_ret
      exact ⟨_, rfl, HR.out, hb⟩

/-- Of the first k numbers nothing is left. -/
def clearTo (k : Nat) (f : Int → Int) : Int → Int := fun j => if 1 ≤ j ∧ j ≤ k then 0 else f j
theorem clearTo_zero (f : Int → Int) : clearTo 0 f = f := by
  funext j
  unfold clearTo
  rw [if_neg (by omega)]
theorem clearTo_all {n : Nat} {f : Int → Int} (h : Good n f) : clearTo n f = emptyF := by
  funext j
  unfold clearTo emptyF
  by_cases hj : 1 ≤ j ∧ j ≤ n
  · rw [if_pos hj]
  · rw [if_neg hj]
    have h1 := h.pos j
    have h2 := h.off j
    omega
theorem clearTo_other (k : Nat) (f : Int → Int) {j : Int} (hj : j ≠ (k : Int) + 1) : clearTo (k + 1) f j = clearTo k f j := by
  unfold clearTo
  by_cases h1 : 1 ≤ j ∧ j ≤ k
  · rw [if_pos h1, if_pos (by omega)]
  · rw [if_neg h1, if_neg (by omega)]
theorem good_clear {n : Nat} {f : Int → Int} (h : Good n f) (k : Nat) : Good n (clearTo k f) := by
  refine ⟨fun j => ?_, fun j => ?_, fun j => ?_, h.n1, h.n255⟩ <;> (have h1 := h.pos j; have h2 := h.top j; have h3 := h.off j; unfold clearTo; split <;> omega)

/-- Take. -/
theorem rtake_any (w : World) (r n : Nat) (f : Int → Int) (h : RefAt w r n f) :
    Calls Try.prog 45 #[.pointer (some ⟨r, 0, none⟩)] w fun e w' => ∃ v, e = .returned v ∧ w'.ownsRow w.heap.size 32 2 v (countsOf n f).length (flat (countsOf n f)) ∧ RefAt w' r n emptyF ∧ Kept (fun i => i = r) w w' := by
  have hn := h.good.n255
  have hlt0 := h.lt
  have HC := Lib.hid (rcounts_any w r n f h)
  have HH := Lib.hid h
  clear h
  go_enter Try.func45, Try.ntmps45
  go_wp2_with fail
  refine HC.out.mono ?_
  rintro e W ⟨v, rfl, hrow, hB⟩
  have H1 := Lib.hid (HH.out.kept (Kept.below hB) (fun h => h))
  have HR := Lib.hid hrow
  have hsz := hB.size
  clear hrow
  go_wp2_with fail
  go_loopw [4] (fun i wr => ∃ k : Nat, k ≤ n ∧ i = .int .i64 ((k : Int) + 1) ∧ RefAt wr r n (clearTo k f) ∧ Kept (fun i => i = r) W wr) (fun i _ => n + 1 - (intOf i).toNat)
  case atStart => exact ⟨0, Nat.zero_le _, rfl, by rw [clearTo_zero]; exact H1.out, Kept.refl _ _⟩
  case round =>
    obtain ⟨k, hk, rfl, hr, hK⟩ := hrel
    have d0 := hr.c0
    have H2 := Lib.hid hr
    clear hr
    by_cases hlt : k < n
    · have d1 := H2.out.ck1 (k := k) (by omega)
      have df := H2.out.fz (1 + (k + 1))
      go_wp2
      go_roundw
      case rel =>
        refine ⟨k + 1, by omega, by go_num, ?_, hK.setCell' (p := ⟨r, 1 + (k + 1), none⟩) rfl _⟩
        have := H2.out.set (k := (k : Int) + 1) (x := 0) (g := clearTo (k + 1) f) (by omega) (by omega) (good_clear HH.out.good _) (by unfold clearTo; rw [if_pos (by omega)]) (fun j hj => clearTo_other k f hj)
        rwa [show ((k : Int) + 1).toNat = k + 1 from by omega] at this
      case measure => simp [intOf]; omega
    · obtain rfl : k = n := by omega
      go_wp2
      go_ret
      refine ⟨v, rfl, ownsRow_keptS HR.out hK (fun g hg e => by have := (HR.out.lt g hg).1; omega), ?_, ((Kept.below hB).mono (fun _ _ h => h.elim)).trans hK (fun _ _ h => h)⟩
      have := H2.out
      rwa [clearTo_all HH.out.good] at this

end Go.Proofs.Ytacbmpffpfaciaa
