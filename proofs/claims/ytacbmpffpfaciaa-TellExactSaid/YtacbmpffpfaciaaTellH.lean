/-
  Walks of the reference of layer 22: New, Closed, Tick.
-/
import Derived.Test.YtacbmpffpfaciaaTellG
namespace Go.Proofs.Ytacbmpffpfaciaa
open Go.RowKit Go.Maps Go.Shelf Go.Sort

set_option maxRecDepth 100000
set_option maxHeartbeats 2000000

/-- The reference teller lies at block t. -/
structure RTellerAt (w : World) (t r n : Nat) (stream every seq : Int) (f : Int → Int) : Prop where
  cells : w.heap[t]? = some (.cells #[.int .i64 stream, .int .i64 (n : Int), .int .i64 every, .int .i64 seq, .pointer (some ⟨r, 0, none⟩)] 55 (0, 0))
  hist : RefAt w r n f
  ev1 : 1 ≤ every
  ev2 : every ≤ 1000
  sq1 : 0 ≤ seq
  sq2 : seq ≤ 2147483647

section
variable {w w' : World} {t r n : Nat} {stream every seq : Int} {f : Int → Int}
theorem RTellerAt.c0 (h : RTellerAt w t r n stream every seq f) : w.cell? ⟨t, 0, none⟩ = some (.int .i64 stream) := by simp [World.cell?, h.cells]
theorem RTellerAt.c1 (h : RTellerAt w t r n stream every seq f) : w.cell? ⟨t, 1, none⟩ = some (.int .i64 (n : Int)) := by simp [World.cell?, h.cells]
theorem RTellerAt.c2 (h : RTellerAt w t r n stream every seq f) : w.cell? ⟨t, 2, none⟩ = some (.int .i64 every) := by simp [World.cell?, h.cells]
theorem RTellerAt.c3 (h : RTellerAt w t r n stream every seq f) : w.cell? ⟨t, 3, none⟩ = some (.int .i64 seq) := by simp [World.cell?, h.cells]
theorem RTellerAt.c4 (h : RTellerAt w t r n stream every seq f) : w.cell? ⟨t, 4, none⟩ = some (.pointer (some ⟨r, 0, none⟩)) := by simp [World.cell?, h.cells]
theorem RTellerAt.lt (h : RTellerAt w t r n stream every seq f) : t < w.heap.size := (Array.getElem?_eq_some_iff.1 h.cells).1
theorem RTellerAt.fz (h : RTellerAt w t r n stream every seq f) (o : Nat) : w.frozen? ⟨t, o, none⟩ = false := by simp [World.frozen?, h.cells]
theorem RTellerAt.ne (h : RTellerAt w t r n stream every seq f) : r ≠ t := by
  rintro rfl
  obtain ⟨C, d1, d2, _⟩ := h.hist.cells
  rw [h.cells] at d1
  cases d1
theorem RTellerAt.kept {S : Nat → Prop} (h : RTellerAt w t r n stream every seq f) (hk : Kept S w w') (hS : ∀ i, S i → i ≠ t ∧ i ≠ r) : RTellerAt w' t r n stream every seq f :=
  ⟨(hk.block t h.lt (fun hh => (hS _ hh).1 rfl)).trans h.cells, h.hist.kept hk (fun hh => (hS _ hh).2 rfl), h.ev1, h.ev2, h.sq1, h.sq2⟩
theorem RTellerAt.tally {g : Int → Int} (h : RTellerAt w t r n stream every seq f) (hk : Kept (fun i => i = r) w w') (hh : RefAt w' r n g) : RTellerAt w' t r n stream every seq g :=
  ⟨(hk.block t h.lt (fun e => h.ne e.symm)).trans h.cells, hh, h.ev1, h.ev2, h.sq1, h.sq2⟩
theorem RTellerAt.drewK (h : RTellerAt w t r n stream every seq f) : RTellerAt w.drew t r n stream every seq f := h.kept (S := fun _ => False) ((Kept.refl _ w).drew) (fun _ h => h.elim)
theorem RTellerAt.setSeq (h : RTellerAt w t r n stream every seq f) (s' : Int) (h1 : 0 ≤ s') (h2 : s' ≤ 2147483647) : RTellerAt (w.setCell ⟨t, 3, none⟩ (.int .i64 s')) t r n stream every s' f := by
  have hk : Kept (fun i => i = t) w (w.setCell ⟨t, 3, none⟩ (.int .i64 s')) := (Kept.refl (fun i => i = t) w).setCell' (S := fun i => i = t) (p := ⟨t, 3, none⟩) rfl _
  refine ⟨?_, h.hist.kept hk h.ne, h.ev1, h.ev2, h1, h2⟩
  have hc := h.cells
  show (w.heap.modify t _)[t]? = _
  rw [Array.getElem?_modify, if_pos rfl, hc]
  rfl
end

theorem rtnew_yes (w : World) (stream every : Int) (n : Nat) (h1 : 1 ≤ n) (h2 : n ≤ 255) (s1 : 0 ≤ stream) (s2 : stream ≤ 65535) (e1 : 1 ≤ every) (e2 : every ≤ 1000) :
    Calls Try.prog 18 #[.int .i64 stream, .int .i64 (n : Int), .int .i64 every] w fun e w' => ∃ t r, e = .returned (.tuple #[.pointer (some ⟨t, 0, none⟩), .int .i64 0]) ∧
      RTellerAt w' t r n stream every 0 emptyF ∧ Below w.heap.size w w' ∧ (w.heap.size ≤ t ∧ w.heap.size ≤ r) := by
  have q1 : ¬ every < 1 := by omega
  have q2 : ¬ 1000 < every := by omega
  have q3 : ¬ 65535 < stream := by omega
  have q4 : ¬ stream < 0 := by omega
  go_enter Try.func18, Try.ntmps18
  go_wp2_with fail
  refine (rnew_ref _ n h1 h2).mono ?_
  rintro e w1 ⟨rfl, hh, hb⟩
  have HH := Lib.hid hh
  clear hh
  go_wp2
  go_ret2
  have hk : Kept (fun _ => False) w1 (w1.alloc (.cells #[.int .i64 stream, .int .i64 (n : Int), .int .i64 every, .int .i64 0, .pointer (some ⟨w.heap.size, 0, none⟩)] 55)) := Kept.alloc _ _ _
  have s1 := hb.size
  refine ⟨w1.heap.size, w.heap.size, rfl, ⟨World.alloc_heap_new w1 _, HH.out.kept hk (fun h => h), e1, e2, by omega, by omega⟩, hb.trans (hk.toBelow (by omega) (fun i h => h.elim)), by omega, by omega⟩

theorem rtnew_no (w : World) (stream n every : Int) (h : badT stream n every) :
    Calls Try.prog 18 #[.int .i64 stream, .int .i64 n, .int .i64 every] w fun e w' => e = .returned (.tuple #[.pointer none, .int .i64 2]) ∧ Below w.heap.size w w' := by
  have HB := Lib.hid h
  clear h
  by_cases hn : n < 1 ∨ 255 < n
  · have HN := Lib.hid hn
    clear hn
    go_enter Try.func18, Try.ntmps18
    go_wp2_with fail
    refine (rnew_no _ n HN.out).mono ?_
    rintro e w1 ⟨rfl, rfl⟩
    go_wp2
    go_ret2
    exact ⟨rfl, Below.refl _ w⟩
  · obtain ⟨m, rfl⟩ := Int.eq_ofNat_of_zero_le (show 0 ≤ n by omega)
    have HN := Lib.hid hn
    clear hn
    go_enter Try.func18, Try.ntmps18
    go_wp2_with fail
    refine (rnew_ref _ m (by have := HN.out; omega) (by have := HN.out; omega)).mono ?_
    rintro e w1 ⟨rfl, hh, hb⟩
    clear hh
    by_cases c1 : stream < 0
    · go_wp2
      go_ret2
      exact ⟨rfl, hb⟩
    · by_cases c2 : 65535 < stream
      · go_wp2
        go_ret2
        exact ⟨rfl, hb⟩
      · by_cases c3 : every < 1
        · go_wp2
          go_ret2
          exact ⟨rfl, hb⟩
        · have c4 : 1000 < every := by
            have h1 := HB.out
            have h2 := HN.out
            unfold badT at h1
            omega
          go_wp2
          go_ret2
          exact ⟨rfl, hb⟩

section
variable {t r n : Nat} {stream every seq : Int} {f : Int → Int}

theorem rclosed_odd (w : World) (h : RTellerAt w t r n stream every seq f) (k : Int) (hk : k < 1 ∨ (n : Int) < k) :
    Calls Try.prog 25 #[.pointer (some ⟨t, 0, none⟩), .int .i64 k] w fun e w' => e = .returned (.int .i64 2) ∧ w = w' := by
  have d4 := h.c4
  have HH := Lib.hid (radd_odd w r n f h.hist k hk)
  clear h hk
  go_enter Try.func25, Try.ntmps25
  go_wp2_with fail
  refine HH.out.mono ?_
  rintro e w1 ⟨rfl, rfl⟩
  go_wp2
  go_ret
  exact ⟨rfl, rfl⟩

theorem rclosed_ok (w : World) (h : RTellerAt w t r n stream every seq f) (k : Int) (h1 : 1 ≤ k) (h2 : k ≤ n) (ht : ∀ j, f j < 1099511627776) :
    Calls Try.prog 25 #[.pointer (some ⟨t, 0, none⟩), .int .i64 k] w fun e w' => e = .returned (.int .i64 0) ∧ RTellerAt w' t r n stream every seq (upd f k 1) ∧ Kept (fun i => i = r) w w' := by
  have d4 := h.c4
  have HH := Lib.hid h
  have HA := Lib.hid (radd_ok w r n f h.hist k h1 h2 (by have := ht k; omega))
  clear h ht
  go_enter Try.func25, Try.ntmps25
  go_wp2_with fail
  refine HA.out.mono ?_
  rintro e w1 ⟨rfl, hr, hk⟩
  have HR := Lib.hid hr
  clear hr
  go_wp2
  go_ret
  exact ⟨rfl, HH.out.tally hk HR.out, hk⟩

end
end Go.Proofs.Ytacbmpffpfaciaa
