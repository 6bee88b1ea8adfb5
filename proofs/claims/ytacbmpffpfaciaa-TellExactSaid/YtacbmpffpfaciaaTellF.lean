/-
  Walks of the reference of layer 21: the histogram by an array of 256 cells.
-/
import Derived.Test.YtacbmpffpfaciaaTellD
import Derived.Deep.WholeRow
namespace Go.Proofs.Ytacbmpffpfaciaa
open Go.RowKit Go.Maps Go.Shelf Go.Sort

set_option maxRecDepth 100000
set_option maxHeartbeats 2000000

theorem rnew_no (w : World) (n : Int) (h : n < 1 ∨ 255 < n) :
    Calls Try.prog 41 #[.int .i64 n] w fun e w' => e = .returned (.tuple #[.pointer none, .int .i64 2]) ∧ w = w' := by
  by_cases h1 : n < 1
  · go_enter Try.func41, Try.ntmps41
    go_wp2
    go_ret2
    exact ⟨rfl, rfl⟩
  · have h2 : 255 < n := by omega
    go_enter Try.func41, Try.ntmps41
    go_wp2
    go_ret2
    exact ⟨rfl, rfl⟩

theorem rnew_yes (w : World) (n : Int) (h1 : 1 ≤ n) (h2 : n ≤ 255) :
    Calls Try.prog 41 #[.int .i64 n] w fun e w' => e = .returned (.tuple #[.pointer (some ⟨w.heap.size, 0, none⟩), .int .i64 0]) ∧ w.alloc (.cells (#[.int .i64 n] ++ (Array.replicate 256 (Value.int .i64 0))) 82) = w' := by
  have h3 : ¬ n < 1 := by omega
  have h4 : ¬ 255 < n := by omega
  go_enter Try.func41, Try.ntmps41
  go_wp2
  go_ret2
  exact ⟨rfl, rfl⟩

/-- The reference histogram lies at block r. -/
structure RefAt (w : World) (r n : Nat) (f : Int → Int) : Prop where
  cells : ∃ C : Array Value, w.heap[r]? = some (.cells C 82 (0, 0)) ∧ C.size = 257 ∧ C[0]? = some (.int .i64 (n : Int)) ∧ ∀ k : Nat, k < 256 → C[1 + k]? = some (.int .i64 (f (k : Int)))
  good : Good n f

section
variable {w w' : World} {r n : Nat} {f : Int → Int}
theorem RefAt.c0 (h : RefAt w r n f) : w.cell? ⟨r, 0, none⟩ = some (.int .i64 (n : Int)) := by
  obtain ⟨C, h1, h2, h3, h4⟩ := h.cells
  simp [World.cell?, h1, h3]
theorem RefAt.ck (h : RefAt w r n f) {k : Int} (h1 : 0 ≤ k) (h2 : k < 256) : w.cell? ⟨r, 1 + k.toNat, none⟩ = some (.int .i64 (f k)) := by
  obtain ⟨C, d1, d2, d3, d4⟩ := h.cells
  have := d4 k.toNat (by omega)
  rw [show (k.toNat : Int) = k from by omega] at this
  simp [World.cell?, d1, this]
theorem RefAt.lt (h : RefAt w r n f) : r < w.heap.size := by
  obtain ⟨C, d1, _⟩ := h.cells
  exact (Array.getElem?_eq_some_iff.1 d1).1
theorem RefAt.fz (h : RefAt w r n f) (o : Nat) : w.frozen? ⟨r, o, none⟩ = false := by
  obtain ⟨C, d1, _⟩ := h.cells
  simp [World.frozen?, d1]
theorem RefAt.kept {S : Nat → Prop} (h : RefAt w r n f) (hk : Kept S w w') (hS : ¬ S r) : RefAt w' r n f := by
  obtain ⟨C, d1, d2⟩ := h.cells
  exact ⟨⟨C, (hk.block r h.lt hS).trans d1, d2⟩, h.good⟩
theorem RefAt.set (h : RefAt w r n f) {k : Int} (h1 : 0 ≤ k) (h2 : k < 256) {x : Int} {g : Int → Int} (hg : Good n g) (hx : g k = x) (hy : ∀ j, j ≠ k → g j = f j) :
    RefAt (w.setCell ⟨r, 1 + k.toNat, none⟩ (.int .i64 x)) r n g := by
  obtain ⟨C, d1, d2, d3, d4⟩ := h.cells
  refine ⟨⟨C.set! (1 + k.toNat) (.int .i64 x), ?_, by simp [d2], ?_, fun j hj => ?_⟩, hg⟩
  · show (w.heap.modify r _)[r]? = _
    rw [Array.getElem?_modify, if_pos rfl, d1]
    rfl
  · simp [d3]
  · rw [Array.set!_eq_setIfInBounds, Array.getElem?_setIfInBounds]
    by_cases e : k.toNat = j
    · subst e
      rw [if_pos rfl, if_pos (by omega), show (k.toNat : Int) = k from by omega, hx]
    · rw [if_neg (by omega), d4 j hj, hy j (by omega)]
end

theorem rnew_ref (w : World) (n : Nat) (h1 : 1 ≤ n) (h2 : n ≤ 255) :
    Calls Try.prog 41 #[.int .i64 (n : Int)] w fun e w' => e = .returned (.tuple #[.pointer (some ⟨w.heap.size, 0, none⟩), .int .i64 0]) ∧ RefAt w' w.heap.size n emptyF ∧ Below w.heap.size w w' := by
  refine (rnew_yes w n (by omega) (by omega)).mono ?_
  rintro e w' ⟨rfl, rfl⟩
  refine ⟨rfl, ⟨⟨_, World.alloc_heap_new w _, by simp, by simp, fun k hk => ?_⟩, Good.empty h1 h2⟩, (Below.refl _ w).alloc (Nat.le_refl _) _⟩
  rw [Array.getElem?_append_right (by simp)]
  simp [emptyF, hk]

theorem radd_odd (w : World) (r n : Nat) (f : Int → Int) (h : RefAt w r n f) (k : Int) (hk : k < 1 ∨ (n : Int) < k) :
    Calls Try.prog 47 #[.pointer (some ⟨r, 0, none⟩), .int .i64 k] w fun e w' => e = .returned (.int .i64 2) ∧ w = w' := by
  have d0 := h.c0
  clear h
  by_cases h1 : k < 1
  · go_enter Try.func47, Try.ntmps47
    go_wp2
    go_ret
    exact ⟨rfl, rfl⟩
  · have h2 : (n : Int) < k := by omega
    clear hk
    go_enter Try.func47, Try.ntmps47
    go_wp2
    go_ret
    exact ⟨rfl, rfl⟩

theorem RefAt.drewK {w : World} {r n : Nat} {f : Int → Int} (h : RefAt w r n f) : RefAt w.drew r n f := h.kept (S := fun _ => False) ((Kept.refl _ w).drew) (fun h => h)

theorem radd_ok (w : World) (r n : Nat) (f : Int → Int) (h : RefAt w r n f) (k : Int) (h1 : 1 ≤ k) (h2 : k ≤ n) (ht : f k + 1 ≤ 1099511627776) :
    Calls Try.prog 47 #[.pointer (some ⟨r, 0, none⟩), .int .i64 k] w fun e w' => e = .returned (.int .i64 0) ∧ RefAt w' r n (upd f k 1) ∧ Kept (fun i => i = r) w w' := by
  have d0 := h.c0
  have hn := h.good.n255
  have d1 := h.ck (k := k) (by omega) (by omega)
  have hf := h.fz (1 + k.toNat)
  have hp := h.good.pos k
  have hq1 : ¬ k < 1 := by omega
  have hq2 : ¬ (n : Int) < k := by omega
  have hq3 : k < 256 := by omega
  have hq4 : 0 ≤ k := by omega
  have HH := Lib.hid h
  clear h
  go_enter Try.func47, Try.ntmps47
  go_wp2_with fail
  refine wp_still_tail 10 (by kernel_rfl) (by kernel_rfl) ?_
  simp only [List.take_succ_cons, List.take_zero, List.drop_succ_cons, List.drop_zero]
  repeat still_step
  refine wpStill_nil ?_
  go_wp2
  go_ret
  refine ⟨rfl, HH.out.drewK.set hq4 hq3 (HH.out.good.upd h1 h2 (by omega) ht) (by simp [upd]) (fun j hj => by simp [upd, hj]), ?_⟩
  exact ((Kept.refl (fun i => i = r) w).drew).setCell' (S := fun i => i = r) (p := ⟨r, 1 + k.toNat, none⟩) rfl _

end Go.Proofs.Ytacbmpffpfaciaa
