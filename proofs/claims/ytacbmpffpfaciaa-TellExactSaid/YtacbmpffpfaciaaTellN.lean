/-
  TellExact's callees: arrays of 256 numbers by value: some, told.
-/
import Derived.Test.YtacbmpffpfaciaaTellM
import Derived.DeepKeys
namespace Go.Proofs.Ytacbmpffpfaciaa
open Go.RowKit Go.Maps Go.Shelf Go.Sort

set_option maxRecDepth 100000
set_option maxHeartbeats 2000000

/-- An array of 256 numbers as a value. -/
def ArrV (C : Array Value) (f : Int → Int) : Prop := C.size = 256 ∧ ∀ k : Nat, k < 256 → C[k]? = some (.int .i64 (f k))
theorem zeroV : ArrV (Array.replicate 256 (Value.int .i64 0)) emptyF := ⟨by simp, fun k hk => by simp [emptyF, hk]⟩
theorem ArrV.one {C : Array Value} {f : Int → Int} (h : ArrV C f) : C.all (·.oneCell') = true := by
  rw [Array.all_eq_true]
  intro i hi
  have := h.2 i (by have := h.1; omega)
  rw [Array.getElem?_eq_getElem hi] at this
  obtain e := Option.some.inj this
  rw [e]; rfl

theorem eqItems_ints (d : Nat) (xs ys : Array Value) (f g : Int → Int) (w : World) (hx : ArrV xs f) (hy : ArrV ys g) : ∀ is : List Nat, (∀ i ∈ is, i < 256) →
    (Op.eqItems (d + 1) 3 1 xs ys is).run Try.prog w = .ok (is.all fun k => decide (f (k : Int) = g (k : Int))) w
  | [], _ => by simp [Op.eqItems]
  | i :: is, hi => by
    have ih := eqItems_ints d xs ys f g w hx hy is (fun j hj => hi j (by simp [hj]))
    have h1 := run_part_plain (P := Try.prog) w (e := 3) (by kernel_rfl) (xs := xs) (off := i) (hx.2 i (hi i (by simp)))
    have h2 := run_part_plain (P := Try.prog) w (e := 3) (by kernel_rfl) (xs := ys) (off := i) (hy.2 i (hi i (by simp)))
    have h3 := run_equalIn_int (P := Try.prog) w d 3 .i64 .i64 (f (i : Int)) (g (i : Int)) Try.underlying3
    simp only [Op.eqItems, Sem.run_bind, Nat.mul_one, h1, h2, h3, Result.andThen_ok]
    by_cases e : f (i : Int) = g (i : Int)
    · simp [e, ih]
    · simp [e]

theorem info62 : (Try.prog.info? 3).map (fun i => (i.zero, i.size, i.bytes)) = some (some (.int .i64 0), 1, 8) := by kernel_rfl
theorem size62 : (Try.prog.info? 62).map (·.size) = some 256 := by kernel_rfl
theorem und62 : Try.prog.underlying 62 = some (.array 256 3) := by kernel_rfl

theorem eq_arr (C D : Array Value) (f g : Int → Int) (w : World) (hx : ArrV C f) (hy : ArrV D g) :
    (Op.equalIn 10000 62 (.agg C) (.agg D)).run Try.prog w = .ok ((List.range 256).all fun k => decide (f (k : Int) = g (k : Int))) w := by
  obtain ⟨i0, hi, hz0, hz1, hz2⟩ := info_parts info62
  have hc : Try.prog.cellsOf 3 = 1 := by kernel_rfl
  rw [show (10000 : Nat) = 9998 + 1 + 1 from rfl, run_equalIn_array w (9998 + 1) C D und62 hi, hc, eqItems_ints 9998 C D f g w hx hy (List.range 256) (fun i hi => by simpa using hi)]

theorem zero62 : Try.zeroCells62 = Array.replicate 256 (Value.int .i64 0) := by kernel_rfl

/-- Is every number 0? -/
def noneB (f : Int → Int) : Bool := (List.range 256).all fun k => decide (f (k : Int) = 0)
theorem eq_zero (C : Array Value) (f : Int → Int) (w : World) (hx : ArrV C f) :
    (Op.equalIn 10000 62 (.agg C) (.agg Try.zeroCells62)).run Try.prog w = .ok (noneB f) w := by
  rw [zero62]
  exact eq_arr C _ f emptyF w hx zeroV

theorem some_any (w : World) (C : Array Value) (f : Int → Int) (hx : ArrV C f) :
    Calls Try.prog 29 #[.agg C] w fun e w' => e = .returned (.bool (!(noneB f))) ∧ Kept (fun _ => False) w w' := by
  have hn := fun w => eq_zero C f w hx
  have hg := World.alloc_heap_new w (.cells C 62)
  have hs : (Try.prog.info? 62).map (·.size) = some C.size := by rw [hx.1]; exact size62
  have HX := Lib.hid hx
  clear hx
  go_enter Try.func29, Try.ntmps29
  go_wp2_with fail
  refine wp_load_row _ _ rfl w.heap.size rfl _ C (0, 0) _ hg und62 rfl hs ?_
  go_wp2
  trace_state
  go_ret
  exact ⟨rfl, Kept.alloc _ _ _⟩

end Go.Proofs.Ytacbmpffpfaciaa
