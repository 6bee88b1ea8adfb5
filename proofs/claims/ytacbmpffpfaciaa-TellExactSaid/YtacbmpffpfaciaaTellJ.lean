/-
  Walks of the kit of layer 22's law: OverCounts.
-/
import Derived.Test.YtacbmpffpfaciaaTellI
namespace Go.Proofs.Ytacbmpffpfaciaa
open Go.RowKit Go.Maps Go.Shelf Go.Sort

set_option maxRecDepth 100000
set_option maxHeartbeats 2000000

theorem mark_any (w : World) (i : Int) (h1 : 0 ≤ i) (h2 : i ≤ 140737488355328) :
    Calls Try.prog 52 #[.int .i64 2, .int .i64 i] w fun e w' => e = .returned (.int .i64 (9000027 + i)) ∧ w = w' := by
  go_enter Try.func52, Try.ntmps52
  go_wp2
  go_ret
  exact ⟨rfl, rfl⟩

theorem markCount_any (w : World) (i : Int) (h1 : 0 ≤ i) (h2 : i ≤ 140737488355328) :
    Calls Try.prog 46 #[.int .i64 2, .int .i64 i] w fun e w' => e = .returned (.agg #[.int .i64 (9000027 + i), .int .i64 0]) ∧ Kept (fun _ => False) w w' := by
  go_enter Try.func46, Try.ntmps46
  go_wp2_with fail
  refine (mark_any _ i h1 h2).mono ?_
  rintro e w1 ⟨rfl, rfl⟩
  go_wp2
  refine bodyPost_ret (v := .agg #[.int .i64 (9000027 + i), .int .i64 0]) ?_ rfl ⟨rfl, ?_⟩
  · simp [results, Try.f46, go_sem]
  · exact Kept.alloc _ _ _

/-- A row of counts lies whole at block g. -/
def RowOf (w : World) (g m : Nat) : Prop := ∃ C : Array Value, w.heap[g]? = some (.cells C 32 (0, 0)) ∧ C.size = m
theorem RowOf.kept {S : Nat → Prop} {w w' : World} {g m : Nat} (h : RowOf w g m) (hk : Kept S w w') (hS : ¬ S g) : RowOf w' g m := by
  obtain ⟨C, h1, h2⟩ := h
  exact ⟨C, (hk.block g (Array.getElem?_eq_some_iff.1 h1).1 hS).trans h1, h2⟩
theorem RowOf.lt {w : World} {g m : Nat} (h : RowOf w g m) : g < w.heap.size := by
  obtain ⟨C, h1, h2⟩ := h
  exact (Array.getElem?_eq_some_iff.1 h1).1
theorem RowOf.set {w : World} {g m : Nat} (h : RowOf w g m) (o : Nat) (v : Value) : RowOf (w.setCell ⟨g, o, none⟩ v) g m := by
  obtain ⟨C, h1, h2⟩ := h
  refine ⟨C.set! o v, ?_, by simp [h2]⟩
  show (w.heap.modify g _)[g]? = _
  rw [Array.getElem?_modify, if_pos rfl, h1]
  rfl
theorem RowOf.fz {w : World} {g m : Nat} (h : RowOf w g m) (o : Nat) : w.frozen? ⟨g, o, none⟩ = false := by
  obtain ⟨C, h1, h2⟩ := h
  simp [World.frozen?, h1]
theorem RowOf.cell {w : World} {g m : Nat} (h : RowOf w g m) {o : Nat} (ho : o < m) : ∃ v, w.cell? ⟨g, o, none⟩ = some v := by
  obtain ⟨C, h1, h2⟩ := h
  exact ⟨C[o], by simp [World.cell?, h1]⟩

theorem over_row (w : World) (g n cap : Nat) (h : RowOf w g (cap * 2)) (hn : n ≤ cap) (hn2 : n ≤ 140737488355) (hc : cap ≤ maxLen) :
    Calls Try.prog 23 #[.slice (some ⟨g, 0, none⟩) n cap] w fun e w' => e = .returned (.tuple #[]) ∧ Kept (fun i => i = g) w w' := by
  have HH := Lib.hid h
  clear h
  obtain ⟨m, hm, hm1, hm2⟩ : ∃ m : Nat, min (cap : Int) ((n : Int) + 12) = m ∧ m ≤ cap ∧ m ≤ n + 12 := ⟨min cap (n + 12), by omega, by omega, by omega⟩
  have hc2 : (cap : Int) ≤ 9223372036854775807 := by unfold maxLen at hc; omega
  have hm3 : (m : Int) ≤ cap := by omega
  go_enter Try.func23, Try.ntmps23
  go_wp2_with fail
  go_loopw [3] (fun i wr => ∃ k : Nat, k ≤ m ∧ i = .int .i64 k ∧ RowOf wr g (cap * 2) ∧ Kept (fun i => i = g) w wr) (fun i _ => m - (intOf i).toNat)
  case atStart => exact ⟨0, Nat.zero_le _, rfl, HH.out, Kept.refl _ _⟩
  case round =>
    obtain ⟨k, hk, rfl, hr, hK⟩ := hrel
    have HR := Lib.hid hr
    clear hr
    by_cases hlt : k < m
    · go_wp2_with fail
      refine (markCount_any _ k (by omega) (by omega)).mono ?_
      rintro e w1 ⟨rfl, hk1⟩
      have h1 := HR.out.kept hk1 (fun h => h)
      obtain ⟨v0, x0⟩ := h1.cell (o := k * 2) (by omega)
      obtain ⟨v1, x1⟩ := h1.cell (o := k * 2 + 1) (by omega)
      have xf := h1.fz
      have H1 := Lib.hid h1
      clear h1
      go_wp2
      go_roundw
      case rel => exact ⟨k + 1, by omega, by go_num, (H1.out.set _ _).set _ _, (((hK.trans hk1 (fun _ _ h => h.elim)).setCell' (p := ⟨g, _, none⟩) rfl _).setCell' (p := ⟨g, _, none⟩) rfl _)⟩
      case measure => simp [intOf]; omega
    · go_wp2
      go_end0
      exact ⟨rfl, hK⟩

theorem over_nil (w : World) :
    Calls Try.prog 23 #[.slice none 0 0] w fun e w' => e = .returned (.tuple #[]) ∧ w = w' := by
  go_enter Try.func23, Try.ntmps23
  go_wp2_with fail
  go_loopw [3] (fun i wr => i = .int .i64 0 ∧ w = wr) (fun _ _ => 0)
  case atStart => exact ⟨rfl, rfl⟩
  case round =>
    obtain ⟨rfl, rfl⟩ := hrel
    go_wp2
    go_end0
    exact ⟨rfl, rfl⟩

theorem over_any (w : World) (base n : Nat) (v : Value) (xs : List Value) (h : w.ownsRow base 32 2 v n xs) (hn2 : n ≤ 140737488355) :
    Calls Try.prog 23 #[v] w fun e w' => e = .returned (.tuple #[]) ∧ Kept (fun i => v.ownBlock = some i) w w' := by
  rcases h.2 with ⟨rfl, hz⟩ | ⟨g, cap, cur, rfl, hb, hg, h1, h2, h3, h4⟩
  · refine (over_nil w).mono ?_
    rintro e w' ⟨rfl, rfl⟩
    exact ⟨rfl, Kept.refl _ _⟩
  · refine (over_row w g n cap ⟨cur, hg, h3⟩ h1 hn2 h2).mono ?_
    rintro e w' ⟨rfl, hk⟩
    exact ⟨rfl, hk.mono (fun i _ (hi : i = g) => by rw [hi]; rfl)⟩

end Go.Proofs.Ytacbmpffpfaciaa
