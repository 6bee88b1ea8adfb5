/-
  What CacheTells leans on: no coder, plain invariants, an ask's copy.
-/
import Derived.Test.YtlmpagicjgldkaaCaN
import Derived.Test.YtlmpagicjgldkaaCaR
import Derived.Test.YtlmpagicjgldkaaCaS
namespace Go.Proofs.Ytlmpagicjgldkaa
open Go.RowKit Go.Maps
set_option linter.unusedVariables false
set_option linter.unusedSimpArgs false
set_option maxRecDepth 100000
set_option maxHeartbeats 2000000

def NoCoder (w : World) (v : Value) : Prop := v = .pointer none ∨ ∃ b, v = .pointer (some ⟨b, 0, none⟩) ∧ w.cell? ⟨b, 2, none⟩ = some (.int .i64 0)
theorem there_no (w : World) (v : Value) (h : NoCoder w v) :
    Calls Try.prog 24 #[v] w fun e w' => e = .returned (.bool false) ∧ w = w' := by
  rcases h with rfl | ⟨b, rfl, d2⟩
  · go_enter Try.func24, Try.ntmps24
    go_wp2
    go_ret
    exact ⟨rfl, rfl⟩
  · go_enter Try.func24, Try.ntmps24
    go_wp2
    go_ret
    exact ⟨rfl, rfl⟩

theorem decode_no (w : World) (v v2 : Value) (h : NoCoder w v) :
    Calls Try.prog 17 #[v, v2] w fun e w' => e = .returned (.tuple #[.slice none 0 0, .int .i64 1]) ∧ w = w' := by
  go_enter Try.func17, Try.ntmps17
  go_wp2_with fail
  refine (there_no w v h).mono ?_
  rintro e w' ⟨rfl, rfl⟩
  go_wp2
  go_ret2
  exact ⟨rfl, rfl⟩

theorem turn_no (w : World) (v v2 : Value) (h : NoCoder w v) :
    Calls Try.prog 13 #[v, v2] w fun e w' => e = .returned (.tuple #[.slice none 0 0, .int .i64 1]) ∧ w = w' := by
  go_enter Try.func13, Try.ntmps13
  go_wp2_with fail
  refine (there_no w v h).mono ?_
  rintro e w' ⟨rfl, rfl⟩
  go_wp2
  go_ret2
  exact ⟨rfl, rfl⟩


/-- Plain invariants. -/
structure PInv (N R M : Nat) (p : PS) : Prop where
  n : p.n = N
  room : p.room = R
  hm : p.hits + p.misses = M
  now : p.now = M
  md : p.misses = p.keys.length + p.dropped
  full : p.keys.length ≤ R
  nd : p.keys.Nodup
theorem filter_ne {α : Type} [DecidableEq α] {q : α} : ∀ {l : List α}, l.Nodup → q ∈ l → (l.filter (fun x => decide (x ≠ q))).length + 1 = l.length
  | [], _, h => by simp at h
  | x :: r, hn, h => by
    obtain ⟨h1, h2⟩ := List.nodup_cons.1 hn
    by_cases e : x = q
    · subst e
      rw [List.filter_cons_of_neg (by simp), List.filter_eq_self.2 (fun y hy => by
        simp only [decide_eq_true_eq]
        rintro rfl
        exact h1 hy)]
      rfl
    · rw [List.filter_cons_of_pos (by simpa using e)]
      rcases List.mem_cons.1 h with h3 | h3
      · exact absurd h3.symm e
      · have := filter_ne h2 h3
        simp only [List.length_cons]
        omega
theorem PInv.ask {N R M : Nat} {p : PS} (h : PInv N R M p) (hR : 1 ≤ R) (q : Nat × List Int) : PInv N R (M + 1) (p.ask q) := by
  obtain ⟨a1, a2, a3, a4, a5, a6, a7⟩ := h
  unfold PS.ask
  by_cases hq : q ∈ p.keys
  · rw [if_pos hq]
    have := filter_ne a7 hq
    refine ⟨a1, a2, by show p.hits + 1 + p.misses = M + 1; omega, by show p.now + 1 = M + 1; omega, ?_, ?_, ?_⟩
    · show p.misses = (p.keys.filter _ ++ [q]).length + p.dropped
      rw [List.length_append, List.length_singleton]; omega
    · show (p.keys.filter _ ++ [q]).length ≤ R
      rw [List.length_append, List.length_singleton]; omega
    · show (p.keys.filter _ ++ [q]).Nodup
      rw [List.nodup_append]
      refine ⟨a7.sublist List.filter_sublist, by simp, fun x hx y hy e => ?_⟩
      have := (List.mem_filter.1 hx).2
      simp at this hy
      exact this (e.trans hy)
  · rw [if_neg hq]
    by_cases hl : p.keys.length < p.room
    · rw [if_pos hl]
      refine ⟨a1, a2, by show p.hits + (p.misses + 1) = M + 1; omega, by show p.now + 1 = M + 1; omega, ?_, ?_, ?_⟩
      · show p.misses + 1 = (p.keys ++ [q]).length + p.dropped
        rw [List.length_append, List.length_singleton]; omega
      · show (p.keys ++ [q]).length ≤ R
        rw [List.length_append, List.length_singleton]; omega
      · show (p.keys ++ [q]).Nodup
        rw [List.nodup_append]
        exact ⟨a7, by simp, fun x hx y hy e => hq (by simp at hy; rw [← hy, ← e]; exact hx)⟩
    · rw [if_neg hl]
      have hk : 1 ≤ p.keys.length := by omega
      refine ⟨a1, a2, by show p.hits + (p.misses + 1) = M + 1; omega, by show p.now + 1 = M + 1; omega, ?_, ?_, ?_⟩
      · show p.misses + 1 = (p.keys.tail ++ [q]).length + (p.dropped + 1)
        rw [List.length_append, List.length_singleton, List.length_tail]; omega
      · show (p.keys.tail ++ [q]).length ≤ R
        rw [List.length_append, List.length_singleton, List.length_tail]; omega
      · show (p.keys.tail ++ [q]).Nodup
        rw [List.nodup_append]
        exact ⟨a7.sublist (List.tail_sublist _), by simp, fun x hx y hy e => hq (by simp at hy; rw [← hy, ← e]; exact List.mem_of_mem_tail hx)⟩
theorem PInv.small {N R M : Nat} {p : PS} (h : PInv N R M p) (hM : M < 1000000000) : p.now < 1000000000 ∧ p.hits < 1000000000 ∧ p.misses < 1000000000 ∧ p.dropped < 1000000000 := by
  obtain ⟨a1, a2, a3, a4, a5, a6, a7⟩ := h
  omega

/-- An ask's copy. -/
structure BoxAt (w : World) (g : Nat) (a : AskI) (u : Value) : Prop where
  c0 : w.cell? ⟨g, 0, none⟩ = some (.int .i64 a.what)
  c1 : w.cell? ⟨g, 1, none⟩ = some (.int .i64 a.k)
  c2 : w.cell? ⟨g, 2, none⟩ = some (.int .i64 a.long)
  c3 : w.cell? ⟨g, 3, none⟩ = some (bv a.first)
  c4 : w.cell? ⟨g, 4, none⟩ = some u
theorem BoxAt.lt {w : World} {g : Nat} {a : AskI} {u : Value} (h : BoxAt w g a u) : g < w.heap.size := blt h.c0
theorem BoxAt.kept {S : Nat → Prop} {w w' : World} {g : Nat} {a : AskI} {u : Value} (h : BoxAt w g a u) (hk : Kept S w w') (hS : ¬ S g) : BoxAt w' g a u := by
  have hl := h.lt
  exact ⟨(hk.cell (p := ⟨g, 0, none⟩) hl hS).trans h.c0, (hk.cell (p := ⟨g, 1, none⟩) hl hS).trans h.c1, (hk.cell (p := ⟨g, 2, none⟩) hl hS).trans h.c2, (hk.cell (p := ⟨g, 3, none⟩) hl hS).trans h.c3, (hk.cell (p := ⟨g, 4, none⟩) hl hS).trans h.c4⟩
theorem BoxAt.below {w w' : World} {g : Nat} {a : AskI} {u : Value} (h : BoxAt w g a u) (hb : Below w.heap.size w w') : BoxAt w' g a u := h.kept (Kept.below hb) (fun h => h)
theorem BoxAt.made (w : World) (a : AskI) (u : Value) : BoxAt (w.alloc (.cells #[.int .i64 a.what, .int .i64 a.k, .int .i64 a.long, bv a.first, u] 32)) w.heap.size a u :=
  ⟨World.cell?_alloc_new w _ _ 0, World.cell?_alloc_new w _ _ 1, World.cell?_alloc_new w _ _ 2, World.cell?_alloc_new w _ _ 3, World.cell?_alloc_new w _ _ 4⟩
end Go.Proofs.Ytlmpagicjgldkaa
