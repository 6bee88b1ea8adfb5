/-
  CodeI: Walks of layer 1 (field): is, Add, Mul, Inv, Div.
  CodeJ: Walks of layer 1 (field): Inv, Div.
-/
import Derived.Test.YtlmpagicjgldkaaGreatMxab
import Derived.Test.YtlmpagicjgldkaaGreatKept
namespace Go.Proofs.YtlmpagicjgldkaaGreat

section -- CodeI
open Go.RowKit Go.Maps

set_option maxRecDepth 100000
set_option maxHeartbeats 2000000

/-- A byte, as a value. -/
abbrev bv (x : B) : Value := .int .u8 ((x.v : Nat) : Int)

/-- The field lies at block b. -/
def FieldAt (w : World) (b : Nat) : Prop := ∃ C : Array Value, w.heap[b]? = some (.cells C 115 (0, 0)) ∧ C.size = 767 ∧ (∀ i : Nat, i < 510 → C[i]? = some (.int .u8 ((expN (i % 255) : Nat) : Int))) ∧ (∀ a : Nat, a < 256 → C[510 + a]? = some (.int .u8 ((logN a : Nat) : Int))) ∧ C[766]? = some (.bool true)

section
variable {w w' : World} {b : Nat}
theorem FieldAt.ex (h : FieldAt w b) {i : Nat} (hi : i < 510) : w.cell? ⟨b, i, none⟩ = some (.int .u8 ((expN (i % 255) : Nat) : Int)) := by
  obtain ⟨C, h1, h2, h3, h4, h5⟩ := h
  simp [World.cell?, h1, h3 i hi]
theorem FieldAt.lg (h : FieldAt w b) {a : Nat} (ha : a < 256) : w.cell? ⟨b, 510 + a, none⟩ = some (.int .u8 ((logN a : Nat) : Int)) := by
  obtain ⟨C, h1, h2, h3, h4, h5⟩ := h
  simp [World.cell?, h1, h4 a ha]
theorem FieldAt.th (h : FieldAt w b) : w.cell? ⟨b, 766, none⟩ = some (.bool true) := by
  obtain ⟨C, h1, h2, h3, h4, h5⟩ := h
  simp [World.cell?, h1, h5]
theorem FieldAt.lt (h : FieldAt w b) : b < w.heap.size := by
  obtain ⟨C, h1, _⟩ := h
  exact (Array.getElem?_eq_some_iff.1 h1).1
theorem FieldAt.kept {S : Nat → Prop} (h : FieldAt w b) (hk : Kept S w w') (hS : ¬ S b) : FieldAt w' b := by
  obtain ⟨C, h1, h2⟩ := h
  exact ⟨C, (hk.block b (Array.getElem?_eq_some_iff.1 h1).1 hS).trans h1, h2⟩
end

theorem Kept.drewN {S : Nat → Prop} {a w : World} (h : Kept S a w) (n : Nat) : Kept S a (w.drewN n) := ⟨h.os, h.tape, h.output, h.size, h.block⟩
theorem is_yes (w : World) (b : Nat) (h : FieldAt w b) :
    Calls Tryz.prog 61 #[.pointer (some ⟨b, 0, none⟩)] w fun e w' => e = .returned (.bool true) ∧ w = w' := by
  have d := h.th
  clear h
  go_enter Tryz.func61, Tryz.ntmps61
  go_wp2
  go_ret
  exact ⟨rfl, rfl⟩

theorem fadd_any (w : World) (x y : B) :
    Calls Tryz.prog 48 #[bv x, bv y] w fun e w' => e = .returned (bv (x + y)) ∧ w = w' := by
  have h := u8_xor_nat x.v y.v x.lt y.lt
  unfold bv
  go_enter Tryz.func48, Tryz.ntmps48
  go_wp2
  go_ret
  exact ⟨rfl, rfl⟩

theorem fmul_any (w : World) (b : Nat) (h : FieldAt w b) (x y : B) :
    Calls Tryz.prog 49 #[.pointer (some ⟨b, 0, none⟩), bv x, bv y] w fun e w' => e = .returned (bv (x * y)) ∧ ∃ n, w' = w.drewN n := by
  have HH := Lib.hid h
  unfold bv
  by_cases hx : x.v = 0
  · have hz : (x * y).v = 0 := by rw [B.mul_v, hx, zero_mulN]
    rw [hx, hz]
    clear h
    go_enter Tryz.func49, Tryz.ntmps49
    go_wp2_with fail
    refine (is_yes _ b HH.out).mono ?_
    rintro e w' ⟨rfl, rfl⟩
    go_wp2
    go_ret
    exact ⟨rfl, 0, rfl⟩
  · by_cases hy : y.v = 0
    · have hz : (x * y).v = 0 := by rw [B.mul_v, hy, mulN_zero]
      have hx1 : (((x.v : Nat) : Int) == 0) = false := by simp; omega
      rw [hy, hz]
      clear h
      go_enter Tryz.func49, Tryz.ntmps49
      go_wp2_with fail
      refine (is_yes _ b HH.out).mono ?_
      rintro e w' ⟨rfl, rfl⟩
      go_wp2
      go_ret
      exact ⟨rfl, 0, rfl⟩
    · have hx1 : (((x.v : Nat) : Int) == 0) = false := by simp; omega
      have hy1 : (((y.v : Nat) : Int) == 0) = false := by simp; omega
      have lx := (log_facts (a := x.v) (by omega) x.lt).1
      have ly := (log_facts (a := y.v) (by omega) y.lt).1
      have dx := h.lg x.lt
      have dy := h.lg y.lt
      have de := h.ex (i := logN x.v + logN y.v) (by omega)
      have hz : (x * y).v = expN ((logN x.v + logN y.v) % 255) := by rw [B.mul_v]; unfold mulN; rw [if_neg (by omega)]
      rw [hz]
      have bx := x.lt
      have bY := y.lt
      generalize expN ((logN x.v + logN y.v) % 255) = z at *
      generalize logN x.v = p at *
      generalize logN y.v = q at *
      generalize x.v = xx at *
      generalize y.v = yy at *
      clear h hz
      go_enter Tryz.func49, Tryz.ntmps49
      go_wp2_with fail
      refine (is_yes _ b HH.out).mono ?_
      rintro e w' ⟨rfl, rfl⟩
      go_wp2_with fail
      go_quiet (fail)
      go_wp2
      go_ret
      exact ⟨rfl, _, rfl⟩
end -- CodeI

section -- CodeJ
open Go.RowKit Go.Maps

set_option maxRecDepth 100000
set_option maxHeartbeats 2000000

theorem finv_zero (w : World) (b : Nat) (h : FieldAt w b) :
    Calls Tryz.prog 82 #[.pointer (some ⟨b, 0, none⟩), bv 0] w fun e w' => e = .returned (.tuple #[bv 0, .int .i64 6]) ∧ w = w' := by
  have HH := Lib.hid h
  clear h
  show Calls _ _ #[_, .int .u8 0] _ _
  go_enter Tryz.func82, Tryz.ntmps82
  go_wp2_with fail
  refine (is_yes _ b HH.out).mono ?_
  rintro e w' ⟨rfl, rfl⟩
  go_wp2
  go_ret2
  exact ⟨rfl, rfl⟩

theorem finv_any (w : World) (b : Nat) (h : FieldAt w b) (x : B) (hx : x ≠ 0) :
    Calls Tryz.prog 82 #[.pointer (some ⟨b, 0, none⟩), bv x] w fun e w' => e = .returned (.tuple #[bv x.inv, .int .i64 0]) ∧ ∃ n, w' = w.drewN n := by
  have h0 : x.v ≠ 0 := fun e => hx (B.ext e)
  have HH := Lib.hid h
  have lx := (log_facts (a := x.v) (by omega) x.lt).1
  have dx := h.lg x.lt
  have de := h.ex (i := 255 - logN x.v) (by omega)
  have hz : x.inv.v = expN ((255 - logN x.v) % 255) := by unfold B.inv; rw [if_neg h0]; rfl
  have hx1 : (((x.v : Nat) : Int) == 0) = false := by simp; omega
  have bx := x.lt
  unfold bv
  rw [hz]
  generalize expN ((255 - logN x.v) % 255) = z at *
  generalize logN x.v = p at *
  generalize x.v = xx at *
  obtain ⟨q, hq, hq2⟩ : ∃ q : Nat, q = 255 - p ∧ (255 : Int) - p = q := ⟨255 - p, rfl, by omega⟩
  rw [← hq] at de
  have hq3 : q < 510 := by omega
  clear h hz h0 hq
  go_enter Tryz.func82, Tryz.ntmps82
  go_wp2_with fail
  refine (is_yes _ b HH.out).mono ?_
  rintro e w' ⟨rfl, rfl⟩
  go_wp2_with fail
  go_quiet (fail)
  go_wp2
  go_ret2
  exact ⟨rfl, _, rfl⟩

theorem fdiv_any (w : World) (b : Nat) (h : FieldAt w b) (x y : B) (hy : y ≠ 0) :
    Calls Tryz.prog 79 #[.pointer (some ⟨b, 0, none⟩), bv x, bv y] w fun e w' => e = .returned (.tuple #[bv (x * y.inv), .int .i64 0]) ∧ ∃ n, w' = w.drewN n := by
  have HH := Lib.hid h
  clear h
  have HI := Lib.hid (finv_any w b HH.out y hy)
  generalize hX : bv x = vx
  generalize hY : bv y = vy at *
  go_enter Tryz.func79, Tryz.ntmps79
  go_wp2_with fail
  refine HI.out.mono ?_
  rintro e w1 ⟨rfl, n1, rfl⟩
  have HM := Lib.hid (fmul_any (w.drewN n1) b HH.out x y.inv)
  rw [hX] at HM
  go_wp2_with fail
  refine HM.out.mono ?_
  rintro e w2 ⟨rfl, n2, rfl⟩
  go_wp2
  go_ret2
  exact ⟨rfl, _, rfl⟩
end -- CodeJ

end Go.Proofs.YtlmpagicjgldkaaGreat
