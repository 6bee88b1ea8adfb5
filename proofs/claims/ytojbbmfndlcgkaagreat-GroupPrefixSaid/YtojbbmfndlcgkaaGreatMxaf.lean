/-
  Walks of layer 1 (field): Inv, Div.
-/
import Derived.Test.YtojbbmfndlcgkaaGreatMxad
namespace Go.Proofs.YtojbbmfndlcgkaaGreat
open Go.RowKit Go.Maps

set_option maxRecDepth 100000
set_option maxHeartbeats 2000000

theorem finv_zero (w : World) (b : Nat) (h : FieldAt w b) :
    Calls Tryz.prog 87 #[.pointer (some ⟨b, 0, none⟩), bv 0] w fun e w' => e = .returned (.tuple #[bv 0, .int .i64 6]) ∧ w = w' := by
  have HH := Lib.hid h
  clear h
  show Calls _ _ #[_, .int .u8 0] _ _
  go_enter Tryz.func87, Tryz.ntmps87
  go_wp2_with fail
  refine (is_yes _ b HH.out).mono ?_
  rintro e w' ⟨rfl, rfl⟩
  go_wp2
  go_ret2
  exact ⟨rfl, rfl⟩

theorem finv_any (w : World) (b : Nat) (h : FieldAt w b) (x : B) (hx : x ≠ 0) :
    Calls Tryz.prog 87 #[.pointer (some ⟨b, 0, none⟩), bv x] w fun e w' => e = .returned (.tuple #[bv x.inv, .int .i64 0]) ∧ ∃ n, w' = w.drewN n := by
  have h0 : x.v ≠ 0 := fun e => hx (B.ext e)
  have HH := Lib.hid h
  have lx := (log_facts (a := x.v) (by omega) x.lt).1
  have dx := h.lg x.lt
  have de := h.ex (i := 255 - logN x.v) (by omega)
  have hz : x.inv.v = expN ((255 - logN x.v) % 255) := by unfold B.inv; rw [if_neg h0]; rfl
  have hx1 : (((x.v : Nat) : Int) == 0) = false := by simp; omega
  have bx := x.lt
  unfold bv
  rw [hz]
  generalize expN ((255 - logN x.v) % 255) = z at *
  generalize logN x.v = p at *
  generalize x.v = xx at *
  obtain ⟨q, hq, hq2⟩ : ∃ q : Nat, q = 255 - p ∧ (255 : Int) - p = q := ⟨255 - p, rfl, by omega⟩
  rw [← hq] at de
  have hq3 : q < 510 := by omega
  clear h hz h0 hq
  go_enter Tryz.func87, Tryz.ntmps87
  go_wp2_with fail
  refine (is_yes _ b HH.out).mono ?_
  rintro e w' ⟨rfl, rfl⟩
  go_wp2_with fail
  go_quiet (fail)
  go_wp2
  go_ret2
  exact ⟨rfl, _, rfl⟩

theorem fdiv_any (w : World) (b : Nat) (h : FieldAt w b) (x y : B) (hy : y ≠ 0) :
    Calls Tryz.prog 70 #[.pointer (some ⟨b, 0, none⟩), bv x, bv y] w fun e w' => e = .returned (.tuple #[bv (x * y.inv), .int .i64 0]) ∧ ∃ n, w' = w.drewN n := by
  have HH := Lib.hid h
  clear h
  have HI := Lib.hid (finv_any w b HH.out y hy)
  generalize hX : bv x = vx
  generalize hY : bv y = vy at *
  go_enter Tryz.func70, Tryz.ntmps70
  go_wp2_with fail
  refine HI.out.mono ?_
  rintro e w1 ⟨rfl, n1, rfl⟩
  have HM := Lib.hid (fmul_any (w.drewN n1) b HH.out x y.inv)
  rw [hX] at HM
  go_wp2_with fail
  refine HM.out.mono ?_
  rintro e w2 ⟨rfl, n2, rfl⟩
  go_wp2
  go_ret2
  exact ⟨rfl, _, rfl⟩

end Go.Proofs.YtojbbmfndlcgkaaGreat
