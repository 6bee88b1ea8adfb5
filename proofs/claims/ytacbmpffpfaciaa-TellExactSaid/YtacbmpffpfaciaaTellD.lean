/-
  Walks of layer 22's law: Pick, SameNote, awake.
-/
import Derived.Test.YtacbmpffpfaciaaTellC
namespace Go.Proofs.Ytacbmpffpfaciaa
open Go.RowKit Go.Maps Go.Shelf Go.Sort

set_option maxRecDepth 100000
set_option maxHeartbeats 2000000

theorem pick_any (w : World) (x n : Int) (hn : 1 ≤ n) (hn2 : n ≤ 1000000) (hx : Wf64 x) :
    Calls Try.prog 19 #[.int .i64 x, .int .i64 n] w fun e w' => e = .returned (.int .i64 (x % n)) ∧ w = w' := by
  obtain ⟨x1, x2⟩ := hx
  have hne : (n == 0) = false := by simp; omega
  by_cases h0 : 0 ≤ x
  · have r1 := Int.emod_nonneg x (show n ≠ 0 by omega)
    go_enter Try.func19, Try.ntmps19
    go_wp2
    go_ret
    exact ⟨rfl, rfl⟩
  · have r1 := Int.emod_nonneg x (show n ≠ 0 by omega)
    have r2 := Int.emod_lt_of_pos x (show 0 < n by omega)
    by_cases hz : x % n = 0
    · have et : x.tmod n = 0 := by
        rw [Int.tmod_eq_emod, if_pos (Or.inr (Int.dvd_of_emod_eq_zero hz)), hz]; rfl
      rw [hz]
      have hlt : ¬ x.tmod n < 0 := by omega
      have ET := Lib.hid et
      clear et hz r1 r2
      go_enter Try.func19, Try.ntmps19
      go_wp2
      go_ret
      exact ⟨by rw [← ET.out]; rfl, rfl⟩
    · have et : x.tmod n = x % n - n := by
        rw [Int.tmod_eq_emod, if_neg (by intro hh; rcases hh with hh | hh; omega; exact hz (Int.emod_eq_zero_of_dvd hh))]; omega
      have hlt : x.tmod n < 0 := by omega
      have hge : -1000000 ≤ x.tmod n := by omega
      have ET := Lib.hid (show x.tmod n + n = x % n by omega)
      clear et hz r1 r2
      go_enter Try.func19, Try.ntmps19
      go_wp2
      go_ret
      exact ⟨by rw [← ET.out]; rfl, rfl⟩

theorem sameNote_true (w : World) (s q n : Int) (v1 v2 : Value) (cs : List (Int × Int)) (h1 : CountsAt w v1 cs) (h2 : CountsAt w v2 cs) (hl : cs.length ≤ 140737488355328) :
    Calls Try.prog 22 #[.agg #[.int .i64 s, .int .i64 q, .int .i64 n, v1], .agg #[.int .i64 s, .int .i64 q, .int .i64 n, v2]] w (BoolPost true w) := by
  obtain ⟨p1, c1, rfl⟩ := h1.shape
  obtain ⟨p2, c2, rfl⟩ := h2.shape
  have k2 : Kept (fun _ => False) w ((w.alloc (.cells #[.int .i64 s, .int .i64 q, .int .i64 n, .slice p1 cs.length c1] 48)).alloc (.cells #[.int .i64 s, .int .i64 q, .int .i64 n, .slice p2 cs.length c2] 48)) :=
    (Kept.alloc (fun _ => False) w _).trans (Kept.alloc (fun _ => False) _ _) (fun _ _ h => h)
  have HS := Lib.hid (sameCounts_true _ _ _ cs (h1.kept k2 (fun _ _ h => h)) (h2.kept k2 (fun _ _ h => h)) hl)
  clear h1 h2
  go_enter Try.func22, Try.ntmps22
  go_wp2_with fail
  refine HS.out.mono ?_
  rintro e w1 ⟨rfl, hk⟩
  go_wp2
  go_ret
  exact ⟨rfl, k2.trans hk (fun _ _ h => h)⟩

def awG : Int → Int := upd (upd emptyF 3 1) 3 1
theorem awG_counts : countsOf 9 awG = [(3, 2)] := by decide

theorem tawake_any (w : World) :
    Calls Try.prog 16 #[] w fun e w' => e = .returned (.bool true) ∧ Below w.heap.size w w' := by
  go_enter Try.func16, Try.ntmps16
  go_wp2_with fail
  refine (tnew_yes _ 4 10 9 (by omega) (by omega) (by omega) (by omega) (by omega) (by omega)).mono ?_
  rintro e w1 ⟨bt, be, bv, br, b, bm, rfl, hh1, hb1, hlt1, _, _, _, _, hlt2⟩
  have H1 := Lib.hid hh1
  clear hh1
  go_wp2_with fail
  refine (closed_ok _ H1.out 3 (by omega) (by omega) (fun k => by simp [emptyF])).mono ?_
  rintro e w2 ⟨rfl, hh2, hk2⟩
  have H2 := Lib.hid hh2
  clear hh2
  go_wp2_with fail
  refine (closed_ok _ H2.out 3 (by omega) (by omega) (fun k => by simp [emptyF, upd]; split <;> omega)).mono ?_
  rintro e w3 ⟨rfl, hh3, hk3⟩
  have H3 : Hid (TellerAt w3 bt be bv br b bm 9 4 10 0 awG) := Lib.hid hh3
  clear hh3
  go_wp2_with fail
  refine (tick_no _ H3.out 9 (by decide)).mono ?_
  rintro e w4 ⟨rfl, hk4⟩
  have H4 := Lib.hid (H3.out.kept hk4 (fun _ h => h.elim))
  go_wp2_with fail
  refine (tick_yes _ (H4.out.kept (Kept.alloc (fun _ => False) _ _) (fun _ h => h.elim)) 10 (by decide)).mono ?_
  rintro e w5 ⟨v, rfl, hr5, hh5, hk5⟩
  rw [awG_counts] at hr5
  obtain ⟨p5, c5, rfl⟩ := (countsAt_of_row hr5).shape
  have H5 := Lib.hid hh5
  have HR5 := Lib.hid hr5
  clear hh5 hr5
  go_wp2_with fail
  refine (tick_no _ (H5.out.kept (Kept.alloc (fun _ => False) _ _) (fun _ h => h.elim)) 20 (by decide)).mono ?_
  rintro e w6 ⟨rfl, hk6⟩
  have kk : Kept (fun _ => False) w5 w6 := (Kept.alloc (fun _ => False) w5 _).trans hk6 (fun _ _ h => h)
  have z0 : w6.cell? ⟨w5.heap.size, 0, none⟩ = some (.int .i64 4) := (hk6.cell (p := ⟨w5.heap.size, 0, none⟩) (by simp) (fun h => h)).trans (by simp)
  have z1 : w6.cell? ⟨w5.heap.size, 1, none⟩ = some (.int .i64 1) := (hk6.cell (p := ⟨w5.heap.size, 1, none⟩) (by simp) (fun h => h)).trans (by simp)
  have z2 : w6.cell? ⟨w5.heap.size, 2, none⟩ = some (.int .i64 9) := (hk6.cell (p := ⟨w5.heap.size, 2, none⟩) (by simp) (fun h => h)).trans (by simp)
  have z3 : w6.cell? ⟨w5.heap.size, 3, none⟩ = some (.slice p5 1 c5) := (hk6.cell (p := ⟨w5.heap.size, 3, none⟩) (by simp) (fun h => h)).trans (by simp)
  have zs : w5.heap.size < w6.heap.size := by have := hk6.size; simp at this; omega
  have q5 : Kept (fun i => i = bt ∨ i = bm) w4 w5 := (Kept.alloc (fun i => i = bt ∨ i = bm) w4 _).trans hk5 (fun _ _ h => h)
  have q6 : Kept (fun _ => False) w6 ((w6.alloc (.cells #[.int .i64 0, .int .i64 0, .int .i64 0, .slice none 0 0] 48)).alloc (.cells #[.int .i64 3, .int .i64 2] 32)) := (Kept.alloc (fun _ => False) w6 _).trans (Kept.alloc (fun _ => False) _ _) (fun _ _ h => h)
  have hC1 := (((countsAt_of_row HR5.out).kept kk (fun _ _ h => h))).kept q6 (fun _ _ h => h)
  have hC2 : CountsAt ((w6.alloc (.cells #[.int .i64 0, .int .i64 0, .int .i64 0, .slice none 0 0] 48)).alloc (.cells #[.int .i64 3, .int .i64 2] 32)) (.slice (some ⟨w6.heap.size + 1, 0, none⟩) 1 1) [(3, 2)] := by
    refine .inr ⟨w6.heap.size + 1, 0, 1, rfl, by simp, fun j c hj => ?_⟩
    have hb0 := World.cell?_alloc_new (w6.alloc (.cells #[.int .i64 0, .int .i64 0, .int .i64 0, .slice none 0 0] 48)) #[.int .i64 3, .int .i64 2] 32 0
    have hb1 := World.cell?_alloc_new (w6.alloc (.cells #[.int .i64 0, .int .i64 0, .int .i64 0, .slice none 0 0] 48)) #[.int .i64 3, .int .i64 2] 32 1
    rw [World.size_alloc] at hb0 hb1
    match j, hj with
    | 0, hj => obtain rfl : (3, 2) = c := by simpa using hj
               exact ⟨hb0, hb1⟩
  have HS := Lib.hid (sameCounts_true _ _ _ _ hC1 hC2 (by simp))
  clear hC1 hC2
  go_wp2_with fail
  refine HS.out.mono ?_
  rintro e w7 ⟨rfl, hk7⟩
  go_wp2
  go_ret
  refine ⟨rfl, ?_⟩
  have k1 := Kept.below hb1
  have k2 := k1.trans hk2 (fun i h1 h2 => by omega)
  have k3 := k2.trans hk3 (fun i h1 h2 => by omega)
  have k4 := k3.trans hk4 (fun i h1 h2 => h2)
  have k5 := k4.trans q5 (fun i h1 h2 => by omega)
  have k6 := k5.trans kk (fun i h1 h2 => h2)
  have k7 := (k6.trans q6 (fun i h1 h2 => h2)).trans hk7 (fun i h1 h2 => h2)
  exact k7.toBelow (Nat.le_refl _) (fun i h => h.elim)

end Go.Proofs.Ytacbmpffpfaciaa
