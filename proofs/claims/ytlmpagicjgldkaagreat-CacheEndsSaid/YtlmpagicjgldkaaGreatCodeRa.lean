/-
  Walks of layer 3 (rows): scale, add.
-/
import Derived.Test.YtlmpagicjgldkaaGreatMxag
import Derived.Test.YtlmpagicjgldkaaGreatMxad
import Derived.Test.YtlmpagicjgldkaaGreatQuietTail
namespace Go.Proofs.YtlmpagicjgldkaaGreat
open Go.RowKit Go.Maps
set_option linter.unusedVariables false
set_option maxRecDepth 100000
set_option maxHeartbeats 2000000

/-- A row, told place by place; one that is worked out as far as t. -/
def rowL (n : Nat) (f : Nat → B) : List B := (List.range n).map f
def progL (n : Nat) (f g : Nat → B) (t : Nat) : List B := rowL n fun i => if i < t then f i else g i
theorem rowL_len (n : Nat) (f : Nat → B) : (rowL n f).length = n := by simp [rowL]
theorem rowL_get {n i : Nat} (f : Nat → B) (h : i < n) : (rowL n f).getD i 0 = f i := getD_range _ _ h
theorem rowL_congr {n : Nat} {f g : Nat → B} (h : ∀ i, i < n → f i = g i) : rowL n f = rowL n g := List.map_congr_left fun i hi => h i (List.mem_range.1 hi)
theorem progL_len (n : Nat) (f g : Nat → B) (t : Nat) : (progL n f g t).length = n := rowL_len _ _
theorem progL_get {n t : Nat} (f g : Nat → B) (h : t < n) : (progL n f g t).getD t 0 = g t := by
  unfold progL
  rw [rowL_get _ h, if_neg (by omega)]
theorem progL_set {n t : Nat} (f g : Nat → B) (h : t < n) : (progL n f g t).set t (f t) = progL n f g (t + 1) := by
  apply List.ext_getElem
  · simp [progL, rowL]
  · intro i h1 h2
    simp [progL, rowL] at h1
    rw [List.getElem_set]
    simp only [progL, rowL, List.getElem_map, List.getElem_range]
    by_cases e : t = i
    · subst e; rw [if_pos rfl, if_pos (by omega)]
    · rw [if_neg e]
      by_cases q : i < t
      · rw [if_pos q, if_pos (by omega)]
      · rw [if_neg q, if_neg (by omega)]
theorem progL_zero (n : Nat) (f g : Nat → B) : progL n f g 0 = rowL n g := rowL_congr fun i _ => if_neg (by omega)
theorem progL_all (n : Nat) (f g : Nat → B) : progL n f g n = rowL n f := rowL_congr fun i h => if_pos h
theorem list_rowL (l : List B) : l = rowL l.length fun i => l.getD i 0 := by
  apply List.ext_getElem
  · simp [rowL]
  · intro i h1 h2
    simp [rowL, List.getD_eq_getElem?_getD, List.getElem?_eq_getElem h1]

theorem scale_any (w : World) (bf g n c : Nat) (f : Nat → B) (y : B) (hF : FieldAt w bf) (hR : RowC w g c (rowL n f)) (hg : bf ≠ g) (hn : n ≤ 1000000000) :
    Calls Tryz.prog 83 #[.agg #[.pointer (some ⟨bf, 0, none⟩)], .slice (some ⟨g, 0, none⟩) n c, bv y] w fun e w' => (∃ v, e = .returned v) ∧ RowC w' g c (rowL n fun i => f i * y) ∧ Kept (fun i => i = g) w w' := by
  have HF := Lib.hid hF
  have HR := Lib.hid hR
  have hgl := hR.lt
  have hfl := hF.lt
  clear hF hR
  go_enter Tryz.func83, Tryz.ntmps83
  go_wp2
  have kA := Kept.alloc (fun i => i = g) w (.cells #[.pointer (some ⟨bf, 0, none⟩)] 142)
  have kA0 := Kept.alloc (fun _ => False) w (.cells #[.pointer (some ⟨bf, 0, none⟩)] 142)
  have e0 : (w.alloc (.cells #[.pointer (some ⟨bf, 0, none⟩)] 142)).cell? ⟨w.heap.size, 0, none⟩ = some (.pointer (some ⟨bf, 0, none⟩)) := World.cell?_alloc_new w _ _ 0
  have HR1 := Lib.hid (HR.out.kept kA0 (fun h => h))
  have HF1 := Lib.hid (HF.out.kept kA0 (fun h => h))
  have sA : w.heap.size < (w.alloc (.cells #[.pointer (some ⟨bf, 0, none⟩)] 142)).heap.size := by simp
  generalize (w.alloc (.cells #[.pointer (some ⟨bf, 0, none⟩)] 142)) = w1 at *
  have HZ := Lib.hid (progL_zero n (fun i => f i * y) f)
  go_loopw [6, 9] (fun _ i wr => ∃ t : Nat, t ≤ n ∧ i = .int .i64 (t : Int) ∧ RowC wr g c (progL n (fun i => f i * y) f t) ∧ Kept (fun i => i = g) w1 wr) (fun _ i _ => n - (intOf i).toNat)
  case atStart => exact ⟨0, Nat.zero_le _, rfl, by rw [HZ.out]; exact HR1.out, Kept.refl _ _⟩
  case round =>
    obtain ⟨t, ht, rfl, hr, kk⟩ := hrel
    have HR2 := Lib.hid hr
    clear hr
    by_cases hlt : t < n
    · have d0 := (kk.at1 0 (b := w.heap.size) (by omega) (by omega)).trans e0
      have d1 := HR2.out.cell (i := t) (by rw [progL_len]; exact hlt)
      rw [progL_get _ _ hlt] at d1
      have d2 := HR2.out.fz t
      have HF2 := Lib.hid (HF1.out.kept kk hg)
      have HS := Lib.hid (progL_set (fun i => f i * y) f hlt)
      obtain ⟨x, hx⟩ : ∃ x, f t = x := ⟨_, rfl⟩
      rw [hx] at d1
      have HX := Lib.hid hx
      clear hx
      go_wp2_with fail
      refine wp_quiet_store 11 (by kernel_rfl) (by kernel_rfl) ?_
      simp only [List.take_succ_cons, List.take_zero, List.drop_succ_cons, List.drop_zero]
      repeat (quiet_step ((go_at_call 49; exact q_one (fmul_any _ bf (by exact HF2.out) x y))))
      refine wpQuiet_nil ?_
      rintro w5 ⟨nq, rfl⟩
      go_wp2
      refine calmQ.normal ?_
      go_wp2
      go_roundw
      case rel =>
        refine ⟨t + 1, by omega, by go_num, ?_, (kk.drewN nq).trans (Kept.set1 _ _ _ _) (fun _ _ h => h)⟩
        have := (show RowC (wr.drewN nq) g c (progL n (fun i => f i * y) f t) from HR2.out).set (i := t) (by rw [progL_len]; exact hlt) (x * y)
        rw [← HX.out, HS.out] at this
        rw [← HX.out]
        exact this
      case measure => simp [intOf]; omega
    · obtain rfl : t = n := by omega
      have hr := HR2.out
      rw [progL_all] at hr
      have HR3 := Lib.hid hr
      clear hr
      go_wp2
      go_end0
      exact ⟨⟨_, rfl⟩, HR3.out, kA.trans kk (fun _ _ h => h)⟩

theorem add_zero_any (w : World) (bf : Nat) (v1 v2 : Value) :
    Calls Tryz.prog 84 #[.agg #[.pointer (some ⟨bf, 0, none⟩)], v1, v2, bv 0] w fun e w' => (∃ v, e = .returned v) ∧ Kept (fun _ => False) w w' := by
  show Calls _ _ #[_, _, _, .int .u8 0] _ _
  go_enter Tryz.func84, Tryz.ntmps84
  go_wp2
  refine bodyPost_ret (results_none rfl _ _ _) rfl ?_
  exact ⟨⟨_, rfl⟩, Kept.alloc _ _ _⟩

theorem add_ne_any (w : World) (bf g n c go oo mo co : Nat) (f h : Nat → B) (y : B) (hF : FieldAt w bf) (hR : RowC w g c (rowL n f)) (hg : bf ≠ g) (hn : n ≤ 1000000000) (hne : go ≠ g) (hmo : n ≤ mo) (hmo2 : mo ≤ 1000000000)
    (hO : ∀ i, i < n → w.cell? ⟨go, oo + i, none⟩ = some (bv (h i))) (hy : y ≠ 0) :
    Calls Tryz.prog 84 #[.agg #[.pointer (some ⟨bf, 0, none⟩)], .slice (some ⟨g, 0, none⟩) n c, .slice (some ⟨go, oo, none⟩) mo co, bv y] w fun e w' => (∃ v, e = .returned v) ∧ RowC w' g c (rowL n fun i => f i + h i * y) ∧ Kept (fun i => i = g) w w' := by
  have HF := Lib.hid hF
  have HR := Lib.hid hR
  have HO := Lib.hid hO
  have hgl := hR.lt
  have hfl := hF.lt
  have hy0 : y.v ≠ 0 := fun e => hy (B.ext e)
  have hy1 : (((y.v : Nat) : Int) == 0) = false := by simp; omega
  clear hF hR hO hy hy0
  go_enter Tryz.func84, Tryz.ntmps84
  go_wp2
  have kA := Kept.alloc (fun i => i = g) w (.cells #[.pointer (some ⟨bf, 0, none⟩)] 142)
  have kA0 := Kept.alloc (fun _ => False) w (.cells #[.pointer (some ⟨bf, 0, none⟩)] 142)
  have e0 : (w.alloc (.cells #[.pointer (some ⟨bf, 0, none⟩)] 142)).cell? ⟨w.heap.size, 0, none⟩ = some (.pointer (some ⟨bf, 0, none⟩)) := World.cell?_alloc_new w _ _ 0
  have HR1 := Lib.hid (HR.out.kept kA0 (fun h => h))
  have HF1 := Lib.hid (HF.out.kept kA0 (fun h => h))
  have sA : w.heap.size < (w.alloc (.cells #[.pointer (some ⟨bf, 0, none⟩)] 142)).heap.size := by simp
  generalize (w.alloc (.cells #[.pointer (some ⟨bf, 0, none⟩)] 142)) = w1 at *
  have HZ := Lib.hid (progL_zero n (fun i => f i + h i * y) f)
  go_loopw [8, 13] (fun _ i wr => ∃ t : Nat, t ≤ n ∧ i = .int .i64 (t : Int) ∧ RowC wr g c (progL n (fun i => f i + h i * y) f t) ∧ Kept (fun i => i = g) w1 wr) (fun _ i _ => n - (intOf i).toNat)
  case atStart => exact ⟨0, Nat.zero_le _, rfl, by rw [HZ.out]; exact HR1.out, Kept.refl _ _⟩
  case round =>
    obtain ⟨t, ht, rfl, hr, kk⟩ := hrel
    have HR2 := Lib.hid hr
    clear hr
    by_cases hlt : t < n
    · have d0 := (kk.at1 0 (b := w.heap.size) (by omega) (by omega)).trans e0
      have d1 := HR2.out.cell (i := t) (by rw [progL_len]; exact hlt)
      rw [progL_get _ _ hlt] at d1
      have d2 := HR2.out.fz t
      have hlt3 : t < mo := by omega
      have hot := HO.out t hlt
      have hol := blt hot
      have d3 := (kk.at1 (oo + t) (b := go) (by omega) hne).trans ((kA0.at0 (oo + t) (b := go) hol).trans hot)
      clear hot
      have HF2 := Lib.hid (HF1.out.kept kk hg)
      have HS := Lib.hid (progL_set (fun i => f i + h i * y) f hlt)
      obtain ⟨x, hx⟩ : ∃ x, f t = x := ⟨_, rfl⟩
      rw [hx] at d1
      obtain ⟨z, hz⟩ : ∃ z, h t = z := ⟨_, rfl⟩
      rw [hz] at d3
      have HS2 := Lib.hid (show f t + h t * y = x + z * y by rw [hx, hz])
      clear hx hz
      go_wp2_with fail
      refine wp_quiet_store 16 (by kernel_rfl) (by kernel_rfl) ?_
      simp only [List.take_succ_cons, List.take_zero, List.drop_succ_cons, List.drop_zero]
      repeat (quiet_step (first
        | (go_at_call 49; exact q_one (fmul_any _ bf (by exact HF2.out) z y))
        | (go_at_call 48; exact q_one_same (fadd_any _ x (z * y)))))
      refine wpQuiet_nil ?_
      rintro w5 ⟨nq, rfl⟩
      go_wp2
      refine calmQ.normal ?_
      go_wp2
      go_roundw
      case rel =>
        refine ⟨t + 1, by omega, by go_num, ?_, (kk.drewN nq).trans (Kept.set1 _ _ _ _) (fun _ _ h => h)⟩
        have := (show RowC (wr.drewN nq) g c (progL n (fun i => f i + h i * y) f t) from HR2.out).set (i := t) (by rw [progL_len]; exact hlt) (x + z * y)
        rw [← HS2.out, HS.out] at this
        rw [← HS2.out]
        exact this
      case measure => simp [intOf]; omega
    · obtain rfl : t = n := by omega
      have hr := HR2.out
      rw [progL_all] at hr
      have HR3 := Lib.hid hr
      clear hr
      go_wp2
      go_end0
      exact ⟨⟨_, rfl⟩, HR3.out, kA.trans kk (fun _ _ h => h)⟩

/-- add, whatever the byte. -/
theorem add_any (w : World) (bf g n c go oo mo co : Nat) (f h : Nat → B) (y : B) (hF : FieldAt w bf) (hR : RowC w g c (rowL n f)) (hg : bf ≠ g) (hn : n ≤ 1000000000) (hne : go ≠ g) (hmo : n ≤ mo) (hmo2 : mo ≤ 1000000000)
    (hO : ∀ i, i < n → w.cell? ⟨go, oo + i, none⟩ = some (bv (h i))) :
    Calls Tryz.prog 84 #[.agg #[.pointer (some ⟨bf, 0, none⟩)], .slice (some ⟨g, 0, none⟩) n c, .slice (some ⟨go, oo, none⟩) mo co, bv y] w fun e w' => (∃ v, e = .returned v) ∧ RowC w' g c (rowL n fun i => f i + h i * y) ∧ Kept (fun i => i = g) w w' := by
  by_cases hy : y = 0
  · subst hy
    refine (add_zero_any w bf _ _).mono ?_
    rintro e w' ⟨he, hk⟩
    refine ⟨he, ?_, hk.mono (fun _ _ h => h.elim)⟩
    have : (rowL n fun i => f i + h i * 0) = rowL n f := rowL_congr fun i _ => by grind
    rw [this]
    exact hR.kept hk (fun h => h)
  · exact add_ne_any w bf g n c go oo mo co f h y hF hR hg hn hne hmo hmo2 hO hy

end Go.Proofs.YtlmpagicjgldkaaGreat
