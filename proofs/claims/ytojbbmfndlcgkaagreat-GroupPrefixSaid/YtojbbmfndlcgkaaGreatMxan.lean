/-
  CodeRa: Walks of layer 3 (rows): scale, add.
  CodeRb: A matrix that a call owns; walks of layer 3 (rows): steps's closure, IndexFunc.
-/
import Derived.Test.YtojbbmfndlcgkaaGreatMxak
import Derived.Test.YtojbbmfndlcgkaaGreatMxaf
import Derived.Test.YtojbbmfndlcgkaaGreatQuietTail
namespace Go.Proofs.YtojbbmfndlcgkaaGreat

section -- CodeRa
open Go.RowKit Go.Maps
set_option linter.unusedVariables false
set_option maxRecDepth 100000
set_option maxHeartbeats 2000000

/-- A row, told place by place; one that is worked out as far as t. -/
def rowL (n : Nat) (f : Nat → B) : List B := (List.range n).map f
def progL (n : Nat) (f g : Nat → B) (t : Nat) : List B := rowL n fun i => if i < t then f i else g i
theorem rowL_len (n : Nat) (f : Nat → B) : (rowL n f).length = n := by simp [rowL]
theorem rowL_get {n i : Nat} (f : Nat → B) (h : i < n) : (rowL n f).getD i 0 = f i := getD_range _ _ h
theorem rowL_congr {n : Nat} {f g : Nat → B} (h : ∀ i, i < n → f i = g i) : rowL n f = rowL n g := List.map_congr_left fun i hi => h i (List.mem_range.1 hi)
theorem progL_len (n : Nat) (f g : Nat → B) (t : Nat) : (progL n f g t).length = n := rowL_len _ _
theorem progL_get {n t : Nat} (f g : Nat → B) (h : t < n) : (progL n f g t).getD t 0 = g t := by
  unfold progL
  rw [rowL_get _ h, if_neg (by omega)]
theorem progL_set {n t : Nat} (f g : Nat → B) (h : t < n) : (progL n f g t).set t (f t) = progL n f g (t + 1) := by
  apply List.ext_getElem
  · simp [progL, rowL]
  · intro i h1 h2
    simp [progL, rowL] at h1
    rw [List.getElem_set]
    simp only [progL, rowL, List.getElem_map, List.getElem_range]
    by_cases e : t = i
    · subst e; rw [if_pos rfl, if_pos (by omega)]
    · rw [if_neg e]
      by_cases q : i < t
      · rw [if_pos q, if_pos (by omega)]
      · rw [if_neg q, if_neg (by omega)]
theorem progL_zero (n : Nat) (f g : Nat → B) : progL n f g 0 = rowL n g := rowL_congr fun i _ => if_neg (by omega)
theorem progL_all (n : Nat) (f g : Nat → B) : progL n f g n = rowL n f := rowL_congr fun i h => if_pos h
theorem list_rowL (l : List B) : l = rowL l.length fun i => l.getD i 0 := by
  apply List.ext_getElem
  · simp [rowL]
  · intro i h1 h2
    simp [rowL, List.getD_eq_getElem?_getD, List.getElem?_eq_getElem h1]

theorem scale_any (w : World) (bf g n c : Nat) (f : Nat → B) (y : B) (hF : FieldAt w bf) (hR : RowC w g c (rowL n f)) (hg : bf ≠ g) (hn : n ≤ 1000000000) :
    Calls Tryz.prog 105 #[.agg #[.pointer (some ⟨bf, 0, none⟩)], .slice (some ⟨g, 0, none⟩) n c, bv y] w fun e w' => (∃ v, e = .returned v) ∧ RowC w' g c (rowL n fun i => f i * y) ∧ Kept (fun i => i = g) w w' := by
  have HF := Lib.hid hF
  have HR := Lib.hid hR
  have hgl := hR.lt
  have hfl := hF.lt
  clear hF hR
  go_enter Tryz.func105, Tryz.ntmps105
  go_wp2
  have kA := Kept.alloc (fun i => i = g) w (.cells #[.pointer (some ⟨bf, 0, none⟩)] 157)
  have kA0 := Kept.alloc (fun _ => False) w (.cells #[.pointer (some ⟨bf, 0, none⟩)] 157)
  have e0 : (w.alloc (.cells #[.pointer (some ⟨bf, 0, none⟩)] 157)).cell? ⟨w.heap.size, 0, none⟩ = some (.pointer (some ⟨bf, 0, none⟩)) := World.cell?_alloc_new w _ _ 0
  have HR1 := Lib.hid (HR.out.kept kA0 (fun h => h))
  have HF1 := Lib.hid (HF.out.kept kA0 (fun h => h))
  have sA : w.heap.size < (w.alloc (.cells #[.pointer (some ⟨bf, 0, none⟩)] 157)).heap.size := by simp
  generalize (w.alloc (.cells #[.pointer (some ⟨bf, 0, none⟩)] 157)) = w1 at *
  have HZ := Lib.hid (progL_zero n (fun i => f i * y) f)
  go_loopw [6, 9] (fun _ i wr => ∃ t : Nat, t ≤ n ∧ i = .int .i64 (t : Int) ∧ RowC wr g c (progL n (fun i => f i * y) f t) ∧ Kept (fun i => i = g) w1 wr) (fun _ i _ => n - (intOf i).toNat)
  case atStart => exact ⟨0, Nat.zero_le _, rfl, by rw [HZ.out]; exact HR1.out, Kept.refl _ _⟩
  case round =>
    obtain ⟨t, ht, rfl, hr, kk⟩ := hrel
    have HR2 := Lib.hid hr
    clear hr
    by_cases hlt : t < n
    · have d0 := (kk.at1 0 (b := w.heap.size) (by omega) (by omega)).trans e0
      have d1 := HR2.out.cell (i := t) (by rw [progL_len]; exact hlt)
      rw [progL_get _ _ hlt] at d1
      have d2 := HR2.out.fz t
      have HF2 := Lib.hid (HF1.out.kept kk hg)
      have HS := Lib.hid (progL_set (fun i => f i * y) f hlt)
      obtain ⟨x, hx⟩ : ∃ x, f t = x := ⟨_, rfl⟩
      rw [hx] at d1
      have HX := Lib.hid hx
      clear hx
      go_wp2_with fail
      refine wp_quiet_store 11 (by kernel_rfl) (by kernel_rfl) ?_
      simp only [List.take_succ_cons, List.take_zero, List.drop_succ_cons, List.drop_zero]
      repeat (quiet_step ((go_at_call 62; exact q_one (fmul_any _ bf (by exact HF2.out) x y))))
      refine wpQuiet_nil ?_
      rintro w5 ⟨nq, rfl⟩
      go_wp2
      refine calmQ.normal ?_
      go_wp2
      go_roundw
      case rel =>
        refine ⟨t + 1, by omega, by go_num, ?_, (kk.drewN nq).trans (Kept.set1 _ _ _ _) (fun _ _ h => h)⟩
        have := (show RowC (wr.drewN nq) g c (progL n (fun i => f i * y) f t) from HR2.out).set (i := t) (by rw [progL_len]; exact hlt) (x * y)
        rw [← HX.out, HS.out] at this
        rw [← HX.out]
        exact this
      case measure => simp [intOf]; omega
    · obtain rfl : t = n := by omega
      have hr := HR2.out
      rw [progL_all] at hr
      have HR3 := Lib.hid hr
      clear hr
      go_wp2
      go_end0
      exact ⟨⟨_, rfl⟩, HR3.out, kA.trans kk (fun _ _ h => h)⟩

theorem add_zero_any (w : World) (bf : Nat) (v1 v2 : Value) :
    Calls Tryz.prog 106 #[.agg #[.pointer (some ⟨bf, 0, none⟩)], v1, v2, bv 0] w fun e w' => (∃ v, e = .returned v) ∧ Kept (fun _ => False) w w' := by
  show Calls _ _ #[_, _, _, .int .u8 0] _ _
  go_enter Tryz.func106, Tryz.ntmps106
  go_wp2
  refine bodyPost_ret (results_none rfl _ _ _) rfl ?_
  exact ⟨⟨_, rfl⟩, Kept.alloc _ _ _⟩

theorem add_ne_any (w : World) (bf g n c go oo mo co : Nat) (f h : Nat → B) (y : B) (hF : FieldAt w bf) (hR : RowC w g c (rowL n f)) (hg : bf ≠ g) (hn : n ≤ 1000000000) (hne : go ≠ g) (hmo : n ≤ mo) (hmo2 : mo ≤ 1000000000)
    (hO : ∀ i, i < n → w.cell? ⟨go, oo + i, none⟩ = some (bv (h i))) (hy : y ≠ 0) :
    Calls Tryz.prog 106 #[.agg #[.pointer (some ⟨bf, 0, none⟩)], .slice (some ⟨g, 0, none⟩) n c, .slice (some ⟨go, oo, none⟩) mo co, bv y] w fun e w' => (∃ v, e = .returned v) ∧ RowC w' g c (rowL n fun i => f i + h i * y) ∧ Kept (fun i => i = g) w w' := by
  have HF := Lib.hid hF
  have HR := Lib.hid hR
  have HO := Lib.hid hO
  have hgl := hR.lt
  have hfl := hF.lt
  have hy0 : y.v ≠ 0 := fun e => hy (B.ext e)
  have hy1 : (((y.v : Nat) : Int) == 0) = false := by simp; omega
  clear hF hR hO hy hy0
  go_enter Tryz.func106, Tryz.ntmps106
  go_wp2
  have kA := Kept.alloc (fun i => i = g) w (.cells #[.pointer (some ⟨bf, 0, none⟩)] 157)
  have kA0 := Kept.alloc (fun _ => False) w (.cells #[.pointer (some ⟨bf, 0, none⟩)] 157)
  have e0 : (w.alloc (.cells #[.pointer (some ⟨bf, 0, none⟩)] 157)).cell? ⟨w.heap.size, 0, none⟩ = some (.pointer (some ⟨bf, 0, none⟩)) := World.cell?_alloc_new w _ _ 0
  have HR1 := Lib.hid (HR.out.kept kA0 (fun h => h))
  have HF1 := Lib.hid (HF.out.kept kA0 (fun h => h))
  have sA : w.heap.size < (w.alloc (.cells #[.pointer (some ⟨bf, 0, none⟩)] 157)).heap.size := by simp
  generalize (w.alloc (.cells #[.pointer (some ⟨bf, 0, none⟩)] 157)) = w1 at *
  have HZ := Lib.hid (progL_zero n (fun i => f i + h i * y) f)
  go_loopw [8, 13] (fun _ i wr => ∃ t : Nat, t ≤ n ∧ i = .int .i64 (t : Int) ∧ RowC wr g c (progL n (fun i => f i + h i * y) f t) ∧ Kept (fun i => i = g) w1 wr) (fun _ i _ => n - (intOf i).toNat)
  case atStart => exact ⟨0, Nat.zero_le _, rfl, by rw [HZ.out]; exact HR1.out, Kept.refl _ _⟩
  case round =>
    obtain ⟨t, ht, rfl, hr, kk⟩ := hrel
    have HR2 := Lib.hid hr
    clear hr
    by_cases hlt : t < n
    · have d0 := (kk.at1 0 (b := w.heap.size) (by omega) (by omega)).trans e0
      have d1 := HR2.out.cell (i := t) (by rw [progL_len]; exact hlt)
      rw [progL_get _ _ hlt] at d1
      have d2 := HR2.out.fz t
      have hlt3 : t < mo := by omega
      have hot := HO.out t hlt
      have hol := blt hot
      have d3 := (kk.at1 (oo + t) (b := go) (by omega) hne).trans ((kA0.at0 (oo + t) (b := go) hol).trans hot)
      clear hot
      have HF2 := Lib.hid (HF1.out.kept kk hg)
      have HS := Lib.hid (progL_set (fun i => f i + h i * y) f hlt)
      obtain ⟨x, hx⟩ : ∃ x, f t = x := ⟨_, rfl⟩
      rw [hx] at d1
      obtain ⟨z, hz⟩ : ∃ z, h t = z := ⟨_, rfl⟩
      rw [hz] at d3
      have HS2 := Lib.hid (show f t + h t * y = x + z * y by rw [hx, hz])
      clear hx hz
      go_wp2_with fail
      refine wp_quiet_store 16 (by kernel_rfl) (by kernel_rfl) ?_
      simp only [List.take_succ_cons, List.take_zero, List.drop_succ_cons, List.drop_zero]
      repeat (quiet_step (first
        | (go_at_call 62; exact q_one (fmul_any _ bf (by exact HF2.out) z y))
        | (go_at_call 61; exact q_one_same (fadd_any _ x (z * y)))))
      refine wpQuiet_nil ?_
      rintro w5 ⟨nq, rfl⟩
      go_wp2
      refine calmQ.normal ?_
      go_wp2
      go_roundw
      case rel =>
        refine ⟨t + 1, by omega, by go_num, ?_, (kk.drewN nq).trans (Kept.set1 _ _ _ _) (fun _ _ h => h)⟩
        have := (show RowC (wr.drewN nq) g c (progL n (fun i => f i + h i * y) f t) from HR2.out).set (i := t) (by rw [progL_len]; exact hlt) (x + z * y)
        rw [← HS2.out, HS.out] at this
        rw [← HS2.out]
        exact this
      case measure => simp [intOf]; omega
    · obtain rfl : t = n := by omega
      have hr := HR2.out
      rw [progL_all] at hr
      have HR3 := Lib.hid hr
      clear hr
      go_wp2
      go_end0
      exact ⟨⟨_, rfl⟩, HR3.out, kA.trans kk (fun _ _ h => h)⟩

/-- add, whatever the byte. -/
theorem add_any (w : World) (bf g n c go oo mo co : Nat) (f h : Nat → B) (y : B) (hF : FieldAt w bf) (hR : RowC w g c (rowL n f)) (hg : bf ≠ g) (hn : n ≤ 1000000000) (hne : go ≠ g) (hmo : n ≤ mo) (hmo2 : mo ≤ 1000000000)
    (hO : ∀ i, i < n → w.cell? ⟨go, oo + i, none⟩ = some (bv (h i))) :
    Calls Tryz.prog 106 #[.agg #[.pointer (some ⟨bf, 0, none⟩)], .slice (some ⟨g, 0, none⟩) n c, .slice (some ⟨go, oo, none⟩) mo co, bv y] w fun e w' => (∃ v, e = .returned v) ∧ RowC w' g c (rowL n fun i => f i + h i * y) ∧ Kept (fun i => i = g) w w' := by
  by_cases hy : y = 0
  · subst hy
    refine (add_zero_any w bf _ _).mono ?_
    rintro e w' ⟨he, hk⟩
    refine ⟨he, ?_, hk.mono (fun _ _ h => h.elim)⟩
    have : (rowL n fun i => f i + h i * 0) = rowL n f := rowL_congr fun i _ => by grind
    rw [this]
    exact hR.kept hk (fun h => h)
  · exact add_ne_any w bf g n c go oo mo co f h y hF hR hg hn hne hmo hmo2 hO hy
end -- CodeRa

section -- CodeRb
open Go.RowKit Go.Maps
set_option linter.unusedVariables false
set_option maxRecDepth 100000
set_option maxHeartbeats 2000000

/-- A matrix in memory: the outer block gm; row r in the block U r, of that capacity. -/
structure MatW (w : World) (gm k W : Nat) (U : Nat → Nat × Nat) (M : Nat → Nat → B) : Prop where
  outer : ∃ C : Array Value, w.heap[gm]? = some (.cells C 39 (0, 0)) ∧ C.size = k ∧ ∀ r, r < k → C[r]? = some (.slice (some ⟨(U r).1, 0, none⟩) W (U r).2)
  row : ∀ r, r < k → RowC w (U r).1 (U r).2 (rowL W (M r))
  inj : ∀ r s, r < k → s < k → (U r).1 = (U s).1 → r = s
  ne : ∀ r, r < k → (U r).1 ≠ gm

/-- The blocks of a matrix. -/
def matB (gm k : Nat) (U : Nat → Nat × Nat) (i : Nat) : Prop := i = gm ∨ ∃ r, r < k ∧ (U r).1 = i

section
variable {w w' : World} {gm k W : Nat} {U : Nat → Nat × Nat} {M : Nat → Nat → B}
theorem MatW.out (h : MatW w gm k W U M) {r : Nat} (hr : r < k) : w.cell? ⟨gm, r, none⟩ = some (.slice (some ⟨(U r).1, 0, none⟩) W (U r).2) := by
  obtain ⟨C, h1, h2, h3⟩ := h.outer
  rw [cell_of h1, h3 r hr]
theorem MatW.fz (h : MatW w gm k W U M) (o : Nat) : w.frozen? ⟨gm, o, none⟩ = false := by
  obtain ⟨C, h1, h2, h3⟩ := h.outer
  exact fz_of h1 o
theorem MatW.lt (h : MatW w gm k W U M) : gm < w.heap.size := by
  obtain ⟨C, h1, h2, h3⟩ := h.outer
  exact (Array.getElem?_eq_some_iff.1 h1).1
theorem MatW.cell (h : MatW w gm k W U M) {r j : Nat} (hr : r < k) (hj : j < W) : w.cell? ⟨(U r).1, j, none⟩ = some (bv (M r j)) := by
  have := (h.row r hr).cell (i := j) (by rw [rowL_len]; exact hj)
  rw [rowL_get _ hj] at this
  exact this
theorem MatW.kept {S : Nat → Prop} (h : MatW w gm k W U M) (hk : Kept S w w') (hS : ∀ i, matB gm k U i → ¬ S i) : MatW w' gm k W U M := by
  obtain ⟨C, h1, h2, h3⟩ := h.outer
  exact ⟨⟨C, (hk.block gm h.lt (hS gm (.inl rfl))).trans h1, h2, h3⟩, fun r hr => (h.row r hr).kept hk (hS _ (.inr ⟨r, hr, rfl⟩)), h.inj, h.ne⟩
theorem MatW.dr (h : MatW w gm k W U M) (n : Nat) : MatW (w.drewN n) gm k W U M := ⟨h.outer, h.row, h.inj, h.ne⟩
/-- A row turns. -/
theorem MatW.turn (h : MatW w gm k W U M) {r : Nat} (hr : r < k) {f : Nat → B} (hk : Kept (fun i => i = (U r).1) w w') (hR : RowC w' (U r).1 (U r).2 (rowL W f)) : MatW w' gm k W U (fun i => if i = r then f else M i) := by
  obtain ⟨C, h1, h2, h3⟩ := h.outer
  refine ⟨⟨C, (hk.block gm h.lt (fun e => h.ne r hr e.symm)).trans h1, h2, h3⟩, fun i hi => ?_, h.inj, h.ne⟩
  by_cases e : i = r
  · subst e
    have : (fun j => (if i = i then f else M i) j) = f := by simp
    simpa using hR
  · simp only [if_neg e]
    exact (h.row i hi).kept hk (fun q => e (h.inj i r hi hr q))
theorem MatW.congr {M' : Nat → Nat → B} (h : MatW w gm k W U M) (he : ∀ r j, r < k → j < W → M r j = M' r j) : MatW w gm k W U M' :=
  ⟨h.outer, fun r hr => by rw [← rowL_congr (fun j hj => he r j hr hj)]; exact h.row r hr, h.inj, h.ne⟩
/-- Two rows, one for another. -/
def swapU (U : Nat → Nat × Nat) (c p : Nat) : Nat → Nat × Nat := fun r => if r = c then U p else if r = p then U c else U r
theorem MatW.swap (h : MatW w gm k W U M) {c p : Nat} (hc : c < k) (hp : p < k) :
    MatW ((w.setCell ⟨gm, c, none⟩ (.slice (some ⟨(U p).1, 0, none⟩) W (U p).2)).setCell ⟨gm, p, none⟩ (.slice (some ⟨(U c).1, 0, none⟩) W (U c).2)) gm k W (swapU U c p) (swapM M c p) := by
  obtain ⟨C, h1, h2, h3⟩ := h.outer
  have k1 : Kept (fun i => i = gm) w ((w.setCell ⟨gm, c, none⟩ (.slice (some ⟨(U p).1, 0, none⟩) W (U p).2)).setCell ⟨gm, p, none⟩ (.slice (some ⟨(U c).1, 0, none⟩) W (U c).2)) :=
    (Kept.set1 _ _ _ _).trans (Kept.set1 _ _ _ _) (fun _ _ h => h)
  have hu : ∀ r, r < k → ∃ s, s < k ∧ swapU U c p r = U s ∧ swapM M c p r = M s ∧ (r = c → s = p) ∧ (r = p → s = c) ∧ (r ≠ c → r ≠ p → s = r) := by
    intro r hr
    unfold swapU swapM
    by_cases e1 : r = c
    · exact ⟨p, hp, by rw [if_pos e1], by rw [if_pos e1], fun _ => rfl, fun e => by omega, fun e => absurd e1 e⟩
    · by_cases e2 : r = p
      · exact ⟨c, hc, by rw [if_neg e1, if_pos e2], by rw [if_neg e1, if_pos e2], fun e => absurd e e1, fun _ => rfl, fun _ e => absurd e2 e⟩
      · exact ⟨r, hr, by rw [if_neg e1, if_neg e2], by rw [if_neg e1, if_neg e2], fun e => absurd e e1, fun e => absurd e e2, fun _ _ => rfl⟩
  refine ⟨⟨(C.setIfInBounds c _).setIfInBounds p _, heap_set (heap_set h1 _) _, by simpa using h2, fun r hr => ?_⟩, fun r hr => ?_, fun r s hr hs e => ?_, fun r hr => ?_⟩
  · unfold swapU
    by_cases e2 : r = p
    · subst e2
      rw [Array.getElem?_setIfInBounds_self_of_lt (by simp; omega)]
      by_cases e1 : r = c
      · subst e1; rw [if_pos rfl]
      · rw [if_neg e1, if_pos rfl]
    · rw [Array.getElem?_setIfInBounds_ne (fun e => e2 e.symm)]
      by_cases e1 : r = c
      · subst e1
        rw [Array.getElem?_setIfInBounds_self_of_lt (by omega), if_pos rfl]
      · rw [Array.getElem?_setIfInBounds_ne (fun e => e1 e.symm), if_neg e1, if_neg e2]
        exact h3 r hr
  · obtain ⟨s, hs, e1, e2, _⟩ := hu r hr
    rw [e1, e2]
    exact (h.row s hs).kept k1 (h.ne s hs)
  · obtain ⟨a, ha, a1, _, a3, a4, a5⟩ := hu r hr
    obtain ⟨b, hb, b1, _, b3, b4, b5⟩ := hu s hs
    rw [a1, b1] at e
    have hab := h.inj a b ha hb e
    by_cases r1 : r = c <;> by_cases r2 : r = p <;> by_cases s1 : s = c <;> by_cases s2 : s = p <;> simp_all
  · obtain ⟨s, hs, e1, _⟩ := hu r hr
    rw [e1]; exact h.ne s hs
theorem matB_swap {c p : Nat} (hc : c < k) (hp : p < k) {i : Nat} (h : matB gm k (swapU U c p) i) : matB gm k U i := by
  rcases h with h | ⟨r, hr, h⟩
  · exact .inl h
  · unfold swapU at h
    by_cases e1 : r = c
    · rw [if_pos e1] at h; exact .inr ⟨p, hp, h⟩
    · rw [if_neg e1] at h
      by_cases e2 : r = p
      · rw [if_pos e2] at h; exact .inr ⟨c, hc, h⟩
      · rw [if_neg e2] at h; exact .inr ⟨r, hr, h⟩
end

theorem steps1_any (w : World) (bc g c : Nat) (f : Nat → B) (n cp : Nat) (hb : w.cell? ⟨bc, 0, none⟩ = some (.int .i64 (c : Int))) (hr : w.cell? ⟨g, c, none⟩ = some (bv (f c))) (hc : c < n) (hn : n ≤ 1000000000) :
    Calls Tryz.prog 104 #[.slice (some ⟨g, 0, none⟩) n cp, .pointer (some ⟨bc, 0, none⟩)] w fun e w' => e = .returned (.bool ((f c).v != 0)) ∧ w = w' := by
  obtain ⟨x, hx⟩ : ∃ x, f c = x := ⟨_, rfl⟩
  rw [hx] at hr ⊢
  clear hx
  go_enter Tryz.func104, Tryz.ntmps104
  go_wp2
  go_ret
  refine ⟨?_, rfl⟩
  have := bne_cast x.v 0
  show Ending.returned (.bool ((x.v : Int) != 0)) = _
  rw [← this]; rfl
end -- CodeRb

end Go.Proofs.YtojbbmfndlcgkaaGreat
