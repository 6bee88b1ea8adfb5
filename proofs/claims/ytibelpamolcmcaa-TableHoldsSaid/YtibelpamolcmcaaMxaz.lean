/-
  TbE: Layer 18: how two entries stand; where an entry belongs.
  TbF: Layer 18: a row of entries in its table: find, remove, insert.
  TbG: Layer 18: what a group tells: its bytes, its header.
-/
import Derived.Test.YtibelpamolcmcaaMxay
import Derived.Test.YtibelpamolcmcaaShelf
namespace Go.Proofs.Ytibelpamolcmcaa

section -- TbE
open Go.RowKit Go.Maps
set_option linter.unusedVariables false
set_option linter.unusedSimpArgs false
set_option maxRecDepth 100000
set_option maxHeartbeats 4000000

/-- The first that is not 0. -/
theorem cor_any (w : World) (g : Nat) (a b : Int) (h0 : w.cell? ⟨g, 0, none⟩ = some (.int .i64 a)) (h1 : w.cell? ⟨g, 1, none⟩ = some (.int .i64 b)) :
    Calls Try.prog 42 #[.slice (some ⟨g, 0, none⟩) 2 2] w fun e w' => e = .returned (.int .i64 (if a ≠ 0 then a else b)) ∧ w = w' := by
  have H0 := Lib.hid h0
  have H1 := Lib.hid h1
  clear h0 h1
  go_enter Try.func42, Try.ntmps42
  go_wp2
  go_loopw [2, 5, 8] (fun v _ i wr => ∃ k : Nat, k ≤ 2 ∧ i = .int .i64 (k : Int) ∧ v = .int .i64 0 ∧ (1 ≤ k → a = 0) ∧ (2 ≤ k → b = 0) ∧ wr = w) (fun _ _ i _ => 2 - (intOf i).toNat)
  case atStart => exact ⟨0, by omega, rfl, rfl, fun h => absurd h (by omega), fun h => absurd h (by omega), rfl⟩
  case round =>
    obtain ⟨k, hk, rfl, rfl, ha, hb, rfl⟩ := hrel
    have c0 := H0.out
    have c1 := H1.out
    obtain rfl | rfl | rfl : k = 0 ∨ k = 1 ∨ k = 2 := by omega
    · by_cases e : a = 0
      · subst e
        go_wp2
        go_roundw
        case rel => exact ⟨1, by omega, by go_num, by first | rfl | trivial, fun _ => by first | rfl | trivial, fun h => absurd h (by omega), by first | rfl | trivial⟩
        case measure => simp [intOf]
      · have e1 : (a == 0) = false := by simpa using e
        go_wp2
        go_ret
        exact ⟨by simp [e], rfl⟩
    · have ha := ha (by omega)
      subst ha
      by_cases e : b = 0
      · subst e
        go_wp2
        go_roundw
        case rel => exact ⟨2, by omega, by go_num, by first | rfl | trivial, fun _ => by first | rfl | trivial, fun _ => by first | rfl | trivial, by first | rfl | trivial⟩
        case measure => simp [intOf]
      · have e1 : (b == 0) = false := by simpa using e
        go_wp2
        go_ret
        exact ⟨by simp, rfl⟩
    · have ha := ha (by omega)
      have hb := hb (by omega)
      subst ha hb
      go_wp2
      go_ret
      exact ⟨by simp, rfl⟩

/-- Ahead: by deadline, then by frame. -/
def AheadO (a b : Ent) : Prop := a.2.2 < b.2.2 ∨ (a.2.2 = b.2.2 ∧ a.2.1 < b.2.1)
instance (a b : Ent) : Decidable (AheadO a b) := by unfold AheadO; infer_instance
def ordO (a b : Ent) : Int := if Lib.compareInt a.2.2 b.2.2 ≠ 0 then Lib.compareInt a.2.2 b.2.2 else Lib.compareInt a.2.1 b.2.1
theorem ordO_neg (a b : Ent) : ordO a b < 0 ↔ AheadO a b := by
  unfold ordO AheadO Lib.compareInt
  split <;> split <;> (try split) <;> (try split) <;> simp_all <;> omega
theorem lit_twoO (w : World) (a b : Int) (t : TypeId) : (w.alloc (.cells #[.int .i64 a, .int .i64 b] t)).cell? ⟨w.heap.size, 0, none⟩ = some (.int .i64 a) ∧ (w.alloc (.cells #[.int .i64 a, .int .i64 b] t)).cell? ⟨w.heap.size, 1, none⟩ = some (.int .i64 b) :=
  ⟨(World.cell?_alloc_new w _ _ 0).trans rfl, (World.cell?_alloc_new w _ _ 1).trans rfl⟩
theorem order_any (w : World) (a b : Ent) :
    Calls Try.prog 24 #[.agg #[.pointer (some ⟨a.1, 0, none⟩), .int .i64 a.2.1, .int .i64 a.2.2], .agg #[.pointer (some ⟨b.1, 0, none⟩), .int .i64 b.2.1, .int .i64 b.2.2]] w fun e w' => e = .returned (.int .i64 (ordO a b)) ∧ Below w.heap.size w w' := by
  obtain ⟨ag, af, ad⟩ := a
  obtain ⟨bg, bf, bd⟩ := b
  have hO : ordO (ag, af, ad) (bg, bf, bd) = if Lib.compareInt ad bd ≠ 0 then Lib.compareInt ad bd else Lib.compareInt af bf := rfl
  obtain ⟨r, hr⟩ : ∃ r, ordO (ag, af, ad) (bg, bf, bd) = r := ⟨_, rfl⟩
  rw [hr] at hO ⊢
  have HO := Lib.hid hO
  clear hO hr
  have hB1 := balT w (.cells #[.pointer (some ⟨ag, 0, none⟩), .int .i64 af, .int .i64 ad] 65)
  have hB2 := balT (w.alloc (.cells #[.pointer (some ⟨ag, 0, none⟩), .int .i64 af, .int .i64 ad] 65)) (.cells #[.pointer (some ⟨bg, 0, none⟩), .int .i64 bf, .int .i64 bd] 65)
  have HB := Lib.hid (below_more hB1 hB2 hB1.size)
  have HC1 := Lib.hid (fun W => Try.cmp_Compare_int ad bd W)
  have HC2 := Lib.hid (fun W => Try.cmp_Compare_int af bf W)
  have a1 : ((w.alloc (.cells #[.pointer (some ⟨ag, 0, none⟩), .int .i64 af, .int .i64 ad] 65)).alloc (.cells #[.pointer (some ⟨bg, 0, none⟩), .int .i64 bf, .int .i64 bd] 65)).cell? ⟨w.heap.size, 1, none⟩ = some (.int .i64 af) := (hB2.cell (p := ⟨w.heap.size, 1, none⟩) (by simp)).trans ((World.cell?_alloc_new w _ _ 1).trans rfl)
  have a2 : ((w.alloc (.cells #[.pointer (some ⟨ag, 0, none⟩), .int .i64 af, .int .i64 ad] 65)).alloc (.cells #[.pointer (some ⟨bg, 0, none⟩), .int .i64 bf, .int .i64 bd] 65)).cell? ⟨w.heap.size, 2, none⟩ = some (.int .i64 ad) := (hB2.cell (p := ⟨w.heap.size, 2, none⟩) (by simp)).trans ((World.cell?_alloc_new w _ _ 2).trans rfl)
  have b1 : ((w.alloc (.cells #[.pointer (some ⟨ag, 0, none⟩), .int .i64 af, .int .i64 ad] 65)).alloc (.cells #[.pointer (some ⟨bg, 0, none⟩), .int .i64 bf, .int .i64 bd] 65)).cell? ⟨w.heap.size + 1, 1, none⟩ = some (.int .i64 bf) := by
    have := World.cell?_alloc_new (w.alloc (.cells #[.pointer (some ⟨ag, 0, none⟩), .int .i64 af, .int .i64 ad] 65)) #[.pointer (some ⟨bg, 0, none⟩), .int .i64 bf, .int .i64 bd] 65 1
    rw [World.size_alloc] at this
    exact this
  have b2 : ((w.alloc (.cells #[.pointer (some ⟨ag, 0, none⟩), .int .i64 af, .int .i64 ad] 65)).alloc (.cells #[.pointer (some ⟨bg, 0, none⟩), .int .i64 bf, .int .i64 bd] 65)).cell? ⟨w.heap.size + 1, 2, none⟩ = some (.int .i64 bd) := by
    have := World.cell?_alloc_new (w.alloc (.cells #[.pointer (some ⟨ag, 0, none⟩), .int .i64 af, .int .i64 ad] 65)) #[.pointer (some ⟨bg, 0, none⟩), .int .i64 bf, .int .i64 bd] 65 2
    rw [World.size_alloc] at this
    exact this
  clear hB1 hB2
  go_enter Try.func24, Try.ntmps24
  go_wp2_with fail
  generalize (w.alloc (.cells #[.pointer (some ⟨ag, 0, none⟩), .int .i64 af, .int .i64 ad] 65)).alloc (.cells #[.pointer (some ⟨bg, 0, none⟩), .int .i64 bf, .int .i64 bd] 65) = wb at *
  have HD := Lib.hid (show Below wb.heap.size wb wb.drew from (Kept.refl (fun _ => False) wb).drew.toBelow (Nat.le_refl _) (fun _ h => h.elim))
  have HBX := Lib.hid (HD.out.alloc (Nat.le_refl _) (.cells #[.int .i64 (Lib.compareInt ad bd), .int .i64 (Lib.compareInt af bf)] 3))
  have hlt := lit_twoO wb.drew (Lib.compareInt ad bd) (Lib.compareInt af bf) 3
  have hor := cor_any (wb.drew.alloc (.cells #[.int .i64 (Lib.compareInt ad bd), .int .i64 (Lib.compareInt af bf)] 3)) _ _ _ hlt.1 hlt.2
  rw [← HO.out] at hor
  have HOR := Lib.hid hor
  clear hor
  generalize Lib.compareInt ad bd = cd at *
  generalize Lib.compareInt af bf = cf at *
  clear hlt
  refine s_start 13 (fun W => Below wb.heap.size wb W) (by as_aux_lemma => kernel_rfl) (by as_aux_lemma => kernel_rfl) HD.out ?_
  refine s_take 0 (by as_aux_lemma => kernel_rfl) (by as_aux_lemma => kernel_rfl) (by as_aux_lemma => kernel_rfl) (by as_aux_lemma => kernel_rfl) HD.out (fun oi ho => ?_)
  simp only [List.getElem?_toArray, List.getElem?_cons_succ, List.getElem?_cons_zero, Option.some.injEq] at ho
  subst ho
  refine ⟨?_, Or.inl ⟨by rfl, fun w _ => ?_⟩, ?_⟩
  rotate_left
  · (go_simp <;> with_reducible rfl)
  try simp only [Act.put, List.setIfInBounds_toArray, List.set_cons_zero, List.set_cons_succ]
  refine s_take 1 (by as_aux_lemma => kernel_rfl) (by as_aux_lemma => kernel_rfl) (by as_aux_lemma => kernel_rfl) (by as_aux_lemma => kernel_rfl) HD.out (fun oi ho => ?_)
  simp only [List.getElem?_toArray, List.getElem?_cons_succ, List.getElem?_cons_zero, Option.some.injEq] at ho
  subst ho
  refine ⟨.int .i64 ad, Or.inl ⟨by rfl, fun w' hS' => ?_⟩, ?_⟩
  · have z := (hS'.cell (p := ⟨w.heap.size, 2, none⟩) (blt a2)).trans a2
    clear a1 a2 b1 b2
    (go_simp <;> with_reducible rfl)
  try simp only [Act.put, List.setIfInBounds_toArray, List.set_cons_zero, List.set_cons_succ]
  refine s_take 2 (by as_aux_lemma => kernel_rfl) (by as_aux_lemma => kernel_rfl) (by as_aux_lemma => kernel_rfl) (by as_aux_lemma => kernel_rfl) HD.out (fun oi ho => ?_)
  simp only [List.getElem?_toArray, List.getElem?_cons_succ, List.getElem?_cons_zero, Option.some.injEq] at ho
  subst ho
  refine ⟨?_, Or.inl ⟨by rfl, fun w _ => ?_⟩, ?_⟩
  rotate_left
  · (go_simp <;> with_reducible rfl)
  try simp only [Act.put, List.setIfInBounds_toArray, List.set_cons_zero, List.set_cons_succ]
  refine s_take 3 (by as_aux_lemma => kernel_rfl) (by as_aux_lemma => kernel_rfl) (by as_aux_lemma => kernel_rfl) (by as_aux_lemma => kernel_rfl) HD.out (fun oi ho => ?_)
  simp only [List.getElem?_toArray, List.getElem?_cons_succ, List.getElem?_cons_zero, Option.some.injEq] at ho
  subst ho
  refine ⟨.int .i64 bd, Or.inl ⟨by rfl, fun w' hS' => ?_⟩, ?_⟩
  · have z := (hS'.cell (p := ⟨w.heap.size + 1, 2, none⟩) (blt b2)).trans b2
    clear a1 a2 b1 b2
    (go_simp <;> with_reducible rfl)
  try simp only [Act.put, List.setIfInBounds_toArray, List.set_cons_zero, List.set_cons_succ]
  refine s_take 5 (by as_aux_lemma => kernel_rfl) (by as_aux_lemma => kernel_rfl) (by as_aux_lemma => kernel_rfl) (by as_aux_lemma => kernel_rfl) HD.out (fun oi ho => ?_)
  simp only [List.getElem?_toArray, List.getElem?_cons_succ, List.getElem?_cons_zero, Option.some.injEq] at ho
  subst ho
  refine ⟨?_, Or.inl ⟨by rfl, fun w _ => ?_⟩, ?_⟩
  rotate_left
  · (go_simp <;> with_reducible rfl)
  try simp only [Act.put, List.setIfInBounds_toArray, List.set_cons_zero, List.set_cons_succ]
  refine s_take 6 (by as_aux_lemma => kernel_rfl) (by as_aux_lemma => kernel_rfl) (by as_aux_lemma => kernel_rfl) (by as_aux_lemma => kernel_rfl) HD.out (fun oi ho => ?_)
  simp only [List.getElem?_toArray, List.getElem?_cons_succ, List.getElem?_cons_zero, Option.some.injEq] at ho
  subst ho
  refine ⟨.int .i64 af, Or.inl ⟨by rfl, fun w' hS' => ?_⟩, ?_⟩
  · have z := (hS'.cell (p := ⟨w.heap.size, 1, none⟩) (blt a1)).trans a1
    clear a1 a2 b1 b2
    (go_simp <;> with_reducible rfl)
  try simp only [Act.put, List.setIfInBounds_toArray, List.set_cons_zero, List.set_cons_succ]
  refine s_take 7 (by as_aux_lemma => kernel_rfl) (by as_aux_lemma => kernel_rfl) (by as_aux_lemma => kernel_rfl) (by as_aux_lemma => kernel_rfl) HD.out (fun oi ho => ?_)
  simp only [List.getElem?_toArray, List.getElem?_cons_succ, List.getElem?_cons_zero, Option.some.injEq] at ho
  subst ho
  refine ⟨?_, Or.inl ⟨by rfl, fun w _ => ?_⟩, ?_⟩
  rotate_left
  · (go_simp <;> with_reducible rfl)
  try simp only [Act.put, List.setIfInBounds_toArray, List.set_cons_zero, List.set_cons_succ]
  refine s_take 8 (by as_aux_lemma => kernel_rfl) (by as_aux_lemma => kernel_rfl) (by as_aux_lemma => kernel_rfl) (by as_aux_lemma => kernel_rfl) HD.out (fun oi ho => ?_)
  simp only [List.getElem?_toArray, List.getElem?_cons_succ, List.getElem?_cons_zero, Option.some.injEq] at ho
  subst ho
  refine ⟨.int .i64 bf, Or.inl ⟨by rfl, fun w' hS' => ?_⟩, ?_⟩
  · have z := (hS'.cell (p := ⟨w.heap.size + 1, 1, none⟩) (blt b1)).trans b1
    clear a1 a2 b1 b2
    (go_simp <;> with_reducible rfl)
  try simp only [Act.put, List.setIfInBounds_toArray, List.set_cons_zero, List.set_cons_succ]
  refine s_all (rs := [4]) (by as_aux_lemma => kernel_rfl) (by simp) ?_
  refine s_step 4 (by as_aux_lemma => kernel_rfl) (fun o ho K hK => ?_) AllReadyH.nil
  simp only [List.getElem?_toArray, List.getElem?_cons_succ, List.getElem?_cons_zero, Option.some.injEq] at ho
  subst ho
  go_simp
  refine (HC1.out _).mono ?_
  rintro e wc ⟨rfl, rfl⟩
  go_wp2_with fail
  refine hK.out _ _ HD.out ?_
  clear hK K
  try simp only [Act.put, List.setIfInBounds_toArray, List.set_cons_zero, List.set_cons_succ]
  refine s_all (rs := [9]) (by as_aux_lemma => kernel_rfl) (by simp) ?_
  refine s_step 9 (by as_aux_lemma => kernel_rfl) (fun o ho K hK => ?_) AllReadyH.nil
  simp only [List.getElem?_toArray, List.getElem?_cons_succ, List.getElem?_cons_zero, Option.some.injEq] at ho
  subst ho
  go_simp
  refine (HC2.out _).mono ?_
  rintro e wc ⟨rfl, rfl⟩
  go_wp2_with fail
  refine hK.out _ _ HD.out ?_
  clear hK K
  try simp only [Act.put, List.setIfInBounds_toArray, List.set_cons_zero, List.set_cons_succ]
  refine s_all (rs := [10]) (by as_aux_lemma => kernel_rfl) (by simp) ?_
  refine s_step 10 (by as_aux_lemma => kernel_rfl) (fun o ho K hK => ?_) AllReadyH.nil
  simp only [List.getElem?_toArray, List.getElem?_cons_succ, List.getElem?_cons_zero, Option.some.injEq] at ho
  subst ho
  go_simp
  refine hK.out _ _ HBX.out ?_
  clear hK K
  try simp only [Act.put, List.setIfInBounds_toArray, List.set_cons_zero, List.set_cons_succ]
  refine s_all (rs := [11]) (by as_aux_lemma => kernel_rfl) (by simp) ?_
  refine s_step 11 (by as_aux_lemma => kernel_rfl) (fun o ho K hK => ?_) AllReadyH.nil
  simp only [List.getElem?_toArray, List.getElem?_cons_succ, List.getElem?_cons_zero, Option.some.injEq] at ho
  subst ho
  go_simp
  refine HOR.out.mono ?_
  rintro e wc ⟨rfl, rfl⟩
  go_wp2_with fail
  refine hK.out _ _ HBX.out ?_
  clear hK K
  try simp only [Act.put, List.setIfInBounds_toArray, List.set_cons_zero, List.set_cons_succ]
  refine s_take 12 (by as_aux_lemma => kernel_rfl) (by as_aux_lemma => kernel_rfl) (by as_aux_lemma => kernel_rfl) (by as_aux_lemma => kernel_rfl) HBX.out (fun oi ho => ?_)
  simp only [List.getElem?_toArray, List.getElem?_cons_succ, List.getElem?_cons_zero, Option.some.injEq] at ho
  subst ho
  refine ⟨?_, Or.inl ⟨by rfl, fun w _ => ?_⟩, ?_⟩
  rotate_left
  · (go_simp <;> with_reducible rfl)
  try simp only [Act.put, List.setIfInBounds_toArray, List.set_cons_zero, List.set_cons_succ]
  refine s_done (by as_aux_lemma => kernel_rfl) ?_
  skip
  go_wp2
  go_ret
  exact ⟨rfl, below_more HB.out HBX.out HB.out.size⟩

/-- Where an entry belongs. -/
theorem obsearch_any (w : World) (base : Nat) (v : Value) (L : List Ent) (x : Ent) (ho : EntsAt w base v L) (hlen : L.length ≤ 1000000) (hs : ∀ a b, a ≤ b → b < L.length → AheadO (L.getD b (0, 0, 0)) x → AheadO (L.getD a (0, 0, 0)) x) :
    Calls Try.prog 52 #[v, .agg #[.pointer (some ⟨x.1, 0, none⟩), .int .i64 x.2.1, .int .i64 x.2.2], .func (.func 24) #[] #[]] w fun e w' => ∃ (k : Nat) (b : Bool), e = .returned (.tuple #[.int .i64 (k : Int), .bool b]) ∧ k ≤ L.length ∧ (∀ j, j < k → AheadO (L.getD j (0, 0, 0)) x) ∧ (∀ j, k ≤ j → j < L.length → ¬ AheadO (L.getD j (0, 0, 0)) x) ∧ Below w.heap.size w w' := by
  obtain ⟨pv, cap, rfl, hcap⟩ := ho.shape
  obtain ⟨xg, xf, xd⟩ := x
  have HO := Lib.hid ho
  have HS := Lib.hid hs
  obtain ⟨M, hM⟩ : ∃ M, L.length = M := ⟨_, rfl⟩
  have HM := Lib.hid hM
  rw [hM] at HO hcap hlen ⊢
  have HB0 := Lib.hid (balT w (.cells #[.pointer (some ⟨xg, 0, none⟩), .int .i64 xf, .int .i64 xd] 65))
  have x0 : (w.alloc (.cells #[.pointer (some ⟨xg, 0, none⟩), .int .i64 xf, .int .i64 xd] 65)).cell? ⟨w.heap.size, 0, none⟩ = some (.pointer (some ⟨xg, 0, none⟩)) := (World.cell?_alloc_new w _ _ 0).trans rfl
  have x1 : (w.alloc (.cells #[.pointer (some ⟨xg, 0, none⟩), .int .i64 xf, .int .i64 xd] 65)).cell? ⟨w.heap.size, 1, none⟩ = some (.int .i64 xf) := (World.cell?_alloc_new w _ _ 1).trans rfl
  have x2 : (w.alloc (.cells #[.pointer (some ⟨xg, 0, none⟩), .int .i64 xf, .int .i64 xd] 65)).cell? ⟨w.heap.size, 2, none⟩ = some (.int .i64 xd) := (World.cell?_alloc_new w _ _ 2).trans rfl
  clear ho hs hM
  dsimp only
  go_enter Try.func52, Try.ntmps52
  go_wp2
  generalize (w.alloc (.cells #[.pointer (some ⟨xg, 0, none⟩), .int .i64 xf, .int .i64 xd] 65)) = w0 at *
  have hw0 : w.heap.size < w0.heap.size := blt x0
  have X0 := Lib.hid x0
  have X1 := Lib.hid x1
  have X2 := Lib.hid x2
  clear x0 x1 x2
  go_loopw [9, 10, 11] (fun vi vj _ wr => ∃ i j : Nat, i ≤ j ∧ j ≤ M ∧ vi = .int .i64 (i : Int) ∧ vj = .int .i64 (j : Int) ∧ (∀ t, t < i → AheadO (L.getD t (0, 0, 0)) (xg, xf, xd)) ∧ (∀ t, j ≤ t → t < M → ¬ AheadO (L.getD t (0, 0, 0)) (xg, xf, xd)) ∧ Below w0.heap.size w0 wr) (fun vi vj _ _ => (intOf vj).toNat - (intOf vi).toNat)
  case atStart => exact ⟨0, M, Nat.zero_le _, Nat.le_refl _, rfl, rfl, fun t h => absurd h (by omega), fun t h1 h2 => absurd h2 (by omega), Below.refl _ _⟩
  case round =>
    obtain ⟨wo, rfl⟩ : ∃ wo, wo = wr := ⟨_, rfl⟩
    obtain ⟨i, j, hij, hjM, rfl, rfl, hi, hj, hB⟩ := hrel
    have HI := Lib.hid hi
    have HJ := Lib.hid hj
    have HB := Lib.hid hB
    have HB1 := Lib.hid (below_more HB0.out hB HB0.out.size)
    have x0 := (hB.cell (p := ⟨w.heap.size, 0, none⟩) (blt X0.out)).trans X0.out
    have x1 := (hB.cell (p := ⟨w.heap.size, 1, none⟩) (blt X1.out)).trans X1.out
    have x2 := (hB.cell (p := ⟨w.heap.size, 2, none⟩) (blt X2.out)).trans X2.out
    clear hi hj hB
    by_cases hlt : i < j
    · go_wp2_with fail
      obtain ⟨m, hm⟩ : ∃ m : Nat, ((i : Int) + (j : Int)) / 2 = (m : Int) := ⟨(i + j) / 2, by omega⟩
      rw [hm]
      have hmi : i ≤ m := by omega
      have hmj : m < j := by omega
      have hmM : m < M := by omega
      clear hm
      obtain ⟨g, c, ev, d0, d1, d2⟩ := (HO.out.below HB1.out).cell (j := m) (by rw [HM.out]; omega)
      obtain ⟨rfl, -, -⟩ := Value.slice.inj ev
      have hor := order_any wo.drew (L.getD m (0, 0, 0)) (xg, xf, xd)
      have HNG := Lib.hid (ordO_neg (L.getD m (0, 0, 0)) (xg, xf, xd))
      obtain ⟨⟨yg, yf, yd⟩, hy⟩ : ∃ y, L.getD m (0, 0, 0) = y := ⟨_, rfl⟩
      have HY := Lib.hid hy
      rw [hy] at d0 d1 d2 hor HNG
      obtain ⟨r, hr⟩ : ∃ r, ordO (yg, yf, yd) (xg, xf, xd) = r := ⟨_, rfl⟩
      rw [hr] at hor HNG
      have HOR := Lib.hid hor
      clear hy ev hr hor
      dsimp only at d0 d1 d2 HOR
      rw [Nat.zero_add] at d0 d1 d2
      have hrr : r < 0 ∨ ¬ r < 0 := by omega
      rcases hrr with hrn | hrn
      · refine wp_still_tail 6 (by kernel_rfl) (by kernel_rfl) ?_
        simp only [List.take_succ_cons, List.take_zero, List.drop_succ_cons, List.drop_zero]
        repeat still_step
        refine wpStill_nil ?_
        have HAH := Lib.hid (HNG.out.1 hrn)
        go_wp2_with fail
        refine HOR.out.mono ?_
        rintro e w3 ⟨rfl, hB3⟩
        have HB3 := Lib.hid (below_more HB.out (below_more (show Below wo.heap.size wo wo.drew from (Kept.refl (fun _ => False) wo).drew.toBelow (Nat.le_refl _) (fun _ h => h.elim)) hB3 (Nat.le_refl _)) HB.out.size)
        clear hB3 d0 d1 d2
        go_wp2
        go_roundw
        case rel =>
          refine ⟨m + 1, j, by omega, hjM, by go_num, by first | rfl | trivial, fun t ht => ?_, HJ.out, HB3.out⟩
          exact HS.out t m (by omega) (by rw [HM.out]; exact hmM) (by rw [HY.out]; exact HAH.out)
        case measure => simp [intOf]; omega
      · refine wp_still_tail 6 (by kernel_rfl) (by kernel_rfl) ?_
        simp only [List.take_succ_cons, List.take_zero, List.drop_succ_cons, List.drop_zero]
        repeat still_step
        refine wpStill_nil ?_
        have HAH := Lib.hid (fun h => hrn (HNG.out.2 h))
        go_wp2_with fail
        refine HOR.out.mono ?_
        rintro e w3 ⟨rfl, hB3⟩
        have HB3 := Lib.hid (below_more HB.out (below_more (show Below wo.heap.size wo wo.drew from (Kept.refl (fun _ => False) wo).drew.toBelow (Nat.le_refl _) (fun _ h => h.elim)) hB3 (Nat.le_refl _)) HB.out.size)
        clear hB3 d0 d1 d2
        go_wp2
        go_roundw
        case rel =>
          refine ⟨i, m, hmi, by omega, by first | rfl | trivial, by go_num, HI.out, fun t h1 h2 h3 => ?_, HB3.out⟩
          exact HAH.out (by rw [← HY.out]; exact HS.out m t h1 (by rw [HM.out]; exact h2) h3)
        case measure => simp [intOf]; omega
    · obtain rfl : i = j := by omega
      have HD := Lib.hid (show Below w0.heap.size w0 wo.drew from below_more HB.out ((Kept.refl (fun _ => False) wo).drew.toBelow (Nat.le_refl _) (fun _ h => h.elim)) HB.out.size)
      by_cases hiM : i < M
      · obtain ⟨g, c, ev, d0, d1, d2⟩ := (HO.out.below HB1.out).cell (j := i) (by rw [HM.out]; omega)
        obtain ⟨rfl, -, -⟩ := Value.slice.inj ev
        have HOR := Lib.hid (fun W => order_any W (L.getD i (0, 0, 0)) (xg, xf, xd))
        obtain ⟨⟨yg, yf, yd⟩, hy⟩ : ∃ y, L.getD i (0, 0, 0) = y := ⟨_, rfl⟩
        rw [hy] at d0 d1 d2 HOR
        obtain ⟨r, hr⟩ : ∃ r, ordO (yg, yf, yd) (xg, xf, xd) = r := ⟨_, rfl⟩
        rw [hr] at HOR
        clear hy ev hr
        dsimp only at d0 d1 d2 HOR
        rw [Nat.zero_add] at d0 d1 d2
        go_wp2_with fail
        refine s_start 16 (fun W => Below w0.heap.size w0 W ∧ ∀ p : Addr, p.block < wo.heap.size → W.cell? p = wo.cell? p) (by as_aux_lemma => kernel_rfl) (by as_aux_lemma => kernel_rfl) ⟨HD.out, fun _ _ => rfl⟩ ?_
        refine s_take 0 (by as_aux_lemma => kernel_rfl) (by as_aux_lemma => kernel_rfl) (by as_aux_lemma => kernel_rfl) (by as_aux_lemma => kernel_rfl) ⟨HD.out, fun _ _ => rfl⟩ (fun oi ho => ?_)
        simp only [List.getElem?_toArray, List.getElem?_cons_succ, List.getElem?_cons_zero, Option.some.injEq] at ho
        subst ho
        refine ⟨?_, Or.inl ⟨by rfl, fun w _ => ?_⟩, ?_⟩
        rotate_left
        · (go_simp <;> with_reducible rfl)
        try simp only [Act.put, List.setIfInBounds_toArray, List.set_cons_zero, List.set_cons_succ]
        refine s_take 1 (by as_aux_lemma => kernel_rfl) (by as_aux_lemma => kernel_rfl) (by as_aux_lemma => kernel_rfl) (by as_aux_lemma => kernel_rfl) ⟨HD.out, fun _ _ => rfl⟩ (fun oi ho => ?_)
        simp only [List.getElem?_toArray, List.getElem?_cons_succ, List.getElem?_cons_zero, Option.some.injEq] at ho
        subst ho
        refine ⟨?_, Or.inl ⟨by rfl, fun w _ => ?_⟩, ?_⟩
        rotate_left
        · (go_simp <;> with_reducible rfl)
        try simp only [Act.put, List.setIfInBounds_toArray, List.set_cons_zero, List.set_cons_succ]
        refine s_take 2 (by as_aux_lemma => kernel_rfl) (by as_aux_lemma => kernel_rfl) (by as_aux_lemma => kernel_rfl) (by as_aux_lemma => kernel_rfl) ⟨HD.out, fun _ _ => rfl⟩ (fun oi ho => ?_)
        simp only [List.getElem?_toArray, List.getElem?_cons_succ, List.getElem?_cons_zero, Option.some.injEq] at ho
        subst ho
        refine ⟨?_, Or.inl ⟨by rfl, fun w _ => ?_⟩, ?_⟩
        rotate_left
        · (go_simp <;> with_reducible rfl)
        try simp only [Act.put, List.setIfInBounds_toArray, List.set_cons_zero, List.set_cons_succ]
        refine s_take 3 (by as_aux_lemma => kernel_rfl) (by as_aux_lemma => kernel_rfl) (by as_aux_lemma => kernel_rfl) (by as_aux_lemma => kernel_rfl) ⟨HD.out, fun _ _ => rfl⟩ (fun oi ho => ?_)
        simp only [List.getElem?_toArray, List.getElem?_cons_succ, List.getElem?_cons_zero, Option.some.injEq] at ho
        subst ho
        refine ⟨.bool true, Or.inl ⟨by rfl, fun w' hS' => ?_⟩, ?_⟩
        · clear d0 d1 d2 x0 x1 x2
          (go_simp <;> first | with_reducible rfl | simp [hiM])
        try simp only [Act.put, List.setIfInBounds_toArray, List.set_cons_zero, List.set_cons_succ]
        refine s_take 4 (by as_aux_lemma => kernel_rfl) (by as_aux_lemma => kernel_rfl) (by as_aux_lemma => kernel_rfl) (by as_aux_lemma => kernel_rfl) ⟨HD.out, fun _ _ => rfl⟩ (fun oi ho => ?_)
        simp only [List.getElem?_toArray, List.getElem?_cons_succ, List.getElem?_cons_zero, Option.some.injEq] at ho
        subst ho
        refine ⟨?_, Or.inl ⟨by rfl, fun w _ => ?_⟩, ?_⟩
        rotate_left
        · (go_simp <;> with_reducible rfl)
        try simp only [Act.put, List.setIfInBounds_toArray, List.set_cons_zero, List.set_cons_succ]
        refine s_take 5 (by as_aux_lemma => kernel_rfl) (by as_aux_lemma => kernel_rfl) (by as_aux_lemma => kernel_rfl) (by as_aux_lemma => kernel_rfl) ⟨HD.out, fun _ _ => rfl⟩ (fun oi ho => ?_)
        simp only [List.getElem?_toArray, List.getElem?_cons_succ, List.getElem?_cons_zero, Option.some.injEq] at ho
        subst ho
        refine ⟨?_, Or.inl ⟨by rfl, fun w _ => ?_⟩, ?_⟩
        rotate_left
        · (go_simp <;> with_reducible rfl)
        try simp only [Act.put, List.setIfInBounds_toArray, List.set_cons_zero, List.set_cons_succ]
        refine s_take 6 (by as_aux_lemma => kernel_rfl) (by as_aux_lemma => kernel_rfl) (by as_aux_lemma => kernel_rfl) (by as_aux_lemma => kernel_rfl) ⟨HD.out, fun _ _ => rfl⟩ (fun oi ho => ?_)
        simp only [List.getElem?_toArray, List.getElem?_cons_succ, List.getElem?_cons_zero, Option.some.injEq] at ho
        subst ho
        refine ⟨?_, Or.inl ⟨by rfl, fun w _ => ?_⟩, ?_⟩
        rotate_left
        · (go_simp <;> with_reducible rfl)
        try simp only [Act.put, List.setIfInBounds_toArray, List.set_cons_zero, List.set_cons_succ]
        refine s_take 7 (by as_aux_lemma => kernel_rfl) (by as_aux_lemma => kernel_rfl) (by as_aux_lemma => kernel_rfl) (by as_aux_lemma => kernel_rfl) ⟨HD.out, fun _ _ => rfl⟩ (fun oi ho => ?_)
        simp only [List.getElem?_toArray, List.getElem?_cons_succ, List.getElem?_cons_zero, Option.some.injEq] at ho
        subst ho
        refine ⟨?_, Or.inl ⟨by rfl, fun w _ => ?_⟩, ?_⟩
        rotate_left
        · (go_simp <;> with_reducible rfl)
        try simp only [Act.put, List.setIfInBounds_toArray, List.set_cons_zero, List.set_cons_succ]
        refine s_take 8 (by as_aux_lemma => kernel_rfl) (by as_aux_lemma => kernel_rfl) (by as_aux_lemma => kernel_rfl) (by as_aux_lemma => kernel_rfl) ⟨HD.out, fun _ _ => rfl⟩ (fun oi ho => ?_)
        simp only [List.getElem?_toArray, List.getElem?_cons_succ, List.getElem?_cons_zero, Option.some.injEq] at ho
        subst ho
        refine ⟨?_, Or.inl ⟨by rfl, fun w _ => ?_⟩, ?_⟩
        rotate_left
        · (go_simp <;> with_reducible rfl)
        try simp only [Act.put, List.setIfInBounds_toArray, List.set_cons_zero, List.set_cons_succ]
        refine s_take 9 (by as_aux_lemma => kernel_rfl) (by as_aux_lemma => kernel_rfl) (by as_aux_lemma => kernel_rfl) (by as_aux_lemma => kernel_rfl) ⟨HD.out, fun _ _ => rfl⟩ (fun oi ho => ?_)
        simp only [List.getElem?_toArray, List.getElem?_cons_succ, List.getElem?_cons_zero, Option.some.injEq] at ho
        subst ho
        refine ⟨.agg #[.pointer (some ⟨yg, 0, none⟩), .int .i64 yf, .int .i64 yd], Or.inl ⟨by rfl, fun w' hS' => ?_⟩, ?_⟩
        · have z0 := (hS'.2 ⟨g, i * 3, none⟩ (blt d0)).trans d0
          have z1 := (hS'.2 ⟨g, i * 3 + 1, none⟩ (blt d1)).trans d1
          have z2 := (hS'.2 ⟨g, i * 3 + 2, none⟩ (blt d2)).trans d2
          clear d0 d1 d2 x0 x1 x2
          (go_simp <;> with_reducible rfl)
        try simp only [Act.put, List.setIfInBounds_toArray, List.set_cons_zero, List.set_cons_succ]
        refine s_take 10 (by as_aux_lemma => kernel_rfl) (by as_aux_lemma => kernel_rfl) (by as_aux_lemma => kernel_rfl) (by as_aux_lemma => kernel_rfl) ⟨HD.out, fun _ _ => rfl⟩ (fun oi ho => ?_)
        simp only [List.getElem?_toArray, List.getElem?_cons_succ, List.getElem?_cons_zero, Option.some.injEq] at ho
        subst ho
        refine ⟨.agg #[.pointer (some ⟨xg, 0, none⟩), .int .i64 xf, .int .i64 xd], Or.inl ⟨by rfl, fun w' hS' => ?_⟩, ?_⟩
        · have z0 := (hS'.2 ⟨w.heap.size, 0, none⟩ (blt x0)).trans x0
          have z1 := (hS'.2 ⟨w.heap.size, 1, none⟩ (blt x1)).trans x1
          have z2 := (hS'.2 ⟨w.heap.size, 2, none⟩ (blt x2)).trans x2
          clear d0 d1 d2 x0 x1 x2
          (go_simp <;> with_reducible rfl)
        try simp only [Act.put, List.setIfInBounds_toArray, List.set_cons_zero, List.set_cons_succ]
        refine s_all (rs := [11]) (by as_aux_lemma => kernel_rfl) (by simp) ?_
        refine s_step 11 (by as_aux_lemma => kernel_rfl) (fun o ho K hK => ?_) AllReadyH.nil
        simp only [List.getElem?_toArray, List.getElem?_cons_succ, List.getElem?_cons_zero, Option.some.injEq] at ho
        subst ho
        go_simp
        refine (HOR.out _).mono ?_
        rintro e w3 ⟨rfl, hB3⟩
        have HB3 := Lib.hid (below_more HD.out hB3 HD.out.size)
        have HC3 := Lib.hid (show ∀ p : Addr, p.block < wo.heap.size → w3.cell? p = wo.cell? p from fun p hp => hB3.cell (p := p) hp)
        go_wp2_with fail
        refine hK.out _ _ ⟨HB3.out, HC3.out⟩ ?_
        clear hK K
        try simp only [Act.put, List.setIfInBounds_toArray, List.set_cons_zero, List.set_cons_succ]
        refine s_take 12 (by as_aux_lemma => kernel_rfl) (by as_aux_lemma => kernel_rfl) (by as_aux_lemma => kernel_rfl) (by as_aux_lemma => kernel_rfl) ⟨HB3.out, HC3.out⟩ (fun oi ho => ?_)
        simp only [List.getElem?_toArray, List.getElem?_cons_succ, List.getElem?_cons_zero, Option.some.injEq] at ho
        subst ho
        refine ⟨?_, Or.inl ⟨by rfl, fun w _ => ?_⟩, ?_⟩
        rotate_left
        · (go_simp <;> with_reducible rfl)
        try simp only [Act.put, List.setIfInBounds_toArray, List.set_cons_zero, List.set_cons_succ]
        refine s_take 13 (by as_aux_lemma => kernel_rfl) (by as_aux_lemma => kernel_rfl) (by as_aux_lemma => kernel_rfl) (by as_aux_lemma => kernel_rfl) ⟨HB3.out, HC3.out⟩ (fun oi ho => ?_)
        simp only [List.getElem?_toArray, List.getElem?_cons_succ, List.getElem?_cons_zero, Option.some.injEq] at ho
        subst ho
        refine ⟨?_, Or.inl ⟨by rfl, fun w _ => ?_⟩, ?_⟩
        rotate_left
        · (go_simp <;> with_reducible rfl)
        try simp only [Act.put, List.setIfInBounds_toArray, List.set_cons_zero, List.set_cons_succ]
        refine s_take 14 (by as_aux_lemma => kernel_rfl) (by as_aux_lemma => kernel_rfl) (by as_aux_lemma => kernel_rfl) (by as_aux_lemma => kernel_rfl) ⟨HB3.out, HC3.out⟩ (fun oi ho => ?_)
        simp only [List.getElem?_toArray, List.getElem?_cons_succ, List.getElem?_cons_zero, Option.some.injEq] at ho
        subst ho
        refine ⟨?_, Or.inl ⟨by rfl, fun w _ => ?_⟩, ?_⟩
        rotate_left
        · (go_simp <;> with_reducible rfl)
        try simp only [Act.put, List.setIfInBounds_toArray, List.set_cons_zero, List.set_cons_succ]
        refine s_take 15 (by as_aux_lemma => kernel_rfl) (by as_aux_lemma => kernel_rfl) (by as_aux_lemma => kernel_rfl) (by as_aux_lemma => kernel_rfl) ⟨HB3.out, HC3.out⟩ (fun oi ho => ?_)
        simp only [List.getElem?_toArray, List.getElem?_cons_succ, List.getElem?_cons_zero, Option.some.injEq] at ho
        subst ho
        refine ⟨?_, Or.inl ⟨by rfl, fun w _ => ?_⟩, ?_⟩
        rotate_left
        · (go_simp <;> with_reducible rfl)
        try simp only [Act.put, List.setIfInBounds_toArray, List.set_cons_zero, List.set_cons_succ]
        refine s_done (by as_aux_lemma => kernel_rfl) ?_
        skip
        go_wp2
        go_ret2
        exact ⟨i, _, rfl, Nat.le_of_lt hiM, HI.out, fun t h1 h2 => HJ.out t h1 h2, below_more HB0.out HB3.out HB0.out.size⟩
      · obtain rfl : i = M := by omega
        go_wp2_with fail
        refine s_start 16 (fun W => Below w0.heap.size w0 W) (by as_aux_lemma => kernel_rfl) (by as_aux_lemma => kernel_rfl) HD.out ?_
        refine s_take 0 (by as_aux_lemma => kernel_rfl) (by as_aux_lemma => kernel_rfl) (by as_aux_lemma => kernel_rfl) (by as_aux_lemma => kernel_rfl) HD.out (fun oi ho => ?_)
        simp only [List.getElem?_toArray, List.getElem?_cons_succ, List.getElem?_cons_zero, Option.some.injEq] at ho
        subst ho
        refine ⟨?_, Or.inl ⟨by rfl, fun w _ => ?_⟩, ?_⟩
        rotate_left
        · (go_simp <;> with_reducible rfl)
        try simp only [Act.put, List.setIfInBounds_toArray, List.set_cons_zero, List.set_cons_succ]
        refine s_take 1 (by as_aux_lemma => kernel_rfl) (by as_aux_lemma => kernel_rfl) (by as_aux_lemma => kernel_rfl) (by as_aux_lemma => kernel_rfl) HD.out (fun oi ho => ?_)
        simp only [List.getElem?_toArray, List.getElem?_cons_succ, List.getElem?_cons_zero, Option.some.injEq] at ho
        subst ho
        refine ⟨?_, Or.inl ⟨by rfl, fun w _ => ?_⟩, ?_⟩
        rotate_left
        · (go_simp <;> with_reducible rfl)
        try simp only [Act.put, List.setIfInBounds_toArray, List.set_cons_zero, List.set_cons_succ]
        refine s_take 2 (by as_aux_lemma => kernel_rfl) (by as_aux_lemma => kernel_rfl) (by as_aux_lemma => kernel_rfl) (by as_aux_lemma => kernel_rfl) HD.out (fun oi ho => ?_)
        simp only [List.getElem?_toArray, List.getElem?_cons_succ, List.getElem?_cons_zero, Option.some.injEq] at ho
        subst ho
        refine ⟨?_, Or.inl ⟨by rfl, fun w _ => ?_⟩, ?_⟩
        rotate_left
        · (go_simp <;> with_reducible rfl)
        try simp only [Act.put, List.setIfInBounds_toArray, List.set_cons_zero, List.set_cons_succ]
        refine s_take 3 (by as_aux_lemma => kernel_rfl) (by as_aux_lemma => kernel_rfl) (by as_aux_lemma => kernel_rfl) (by as_aux_lemma => kernel_rfl) HD.out (fun oi ho => ?_)
        simp only [List.getElem?_toArray, List.getElem?_cons_succ, List.getElem?_cons_zero, Option.some.injEq] at ho
        subst ho
        refine ⟨.bool false, Or.inl ⟨by rfl, fun w' hS' => ?_⟩, ?_⟩
        · clear x0 x1 x2
          (go_simp <;> first | with_reducible rfl | simp)
        try simp only [Act.put, List.setIfInBounds_toArray, List.set_cons_zero, List.set_cons_succ]
        refine s_take 4 (by as_aux_lemma => kernel_rfl) (by as_aux_lemma => kernel_rfl) (by as_aux_lemma => kernel_rfl) (by as_aux_lemma => kernel_rfl) HD.out (fun oi ho => ?_)
        simp only [List.getElem?_toArray, List.getElem?_cons_succ, List.getElem?_cons_zero, Option.some.injEq] at ho
        subst ho
        refine ⟨?_, Or.inl ⟨by rfl, fun w _ => ?_⟩, ?_⟩
        rotate_left
        · (go_simp <;> with_reducible rfl)
        try simp only [Act.put, List.setIfInBounds_toArray, List.set_cons_zero, List.set_cons_succ]
        refine s_take 5 (by as_aux_lemma => kernel_rfl) (by as_aux_lemma => kernel_rfl) (by as_aux_lemma => kernel_rfl) (by as_aux_lemma => kernel_rfl) HD.out (fun oi ho => ?_)
        simp only [List.getElem?_toArray, List.getElem?_cons_succ, List.getElem?_cons_zero, Option.some.injEq] at ho
        subst ho
        refine ⟨undef, Or.inr ⟨by rfl, rfl⟩, ?_⟩
        try simp only [Act.put, List.setIfInBounds_toArray, List.set_cons_zero, List.set_cons_succ]
        refine s_take 6 (by as_aux_lemma => kernel_rfl) (by as_aux_lemma => kernel_rfl) (by as_aux_lemma => kernel_rfl) (by as_aux_lemma => kernel_rfl) HD.out (fun oi ho => ?_)
        simp only [List.getElem?_toArray, List.getElem?_cons_succ, List.getElem?_cons_zero, Option.some.injEq] at ho
        subst ho
        refine ⟨undef, Or.inr ⟨by rfl, rfl⟩, ?_⟩
        try simp only [Act.put, List.setIfInBounds_toArray, List.set_cons_zero, List.set_cons_succ]
        refine s_take 7 (by as_aux_lemma => kernel_rfl) (by as_aux_lemma => kernel_rfl) (by as_aux_lemma => kernel_rfl) (by as_aux_lemma => kernel_rfl) HD.out (fun oi ho => ?_)
        simp only [List.getElem?_toArray, List.getElem?_cons_succ, List.getElem?_cons_zero, Option.some.injEq] at ho
        subst ho
        refine ⟨undef, Or.inr ⟨by rfl, rfl⟩, ?_⟩
        try simp only [Act.put, List.setIfInBounds_toArray, List.set_cons_zero, List.set_cons_succ]
        refine s_take 8 (by as_aux_lemma => kernel_rfl) (by as_aux_lemma => kernel_rfl) (by as_aux_lemma => kernel_rfl) (by as_aux_lemma => kernel_rfl) HD.out (fun oi ho => ?_)
        simp only [List.getElem?_toArray, List.getElem?_cons_succ, List.getElem?_cons_zero, Option.some.injEq] at ho
        subst ho
        refine ⟨undef, Or.inr ⟨by rfl, rfl⟩, ?_⟩
        try simp only [Act.put, List.setIfInBounds_toArray, List.set_cons_zero, List.set_cons_succ]
        refine s_take 9 (by as_aux_lemma => kernel_rfl) (by as_aux_lemma => kernel_rfl) (by as_aux_lemma => kernel_rfl) (by as_aux_lemma => kernel_rfl) HD.out (fun oi ho => ?_)
        simp only [List.getElem?_toArray, List.getElem?_cons_succ, List.getElem?_cons_zero, Option.some.injEq] at ho
        subst ho
        refine ⟨undef, Or.inr ⟨by rfl, rfl⟩, ?_⟩
        try simp only [Act.put, List.setIfInBounds_toArray, List.set_cons_zero, List.set_cons_succ]
        refine s_take 10 (by as_aux_lemma => kernel_rfl) (by as_aux_lemma => kernel_rfl) (by as_aux_lemma => kernel_rfl) (by as_aux_lemma => kernel_rfl) HD.out (fun oi ho => ?_)
        simp only [List.getElem?_toArray, List.getElem?_cons_succ, List.getElem?_cons_zero, Option.some.injEq] at ho
        subst ho
        refine ⟨undef, Or.inr ⟨by rfl, rfl⟩, ?_⟩
        try simp only [Act.put, List.setIfInBounds_toArray, List.set_cons_zero, List.set_cons_succ]
        refine s_take 11 (by as_aux_lemma => kernel_rfl) (by as_aux_lemma => kernel_rfl) (by as_aux_lemma => kernel_rfl) (by as_aux_lemma => kernel_rfl) HD.out (fun oi ho => ?_)
        simp only [List.getElem?_toArray, List.getElem?_cons_succ, List.getElem?_cons_zero, Option.some.injEq] at ho
        subst ho
        refine ⟨undef, Or.inr ⟨by rfl, rfl⟩, ?_⟩
        try simp only [Act.put, List.setIfInBounds_toArray, List.set_cons_zero, List.set_cons_succ]
        refine s_take 12 (by as_aux_lemma => kernel_rfl) (by as_aux_lemma => kernel_rfl) (by as_aux_lemma => kernel_rfl) (by as_aux_lemma => kernel_rfl) HD.out (fun oi ho => ?_)
        simp only [List.getElem?_toArray, List.getElem?_cons_succ, List.getElem?_cons_zero, Option.some.injEq] at ho
        subst ho
        refine ⟨undef, Or.inr ⟨by rfl, rfl⟩, ?_⟩
        try simp only [Act.put, List.setIfInBounds_toArray, List.set_cons_zero, List.set_cons_succ]
        refine s_take 13 (by as_aux_lemma => kernel_rfl) (by as_aux_lemma => kernel_rfl) (by as_aux_lemma => kernel_rfl) (by as_aux_lemma => kernel_rfl) HD.out (fun oi ho => ?_)
        simp only [List.getElem?_toArray, List.getElem?_cons_succ, List.getElem?_cons_zero, Option.some.injEq] at ho
        subst ho
        refine ⟨?_, Or.inl ⟨by rfl, fun w _ => ?_⟩, ?_⟩
        rotate_left
        · (go_simp <;> with_reducible rfl)
        try simp only [Act.put, List.setIfInBounds_toArray, List.set_cons_zero, List.set_cons_succ]
        refine s_take 14 (by as_aux_lemma => kernel_rfl) (by as_aux_lemma => kernel_rfl) (by as_aux_lemma => kernel_rfl) (by as_aux_lemma => kernel_rfl) HD.out (fun oi ho => ?_)
        simp only [List.getElem?_toArray, List.getElem?_cons_succ, List.getElem?_cons_zero, Option.some.injEq] at ho
        subst ho
        refine ⟨?_, Or.inl ⟨by rfl, fun w _ => ?_⟩, ?_⟩
        rotate_left
        · (go_simp <;> with_reducible rfl)
        try simp only [Act.put, List.setIfInBounds_toArray, List.set_cons_zero, List.set_cons_succ]
        refine s_take 15 (by as_aux_lemma => kernel_rfl) (by as_aux_lemma => kernel_rfl) (by as_aux_lemma => kernel_rfl) (by as_aux_lemma => kernel_rfl) HD.out (fun oi ho => ?_)
        simp only [List.getElem?_toArray, List.getElem?_cons_succ, List.getElem?_cons_zero, Option.some.injEq] at ho
        subst ho
        refine ⟨?_, Or.inl ⟨by rfl, fun w _ => ?_⟩, ?_⟩
        rotate_left
        · (go_simp <;> with_reducible rfl)
        try simp only [Act.put, List.setIfInBounds_toArray, List.set_cons_zero, List.set_cons_succ]
        refine s_done (by as_aux_lemma => kernel_rfl) ?_
        skip
        go_wp2
        go_ret2
        exact ⟨i, _, rfl, Nat.le_refl _, HI.out, fun t h1 h2 => absurd h2 (by omega), below_more HB0.out HD.out HB0.out.size⟩
end -- TbE

section -- TbF
open Go.RowKit Go.Maps
set_option linter.unusedVariables false
set_option linter.unusedSimpArgs false
set_option maxRecDepth 100000
set_option maxHeartbeats 4000000

/-- A table's block; its entries. -/
structure RowAt (w : World) (base tb : Nat) (gn cn : Int) (v : Value) (L : List Ent) : Prop where
  blk : w.heap[tb]? = some (.cells #[v, .func (.func 24) #[] #[], .int .i64 gn, .int .i64 cn] 60 (0, 0))
  ents : EntsAt w base v L
  lo : base ≤ tb
  ne : v.ownBlock ≠ some tb
  len : L.length ≤ 1000
/-- What turns in a row: the table's block, the entries'. -/
def RowS (tb : Nat) (v : Value) (k : Nat) : Prop := k = tb ∨ v.ownBlock = some k
section
variable {w w' : World} {base tb : Nat} {gn cn : Int} {v : Value} {L : List Ent}
theorem RowAt.lt (h : RowAt w base tb gn cn v L) : tb < w.heap.size := (Array.getElem?_eq_some_iff.1 h.blk).1
theorem RowAt.c0 (h : RowAt w base tb gn cn v L) : w.cell? ⟨tb, 0, none⟩ = some v := by rw [cell_of h.blk]; rfl
theorem RowAt.c1 (h : RowAt w base tb gn cn v L) : w.cell? ⟨tb, 1, none⟩ = some (.func (.func 24) #[] #[]) := by rw [cell_of h.blk]; rfl
theorem RowAt.c2 (h : RowAt w base tb gn cn v L) : w.cell? ⟨tb, 2, none⟩ = some (.int .i64 gn) := by rw [cell_of h.blk]; rfl
theorem RowAt.c3 (h : RowAt w base tb gn cn v L) : w.cell? ⟨tb, 3, none⟩ = some (.int .i64 cn) := by rw [cell_of h.blk]; rfl
theorem RowAt.fz (h : RowAt w base tb gn cn v L) (o : Nat) : w.frozen? ⟨tb, o, none⟩ = false := fz_of h.blk o
theorem RowAt.keptS {S : Nat → Prop} (h : RowAt w base tb gn cn v L) (hk : Kept S w w') (h1 : ¬ S tb) (h2 : ∀ k, v.ownBlock = some k → ¬ S k) : RowAt w' base tb gn cn v L :=
  ⟨(hk.block tb h.lt h1).trans h.blk, h.ents.keptS hk h2, h.lo, h.ne, h.len⟩
theorem RowAt.below (h : RowAt w base tb gn cn v L) (hB : Below w.heap.size w w') : RowAt w' base tb gn cn v L := h.keptS (Kept.below hB) (fun h => h) (fun _ _ h => h)
/-- Other entries. -/
theorem RowAt.set (h : RowAt w base tb gn cn v L) {v' : Value} {L' : List Ent} (he : EntsAt w base v' L') (hne : v'.ownBlock ≠ some tb) (hl : L'.length ≤ 1000) : RowAt (w.setCell ⟨tb, 0, none⟩ v') base tb gn cn v' L' := by
  refine ⟨heap_set h.blk v', ?_, h.lo, hne, hl⟩
  exact he.keptS (Kept.set1 w tb 0 v') (fun k e e2 => hne (by rw [e, e2]))
end

theorem neq_order (w : World) : (binOp .neq 55 (.func (.func 24) #[] #[]) .nilFunc).run Try.prog w = .ok (.bool true) w := by kernel_rfl
theorem made_any {w : World} {base tb : Nat} {gn cn : Int} {v : Value} {L : List Ent} (h : RowAt w base tb gn cn v L) :
    Calls Try.prog 25 #[.pointer (some ⟨tb, 0, none⟩)] w fun e w' => e = .returned (.bool true) ∧ w = w' := by
  have c1 := h.c1
  have hne := neq_order w
  go_enter Try.func25, Try.ntmps25
  go_wp2
  go_ret
  exact ⟨rfl, rfl⟩

theorem find_any {w : World} {base tb : Nat} {gn cn : Int} {v : Value} {L : List Ent} (h : RowAt w base tb gn cn v L) (p : Ent → Bool) (pf : Nat) (lb : Array Value) (eg : ∀ args w, (callFunc pf args).run Try.prog w = .ok (.enter pf args) w) (hp : TellsO pf lb p w) :
    Calls Try.prog 31 #[.pointer (some ⟨tb, 0, none⟩), .func (.func pf) #[] lb] w fun e w' => e = .returned (.int .i64 (idxO p L)) ∧ Below w.heap.size w w' := by
  have HI := Lib.hid (indexO_any w base v L h.ents (by have := h.len; omega) p pf lb eg hp)
  have c0 := h.c0
  clear h hp
  go_enter Try.func31, Try.ntmps31
  go_wp2_with fail
  refine HI.out.mono ?_
  rintro e w' ⟨rfl, hB⟩
  go_wp2
  go_ret
  exact ⟨rfl, hB⟩

theorem eq_flat {L : List Ent} (i : Nat) : (flatO L).take (i * 3) ++ (flatO L).drop ((i + 1) * 3) = flatO (L.take i ++ L.drop (i + 1)) := by rw [flatO_take, flatO_drop, flatO_app]
theorem remove_any {w : World} {base tb : Nat} {gn cn : Int} {v : Value} {L : List Ent} (h : RowAt w base tb gn cn v L) (k : Nat) (hk : k < L.length) :
    Calls Try.prog 30 #[.pointer (some ⟨tb, 0, none⟩), .int .i64 (k : Int)] w fun e w' => ∃ v', e = .returned (.agg #[.pointer (some ⟨(L.getD k (0, 0, 0)).1, 0, none⟩), .int .i64 (L.getD k (0, 0, 0)).2.1, .int .i64 (L.getD k (0, 0, 0)).2.2]) ∧ RowAt w' base tb gn cn v' (L.take k ++ L.drop (k + 1)) ∧ Kept (RowS tb v) w w' ∧ v'.ownBlock = v.ownBlock := by
  obtain ⟨g, c, ev, d0, d1, d2⟩ := h.ents.cell hk
  have HX := Lib.hid (fun (W : World) => (rfl : (L.getD k (0, 0, 0)) = L.getD k (0, 0, 0)))
  obtain ⟨⟨yg, yf, yd⟩, hy⟩ : ∃ y, L.getD k (0, 0, 0) = y := ⟨_, rfl⟩
  rw [hy] at d0 d1 d2 ⊢
  clear HX hy
  dsimp only at d0 d1 d2 ⊢
  rw [Nat.zero_add] at d0 d1 d2
  subst ev
  have HB1 := Lib.hid (balT w (.cells #[.pointer none, .int .i64 0, .int .i64 0] 65))
  have HB2 := Lib.hid (balT (w.alloc (.cells #[.pointer none, .int .i64 0, .int .i64 0] 65)) (.cells #[.pointer (some ⟨yg, 0, none⟩), .int .i64 yf, .int .i64 yd] 65))
  have HB := Lib.hid (below_more HB1.out HB2.out HB1.out.size)
  have HH := Lib.hid (h.below HB.out)
  have c0 := (h.below HB1.out).c0
  have c1 := HH.out.c0
  have d0' := d0
  have d0 := (HB1.out.cell (p := ⟨g, k * 3, none⟩) (blt d0)).trans d0
  have d1 := (HB1.out.cell (p := ⟨g, k * 3 + 1, none⟩) (blt d1)).trans d1
  have d2 := (HB1.out.cell (p := ⟨g, k * 3 + 2, none⟩) (blt d2)).trans d2
  have hlk := h.len
  have HZ := Lib.hid (heap_alloc_new (w.alloc (.cells #[.pointer none, .int .i64 0, .int .i64 0] 65)) (.cells #[.pointer (some ⟨yg, 0, none⟩), .int .i64 yf, .int .i64 yd] 65))
  have HLT := Lib.hid h.lt
  obtain ⟨M, hM⟩ : ∃ M, L.length = M := ⟨_, rfl⟩
  have HM := Lib.hid hM
  rw [hM] at c0 c1 HH hk hlk ⊢
  clear h hM
  go_enter Try.func30, Try.ntmps30
  go_wp2_with fail
  generalize hw2 : ((w.alloc (.cells #[.pointer none, .int .i64 0, .int .i64 0] 65)).alloc (.cells #[.pointer (some ⟨yg, 0, none⟩), .int .i64 yf, .int .i64 yd] 65)) = w2 at *
  have hs2 : w2.heap.size = w.heap.size + 2 := by rw [← hw2]; simp
  have HZ0 := Lib.hid (show w2.heap[w.heap.size]? = some (.cells #[.pointer none, .int .i64 0, .int .i64 0] 65 (0, 0)) from (HB2.out.block w.heap.size (by simp)).trans (heap_alloc_new w _))
  have HZ1 := Lib.hid (show w2.heap[w.heap.size + 1]? = some (.cells #[.pointer (some ⟨yg, 0, none⟩), .int .i64 yf, .int .i64 yd] 65 (0, 0)) from by have := HZ.out; rw [World.size_alloc] at this; exact this)
  clear hw2 HB2 HZ
  have HE := Lib.hid (show w2.ownsRow base 65 3 (.slice (some ⟨g, 0, none⟩) M c) M (flatO L) from by have := HH.out.ents; unfold EntsAt at this; rw [HM.out] at this; exact this)
  have hgl := (HE.out.lt g rfl).2
  have HGW := Lib.hid (show g < w.heap.size from blt d0')
  refine (odel_row w2 base _ M k _ HE.out flatO_one hk).mono ?_
  rintro e w3 ⟨v', rfl, ho', hk3, hob⟩
  rw [eq_flat] at ho'
  have HO3 := Lib.hid ho'
  have HK3 := Lib.hid hk3
  have HOB := Lib.hid hob
  have HNE := Lib.hid HH.out.ne
  have t3 : w3.heap[tb]? = _ := (hk3.block tb HH.out.lt (fun e => HH.out.ne e)).trans HH.out.blk
  have z0 : w3.heap[w.heap.size]? = _ := (hk3.block w.heap.size (by omega) (fun e => by have := HGW.out; simp [Value.ownBlock] at e; omega)).trans HZ0.out
  have z1 : w3.heap[w.heap.size + 1]? = _ := (hk3.block (w.heap.size + 1) (by omega) (fun e => by have := HGW.out; simp [Value.ownBlock] at e; omega)).trans HZ1.out
  obtain ⟨c', rfl⟩ : ∃ c', v' = .slice (some ⟨g, 0, none⟩) (M - 1) c' := by
    rcases ho'.2 with ⟨rfl, _⟩ | ⟨g', cap, cur, rfl, _⟩
    · cases hob
    · obtain rfl : g' = g := by simpa [Value.ownBlock] using hob
      exact ⟨_, rfl⟩
  have h4 := heap_set t3 (i := 0) (.slice (some ⟨g, 0, none⟩) (M - 1) c')
  have hk4 := Kept.set1 w3 tb 0 (.slice (some ⟨g, 0, none⟩) (M - 1) c')
  have hs3 := HK3.out.size
  have z4 := (hk4.block w.heap.size (by omega) (by have := HLT.out; omega)).trans z0
  have z5 := (hk4.block (w.heap.size + 1) (by omega) (by have := HLT.out; omega)).trans z1
  have t4 := cell_of t3 0
  have t5 := fz_of t3 0
  have y0 := cell_of z5 0
  have y1 := cell_of z5 1
  have y2 := cell_of z5 2
  have q0 := cell_of z4 0
  have q1 := cell_of z4 1
  have q2 := cell_of z4 2
  have q3 := fz_of z4 0
  have q4 := fz_of z4 1
  have q5 := fz_of z4 2
  have HROW := Lib.hid (show ((((w3.setCell ⟨tb, 0, none⟩ (.slice (some ⟨g, 0, none⟩) (M - 1) c')).setCell ⟨w.heap.size, 0, none⟩ (.pointer (some ⟨yg, 0, none⟩))).setCell ⟨w.heap.size, 1, none⟩ (.int .i64 yf)).setCell ⟨w.heap.size, 2, none⟩ (.int .i64 yd)).heap[w.heap.size]? = some (.cells #[.pointer (some ⟨yg, 0, none⟩), .int .i64 yf, .int .i64 yd] 65 (0, 0)) from heap_set (heap_set (heap_set z4 _) _) _)
  have hk7 : Kept (fun k => k = w.heap.size) (w3.setCell ⟨tb, 0, none⟩ (.slice (some ⟨g, 0, none⟩) (M - 1) c')) ((((w3.setCell ⟨tb, 0, none⟩ (.slice (some ⟨g, 0, none⟩) (M - 1) c')).setCell ⟨w.heap.size, 0, none⟩ (.pointer (some ⟨yg, 0, none⟩))).setCell ⟨w.heap.size, 1, none⟩ (.int .i64 yf)).setCell ⟨w.heap.size, 2, none⟩ (.int .i64 yd)) := ((Kept.set1 _ w.heap.size 0 _).trans (Kept.set1 _ w.heap.size 1 _) (fun _ _ h => h)).trans (Kept.set1 _ w.heap.size 2 _) (fun _ _ h => h)
  have HFIN := Lib.hid (show RowAt ((((w3.setCell ⟨tb, 0, none⟩ (.slice (some ⟨g, 0, none⟩) (M - 1) c')).setCell ⟨w.heap.size, 0, none⟩ (.pointer (some ⟨yg, 0, none⟩))).setCell ⟨w.heap.size, 1, none⟩ (.int .i64 yf)).setCell ⟨w.heap.size, 2, none⟩ (.int .i64 yd)) base tb gn cn (.slice (some ⟨g, 0, none⟩) (M - 1) c') (L.take k ++ L.drop (k + 1)) from by
    have e1 : (L.take k ++ L.drop (k + 1)).length = M - 1 := by have := HM.out; simp only [List.length_append, List.length_take, List.length_drop]; omega
    have h5 : EntsAt (w3.setCell ⟨tb, 0, none⟩ (.slice (some ⟨g, 0, none⟩) (M - 1) c')) base (.slice (some ⟨g, 0, none⟩) (M - 1) c') (L.take k ++ L.drop (k + 1)) := by
      unfold EntsAt
      rw [e1]
      exact ownsRow_keptS ho' hk4 (fun k e e2 => HNE.out (by rw [e2] at e; exact e))
    refine RowAt.keptS ⟨h4, h5, HH.out.lo, HNE.out, by omega⟩ hk7 (by have := HLT.out; omega) (fun k e e2 => ?_)
    have := HGW.out
    simp [Value.ownBlock] at e
    omega)
  have HKF := Lib.hid (show Kept (RowS tb (.slice (some ⟨g, 0, none⟩) M c)) w ((((w3.setCell ⟨tb, 0, none⟩ (.slice (some ⟨g, 0, none⟩) (M - 1) c')).setCell ⟨w.heap.size, 0, none⟩ (.pointer (some ⟨yg, 0, none⟩))).setCell ⟨w.heap.size, 1, none⟩ (.int .i64 yf)).setCell ⟨w.heap.size, 2, none⟩ (.int .i64 yd)) from
    ((((Kept.below HB.out).mono (fun _ _ h => h.elim)).trans HK3.out (fun _ _ h => .inr h)).trans hk4 (fun i _ e => .inl e)).trans hk7 (fun i hi e => by omega))
  clear z0 z1 z4 z5 h4 hk4 t3 ho'
  clear hk7
  go_wp2
  refine bodyPost_ret (results_cell_row rfl _ _ w.heap.size _ _ (0, 0) _ rfl HROW.out Try.underlying65 rfl (by kernel_rfl)) rfl ⟨_, rfl, HFIN.out, HKF.out, rfl⟩

theorem eq_flat2 {L : List Ent} (i : Nat) (x : Ent) : (flatO L).take (i * 3) ++ encO x ++ (flatO L).drop (i * 3) = flatO (L.take i ++ x :: L.drop i) := by rw [flatO_take, flatO_drop, flatO_app, flatO_cons, List.append_assoc]
theorem insert_any {w : World} {base tb : Nat} {gn cn : Int} {v : Value} {L : List Ent} (h : RowAt w base tb gn cn v L) (x : Ent) (hl : L.length < 1000) (hb : base ≤ w.heap.size) (hs : ∀ a b, a ≤ b → b < L.length → AheadO (L.getD b (0, 0, 0)) x → AheadO (L.getD a (0, 0, 0)) x) :
    Calls Try.prog 34 #[.pointer (some ⟨tb, 0, none⟩), .agg #[.pointer (some ⟨x.1, 0, none⟩), .int .i64 x.2.1, .int .i64 x.2.2]] w fun e w' => ∃ (v' : Value) (k : Nat), e = .returned (.tuple #[]) ∧ k ≤ L.length ∧ (∀ j, j < k → AheadO (L.getD j (0, 0, 0)) x) ∧ (∀ j, k ≤ j → j < L.length → ¬ AheadO (L.getD j (0, 0, 0)) x) ∧ RowAt w' base tb gn cn v' (L.take k ++ x :: L.drop k) ∧ Kept (RowS tb v) w w' ∧ ((∃ g, v.ownBlock = some g ∧ v'.ownBlock = some g) ∨ ∃ g, v'.ownBlock = some g ∧ w.heap.size ≤ g) := by
  obtain ⟨xg, xf, xd⟩ := x
  dsimp only
  have HB0 := Lib.hid (balT w (.cells #[.pointer (some ⟨xg, 0, none⟩), .int .i64 xf, .int .i64 xd] 65))
  have HZ := Lib.hid (heap_alloc_new w (.cells #[.pointer (some ⟨xg, 0, none⟩), .int .i64 xf, .int .i64 xd] 65))
  have HH := Lib.hid h
  obtain ⟨p, c, hv, hlc⟩ := h.ents.shape
  subst hv
  have c0 := (h.below HB0.out).c0
  have c1 := (h.below HB0.out).c1
  have x0 := cell_of HZ.out 0
  have x1 := cell_of HZ.out 1
  have x2 := cell_of HZ.out 2
  have HBS := Lib.hid (obsearch_any (w.alloc (.cells #[.pointer (some ⟨xg, 0, none⟩), .int .i64 xf, .int .i64 xd] 65)).drew base _ L (xg, xf, xd) ((h.below HB0.out).ents.keptS (Kept.refl (fun _ => False) _).drew (fun _ _ h => h)) (by omega) hs)
  dsimp only at HBS
  have HS0 := Lib.hid (show (w.alloc (.cells #[.pointer (some ⟨xg, 0, none⟩), .int .i64 xf, .int .i64 xd] 65)).heap.size = w.heap.size + 1 from by simp)
  obtain ⟨M, hM⟩ : ∃ M, L.length = M := ⟨_, rfl⟩
  have HM := Lib.hid hM
  rw [hM] at c0 HH hl hlc HBS ⊢
  clear h hM hs
  go_enter Try.func34, Try.ntmps34
  go_wp2_with fail
  generalize hw0 : (w.alloc (.cells #[.pointer (some ⟨xg, 0, none⟩), .int .i64 xf, .int .i64 xd] 65)) = w0 at *
  clear hw0
  have HD := Lib.hid (show Below w0.heap.size w0 w0.drew from (Kept.refl (fun _ => False) w0).drew.toBelow (Nat.le_refl _) (fun _ h => h.elim))
  refine s_start 15 (fun W => Below w0.heap.size w0 W) (by as_aux_lemma => kernel_rfl) (by as_aux_lemma => kernel_rfl) HD.out ?_
  refine s_take 0 (by as_aux_lemma => kernel_rfl) (by as_aux_lemma => kernel_rfl) (by as_aux_lemma => kernel_rfl) (by as_aux_lemma => kernel_rfl) HD.out (fun oi ho => ?_)
  simp only [List.getElem?_toArray, List.getElem?_cons_succ, List.getElem?_cons_zero, Option.some.injEq] at ho
  subst ho
  refine ⟨?_, Or.inl ⟨by rfl, fun w _ => ?_⟩, ?_⟩
  rotate_left
  · (go_simp <;> with_reducible rfl)
  try simp only [Act.put, List.setIfInBounds_toArray, List.set_cons_zero, List.set_cons_succ]
  refine s_take 1 (by as_aux_lemma => kernel_rfl) (by as_aux_lemma => kernel_rfl) (by as_aux_lemma => kernel_rfl) (by as_aux_lemma => kernel_rfl) HD.out (fun oi ho => ?_)
  simp only [List.getElem?_toArray, List.getElem?_cons_succ, List.getElem?_cons_zero, Option.some.injEq] at ho
  subst ho
  refine ⟨?_, Or.inl ⟨by rfl, fun w _ => ?_⟩, ?_⟩
  rotate_left
  · (go_simp <;> with_reducible rfl)
  try simp only [Act.put, List.setIfInBounds_toArray, List.set_cons_zero, List.set_cons_succ]
  refine s_take 2 (by as_aux_lemma => kernel_rfl) (by as_aux_lemma => kernel_rfl) (by as_aux_lemma => kernel_rfl) (by as_aux_lemma => kernel_rfl) HD.out (fun oi ho => ?_)
  simp only [List.getElem?_toArray, List.getElem?_cons_succ, List.getElem?_cons_zero, Option.some.injEq] at ho
  subst ho
  refine ⟨?_, Or.inl ⟨by rfl, fun w _ => ?_⟩, ?_⟩
  rotate_left
  · (go_simp <;> with_reducible rfl)
  try simp only [Act.put, List.setIfInBounds_toArray, List.set_cons_zero, List.set_cons_succ]
  refine s_take 3 (by as_aux_lemma => kernel_rfl) (by as_aux_lemma => kernel_rfl) (by as_aux_lemma => kernel_rfl) (by as_aux_lemma => kernel_rfl) HD.out (fun oi ho => ?_)
  simp only [List.getElem?_toArray, List.getElem?_cons_succ, List.getElem?_cons_zero, Option.some.injEq] at ho
  subst ho
  refine ⟨.slice p M c, Or.inl ⟨by rfl, fun w' hS' => ?_⟩, ?_⟩
  · have z0 := (hS'.cell (p := ⟨tb, 0, none⟩) (blt c0)).trans c0
    clear c0 c1 x0 x1 x2
    (go_simp <;> with_reducible rfl)
  try simp only [Act.put, List.setIfInBounds_toArray, List.set_cons_zero, List.set_cons_succ]
  refine s_take 4 (by as_aux_lemma => kernel_rfl) (by as_aux_lemma => kernel_rfl) (by as_aux_lemma => kernel_rfl) (by as_aux_lemma => kernel_rfl) HD.out (fun oi ho => ?_)
  simp only [List.getElem?_toArray, List.getElem?_cons_succ, List.getElem?_cons_zero, Option.some.injEq] at ho
  subst ho
  refine ⟨.agg #[.pointer (some ⟨xg, 0, none⟩), .int .i64 xf, .int .i64 xd], Or.inl ⟨by rfl, fun w' hS' => ?_⟩, ?_⟩
  · have z0 := (hS'.cell (p := ⟨w.heap.size, 0, none⟩) (blt x0)).trans x0
    have z1 := (hS'.cell (p := ⟨w.heap.size, 1, none⟩) (blt x1)).trans x1
    have z2 := (hS'.cell (p := ⟨w.heap.size, 2, none⟩) (blt x2)).trans x2
    clear c0 c1 x0 x1 x2
    (go_simp <;> with_reducible rfl)
  try simp only [Act.put, List.setIfInBounds_toArray, List.set_cons_zero, List.set_cons_succ]
  refine s_take 5 (by as_aux_lemma => kernel_rfl) (by as_aux_lemma => kernel_rfl) (by as_aux_lemma => kernel_rfl) (by as_aux_lemma => kernel_rfl) HD.out (fun oi ho => ?_)
  simp only [List.getElem?_toArray, List.getElem?_cons_succ, List.getElem?_cons_zero, Option.some.injEq] at ho
  subst ho
  refine ⟨?_, Or.inl ⟨by rfl, fun w _ => ?_⟩, ?_⟩
  rotate_left
  · (go_simp <;> with_reducible rfl)
  try simp only [Act.put, List.setIfInBounds_toArray, List.set_cons_zero, List.set_cons_succ]
  refine s_take 6 (by as_aux_lemma => kernel_rfl) (by as_aux_lemma => kernel_rfl) (by as_aux_lemma => kernel_rfl) (by as_aux_lemma => kernel_rfl) HD.out (fun oi ho => ?_)
  simp only [List.getElem?_toArray, List.getElem?_cons_succ, List.getElem?_cons_zero, Option.some.injEq] at ho
  subst ho
  refine ⟨?_, Or.inl ⟨by rfl, fun w _ => ?_⟩, ?_⟩
  rotate_left
  · (go_simp <;> with_reducible rfl)
  try simp only [Act.put, List.setIfInBounds_toArray, List.set_cons_zero, List.set_cons_succ]
  refine s_take 7 (by as_aux_lemma => kernel_rfl) (by as_aux_lemma => kernel_rfl) (by as_aux_lemma => kernel_rfl) (by as_aux_lemma => kernel_rfl) HD.out (fun oi ho => ?_)
  simp only [List.getElem?_toArray, List.getElem?_cons_succ, List.getElem?_cons_zero, Option.some.injEq] at ho
  subst ho
  refine ⟨?_, Or.inl ⟨by rfl, fun w _ => ?_⟩, ?_⟩
  rotate_left
  · (go_simp <;> with_reducible rfl)
  try simp only [Act.put, List.setIfInBounds_toArray, List.set_cons_zero, List.set_cons_succ]
  refine s_take 8 (by as_aux_lemma => kernel_rfl) (by as_aux_lemma => kernel_rfl) (by as_aux_lemma => kernel_rfl) (by as_aux_lemma => kernel_rfl) HD.out (fun oi ho => ?_)
  simp only [List.getElem?_toArray, List.getElem?_cons_succ, List.getElem?_cons_zero, Option.some.injEq] at ho
  subst ho
  refine ⟨.func (.func 24) #[] #[], Or.inl ⟨by rfl, fun w' hS' => ?_⟩, ?_⟩
  · have z0 := (hS'.cell (p := ⟨tb, 1, none⟩) (blt c1)).trans c1
    clear c0 c1 x0 x1 x2
    (go_simp <;> with_reducible rfl)
  try simp only [Act.put, List.setIfInBounds_toArray, List.set_cons_zero, List.set_cons_succ]
  refine s_all (rs := [9]) (by as_aux_lemma => kernel_rfl) (by simp) ?_
  refine s_step 9 (by as_aux_lemma => kernel_rfl) (fun o ho K hK => ?_) AllReadyH.nil
  simp only [List.getElem?_toArray, List.getElem?_cons_succ, List.getElem?_cons_zero, Option.some.injEq] at ho
  subst ho
  go_simp
  refine HBS.out.mono ?_
  rintro e w1 ⟨k, bb, rfl, hk, ha, hn, hB1⟩
  have HAH := Lib.hid (And.intro ha hn)
  have HB01 := Lib.hid (below_more HD.out hB1 HD.out.size)
  clear ha hn hB1 c0 c1 x0 x1 x2
  go_wp2_with fail
  refine hK.out _ _ HB01.out ?_
  clear hK K
  try simp only [Act.put, List.setIfInBounds_toArray, List.set_cons_zero, List.set_cons_succ]
  refine s_take 10 (by as_aux_lemma => kernel_rfl) (by as_aux_lemma => kernel_rfl) (by as_aux_lemma => kernel_rfl) (by as_aux_lemma => kernel_rfl) HB01.out (fun oi ho => ?_)
  simp only [List.getElem?_toArray, List.getElem?_cons_succ, List.getElem?_cons_zero, Option.some.injEq] at ho
  subst ho
  refine ⟨?_, Or.inl ⟨by rfl, fun w _ => ?_⟩, ?_⟩
  rotate_left
  · (go_simp <;> with_reducible rfl)
  try simp only [Act.put, List.setIfInBounds_toArray, List.set_cons_zero, List.set_cons_succ]
  refine s_take 11 (by as_aux_lemma => kernel_rfl) (by as_aux_lemma => kernel_rfl) (by as_aux_lemma => kernel_rfl) (by as_aux_lemma => kernel_rfl) HB01.out (fun oi ho => ?_)
  simp only [List.getElem?_toArray, List.getElem?_cons_succ, List.getElem?_cons_zero, Option.some.injEq] at ho
  subst ho
  refine ⟨?_, Or.inl ⟨by rfl, fun w _ => ?_⟩, ?_⟩
  rotate_left
  · (go_simp <;> with_reducible rfl)
  try simp only [Act.put, List.setIfInBounds_toArray, List.set_cons_zero, List.set_cons_succ]
  refine s_take 12 (by as_aux_lemma => kernel_rfl) (by as_aux_lemma => kernel_rfl) (by as_aux_lemma => kernel_rfl) (by as_aux_lemma => kernel_rfl) HB01.out (fun oi ho => ?_)
  simp only [List.getElem?_toArray, List.getElem?_cons_succ, List.getElem?_cons_zero, Option.some.injEq] at ho
  subst ho
  refine ⟨?_, Or.inl ⟨by rfl, fun w _ => ?_⟩, ?_⟩
  rotate_left
  · (go_simp <;> with_reducible rfl)
  try simp only [Act.put, List.setIfInBounds_toArray, List.set_cons_zero, List.set_cons_succ]
  refine s_take 13 (by as_aux_lemma => kernel_rfl) (by as_aux_lemma => kernel_rfl) (by as_aux_lemma => kernel_rfl) (by as_aux_lemma => kernel_rfl) HB01.out (fun oi ho => ?_)
  simp only [List.getElem?_toArray, List.getElem?_cons_succ, List.getElem?_cons_zero, Option.some.injEq] at ho
  subst ho
  refine ⟨?_, Or.inl ⟨by rfl, fun w _ => ?_⟩, ?_⟩
  rotate_left
  · (go_simp <;> with_reducible rfl)
  try simp only [Act.put, List.setIfInBounds_toArray, List.set_cons_zero, List.set_cons_succ]
  refine s_take 14 (by as_aux_lemma => kernel_rfl) (by as_aux_lemma => kernel_rfl) (by as_aux_lemma => kernel_rfl) (by as_aux_lemma => kernel_rfl) HB01.out (fun oi ho => ?_)
  simp only [List.getElem?_toArray, List.getElem?_cons_succ, List.getElem?_cons_zero, Option.some.injEq] at ho
  subst ho
  refine ⟨?_, Or.inl ⟨by rfl, fun w _ => ?_⟩, ?_⟩
  rotate_left
  · (go_simp <;> with_reducible rfl)
  try simp only [Act.put, List.setIfInBounds_toArray, List.set_cons_zero, List.set_cons_succ]
  refine s_done (by as_aux_lemma => kernel_rfl) ?_
  skip
  have HB1 := Lib.hid (below_more HB0.out HB01.out HB0.out.size)
  have hz1 := (HB01.out.block w.heap.size (by have := HS0.out; omega)).trans HZ.out
  have HR1 := Lib.hid (HH.out.below HB1.out)
  have x0 := cell_of hz1 0
  have x1 := cell_of hz1 1
  have x2 := cell_of hz1 2
  have hz1b : w.heap.size < w1.heap.size := blt x0
  have HN := Lib.hid (fun k (e : (Value.slice p M c).ownBlock = some k) => (HH.out.ents.lt k e).2)
  have HLT := Lib.hid HH.out.lt
  have HNS := Lib.hid (show ¬ RowS tb (.slice p M c) w.heap.size from fun h => by
    rcases h with e | e
    · have := HLT.out
      omega
    · have := HN.out _ e
      omega)
  have HBA := Lib.hid (balT w1.drew (.cells #[.pointer (some ⟨xg, 0, none⟩), .int .i64 xf, .int .i64 xd] 65))
  have c0 : w1.drew.cell? ⟨tb, 0, none⟩ = _ := HR1.out.c0
  have c1 : (w1.alloc (.cells #[.pointer (some ⟨xg, 0, none⟩), .int .i64 xf, .int .i64 xd] 65)).cell? ⟨tb, 0, none⟩ = _ := (HBA.out.cell (p := ⟨tb, 0, none⟩) (blt c0)).trans c0
  have HEN := Lib.hid (show (w1.drew.alloc (.cells #[.pointer (some ⟨xg, 0, none⟩), .int .i64 xf, .int .i64 xd] 65)).ownsRow base 65 3 (.slice p M c) M (flatO L) from by
    have := HR1.out.ents.keptS ((Kept.refl (fun _ => False) w1).drew.trans (Kept.below HBA.out) (fun _ _ h => h)) (fun _ _ h => h)
    unfold EntsAt at this
    rw [HM.out] at this
    exact this)
  have HAL := Lib.hid (heap_alloc_new w1.drew (.cells #[.pointer (some ⟨xg, 0, none⟩), .int .i64 xf, .int .i64 xd] 65))
  have HK0 := Lib.hid (show Kept (RowS tb (.slice p M c)) w1 w1.drew from (Kept.refl _ w1).drew)
  have HK1 := Lib.hid (show Kept (RowS tb (.slice p M c)) w1 (w1.drew.alloc (.cells #[.pointer (some ⟨xg, 0, none⟩), .int .i64 xf, .int .i64 xd] 65)) from (Kept.refl _ w1).drew.trans ((Kept.below HBA.out).mono (fun _ _ h => h.elim)) (fun _ _ h => h))
  clear hz1
  go_wp2_with fail
  refine s_start 12 (fun W => Kept (RowS tb (.slice p M c)) w1 W) (by as_aux_lemma => kernel_rfl) (by as_aux_lemma => kernel_rfl) HK0.out ?_
  refine s_take 0 (by as_aux_lemma => kernel_rfl) (by as_aux_lemma => kernel_rfl) (by as_aux_lemma => kernel_rfl) (by as_aux_lemma => kernel_rfl) HK0.out (fun oi ho => ?_)
  simp only [List.getElem?_toArray, List.getElem?_cons_succ, List.getElem?_cons_zero, Option.some.injEq] at ho
  subst ho
  refine ⟨?_, Or.inl ⟨by rfl, fun w _ => ?_⟩, ?_⟩
  rotate_left
  · (go_simp <;> with_reducible rfl)
  try simp only [Act.put, List.setIfInBounds_toArray, List.set_cons_zero, List.set_cons_succ]
  refine s_take 1 (by as_aux_lemma => kernel_rfl) (by as_aux_lemma => kernel_rfl) (by as_aux_lemma => kernel_rfl) (by as_aux_lemma => kernel_rfl) HK0.out (fun oi ho => ?_)
  simp only [List.getElem?_toArray, List.getElem?_cons_succ, List.getElem?_cons_zero, Option.some.injEq] at ho
  subst ho
  refine ⟨?_, Or.inl ⟨by rfl, fun w _ => ?_⟩, ?_⟩
  rotate_left
  · (go_simp <;> with_reducible rfl)
  try simp only [Act.put, List.setIfInBounds_toArray, List.set_cons_zero, List.set_cons_succ]
  refine s_take 2 (by as_aux_lemma => kernel_rfl) (by as_aux_lemma => kernel_rfl) (by as_aux_lemma => kernel_rfl) (by as_aux_lemma => kernel_rfl) HK0.out (fun oi ho => ?_)
  simp only [List.getElem?_toArray, List.getElem?_cons_succ, List.getElem?_cons_zero, Option.some.injEq] at ho
  subst ho
  refine ⟨?_, Or.inl ⟨by rfl, fun w _ => ?_⟩, ?_⟩
  rotate_left
  · (go_simp <;> with_reducible rfl)
  try simp only [Act.put, List.setIfInBounds_toArray, List.set_cons_zero, List.set_cons_succ]
  refine s_take 3 (by as_aux_lemma => kernel_rfl) (by as_aux_lemma => kernel_rfl) (by as_aux_lemma => kernel_rfl) (by as_aux_lemma => kernel_rfl) HK0.out (fun oi ho => ?_)
  simp only [List.getElem?_toArray, List.getElem?_cons_succ, List.getElem?_cons_zero, Option.some.injEq] at ho
  subst ho
  refine ⟨?_, Or.inl ⟨by rfl, fun w _ => ?_⟩, ?_⟩
  rotate_left
  · (go_simp <;> with_reducible rfl)
  try simp only [Act.put, List.setIfInBounds_toArray, List.set_cons_zero, List.set_cons_succ]
  refine s_take 5 (by as_aux_lemma => kernel_rfl) (by as_aux_lemma => kernel_rfl) (by as_aux_lemma => kernel_rfl) (by as_aux_lemma => kernel_rfl) HK0.out (fun oi ho => ?_)
  simp only [List.getElem?_toArray, List.getElem?_cons_succ, List.getElem?_cons_zero, Option.some.injEq] at ho
  subst ho
  refine ⟨?_, Or.inl ⟨by rfl, fun w _ => ?_⟩, ?_⟩
  rotate_left
  · (go_simp <;> with_reducible rfl)
  try simp only [Act.put, List.setIfInBounds_toArray, List.set_cons_zero, List.set_cons_succ]
  refine s_take 6 (by as_aux_lemma => kernel_rfl) (by as_aux_lemma => kernel_rfl) (by as_aux_lemma => kernel_rfl) (by as_aux_lemma => kernel_rfl) HK0.out (fun oi ho => ?_)
  simp only [List.getElem?_toArray, List.getElem?_cons_succ, List.getElem?_cons_zero, Option.some.injEq] at ho
  subst ho
  refine ⟨.agg #[.pointer (some ⟨xg, 0, none⟩), .int .i64 xf, .int .i64 xd], Or.inl ⟨by rfl, fun w' hS' => ?_⟩, ?_⟩
  · have z0 := (hS'.cell (p := ⟨w.heap.size, 0, none⟩) (blt x0) HNS.out).trans x0
    have z1 := (hS'.cell (p := ⟨w.heap.size, 1, none⟩) (blt x1) HNS.out).trans x1
    have z2 := (hS'.cell (p := ⟨w.heap.size, 2, none⟩) (blt x2) HNS.out).trans x2
    clear c0 c1 x0 x1 x2
    (go_simp <;> with_reducible rfl)
  try simp only [Act.put, List.setIfInBounds_toArray, List.set_cons_zero, List.set_cons_succ]
  refine s_all (rs := [4, 7]) (by as_aux_lemma => kernel_rfl) (by simp) ?_
  refine s_step 4 (by as_aux_lemma => kernel_rfl) (fun o ho K hK => ?_) ?_
  · simp only [List.getElem?_toArray, List.getElem?_cons_succ, List.getElem?_cons_zero, Option.some.injEq] at ho
    subst ho
    go_simp
    refine hK.out _ _ HK0.out ?_
    clear hK K
    try simp only [Act.put, List.setIfInBounds_toArray, List.set_cons_zero, List.set_cons_succ]
    refine s_all (rs := [7]) (by as_aux_lemma => kernel_rfl) (by simp) ?_
    refine s_step 7 (by as_aux_lemma => kernel_rfl) (fun o ho K hK => ?_) AllReadyH.nil
    simp only [List.getElem?_toArray, List.getElem?_cons_succ, List.getElem?_cons_zero, Option.some.injEq] at ho
    subst ho
    go_simp
    refine hK.out _ _ HK1.out ?_
    clear hK K
    try simp only [Act.put, List.setIfInBounds_toArray, List.set_cons_zero, List.set_cons_succ]
    refine s_all (rs := [8]) (by as_aux_lemma => kernel_rfl) (by simp) ?_
    refine s_step 8 (by as_aux_lemma => kernel_rfl) (fun o ho K hK => ?_) AllReadyH.nil
    simp only [List.getElem?_toArray, List.getElem?_cons_succ, List.getElem?_cons_zero, Option.some.injEq] at ho
    subst ho
    go_simp
    refine (oins_any _ base _ M k w1.heap.size (flatO L) (encO (xg, xf, xd)) _ HEN.out flatO_one hk (fun e => by have := HN.out _ e; omega) HAL.out rfl rfl (by intro u hu; simp only [encO, List.mem_cons, List.not_mem_nil, or_false] at hu; rcases hu with rfl | rfl | rfl <;> rfl) (by omega) (by have := HK1.out.size; have := HB1.out.size; omega)).mono ?_
    rintro e w4 ⟨g', c', rfl, ho4, hk4, hp4⟩
    have HK4 := Lib.hid (show Kept (RowS tb (.slice p M c)) w1 w4 from HK1.out.trans hk4 (fun _ _ e => .inr e))
    have HO4 := Lib.hid ho4
    have HP4 := Lib.hid hp4
    have h4 := (hk4.block tb (by have := HK1.out.size; have := HB1.out.size; have := HLT.out; omega) HR1.out.ne).trans ((HBA.out.block tb (by have := HB1.out.size; have := HLT.out; show tb < w1.heap.size; omega)).trans HR1.out.blk)
    have H4 := Lib.hid h4
    have q0 := cell_of h4 0
    have q1 := fz_of h4 0
    have HF := Lib.hid (show Kept (RowS tb (.slice p M c)) w1 (w4.setCell ⟨tb, 0, none⟩ (.slice (some ⟨g', 0, none⟩) (M + 1) c')) from HK4.out.trans (Kept.set1 w4 tb 0 _) (fun _ _ e => .inl e))
    clear ho4 hk4 hp4 h4 c0 c1 x0 x1 x2
    go_wp2_with fail
    refine hK.out _ _ HK4.out ?_
    clear hK K
    try simp only [Act.put, List.setIfInBounds_toArray, List.set_cons_zero, List.set_cons_succ]
    refine s_take 9 (by as_aux_lemma => kernel_rfl) (by as_aux_lemma => kernel_rfl) (by as_aux_lemma => kernel_rfl) (by as_aux_lemma => kernel_rfl) HK4.out (fun oi ho => ?_)
    simp only [List.getElem?_toArray, List.getElem?_cons_succ, List.getElem?_cons_zero, Option.some.injEq] at ho
    subst ho
    refine ⟨?_, Or.inl ⟨by rfl, fun w _ => ?_⟩, ?_⟩
    rotate_left
    · (go_simp <;> with_reducible rfl)
    try simp only [Act.put, List.setIfInBounds_toArray, List.set_cons_zero, List.set_cons_succ]
    refine s_take 10 (by as_aux_lemma => kernel_rfl) (by as_aux_lemma => kernel_rfl) (by as_aux_lemma => kernel_rfl) (by as_aux_lemma => kernel_rfl) HK4.out (fun oi ho => ?_)
    simp only [List.getElem?_toArray, List.getElem?_cons_succ, List.getElem?_cons_zero, Option.some.injEq] at ho
    subst ho
    refine ⟨?_, Or.inl ⟨by rfl, fun w _ => ?_⟩, ?_⟩
    rotate_left
    · (go_simp <;> with_reducible rfl)
    try simp only [Act.put, List.setIfInBounds_toArray, List.set_cons_zero, List.set_cons_succ]
    refine s_all (rs := [11]) (by as_aux_lemma => kernel_rfl) (by simp) ?_
    refine s_step 11 (by as_aux_lemma => kernel_rfl) (fun o ho K hK => ?_) AllReadyH.nil
    simp only [List.getElem?_toArray, List.getElem?_cons_succ, List.getElem?_cons_zero, Option.some.injEq] at ho
    subst ho
    go_simp
    refine hK.out _ _ HF.out ?_
    clear hK K
    try simp only [Act.put, List.setIfInBounds_toArray, List.set_cons_zero, List.set_cons_succ]
    refine s_done (by as_aux_lemma => kernel_rfl) ?_
    go_wp2
    have hgt : g' ≠ tb := by
      intro e
      subst e
      rcases HP4.out with e | e
      · exact HH.out.ne e
      · have h1 := HLT.out
        have h2 := HB1.out.size
        have h3 := HK1.out.size
        omega
    refine bodyPost_end (results_none rfl _ _ _) rfl ⟨_, k, rfl, hk, HAH.out.1, HAH.out.2, ⟨heap_set H4.out _, ?_, HH.out.lo, by simpa [Value.ownBlock] using hgt, ?_⟩, ?_, ?_⟩
    · have e1 : (L.take k ++ (xg, xf, xd) :: L.drop k).length = M + 1 := by have := HM.out; simp only [List.length_append, List.length_cons, List.length_take, List.length_drop]; omega
      have e2 := HO4.out
      rw [eq_flat2] at e2
      unfold EntsAt
      rw [e1]
      exact ownsRow_keptS e2 (Kept.set1 w4 tb 0 _) (fun k e e3 => hgt (by have e4 : k = tb := e3; rw [← e4]; simpa [Value.ownBlock] using e))
    · have := HM.out
      simp only [List.length_append, List.length_cons, List.length_take, List.length_drop]
      omega
    · exact ((Kept.below HB1.out).mono (fun _ _ h => h.elim)).trans HF.out (fun _ _ h => h)
    · rcases HP4.out with e | e
      · exact .inl ⟨g', e, rfl⟩
      · exact .inr ⟨g', rfl, by have h2 := HB1.out.size; have h3 := HK1.out.size; omega⟩
  refine s_step 7 (by as_aux_lemma => kernel_rfl) (fun o ho K hK => ?_) ?_
  · simp only [List.getElem?_toArray, List.getElem?_cons_succ, List.getElem?_cons_zero, Option.some.injEq] at ho
    subst ho
    go_simp
    refine hK.out _ _ HK1.out ?_
    clear hK K
    try simp only [Act.put, List.setIfInBounds_toArray, List.set_cons_zero, List.set_cons_succ]
    refine s_all (rs := [4]) (by as_aux_lemma => kernel_rfl) (by simp) ?_
    refine s_step 4 (by as_aux_lemma => kernel_rfl) (fun o ho K hK => ?_) AllReadyH.nil
    simp only [List.getElem?_toArray, List.getElem?_cons_succ, List.getElem?_cons_zero, Option.some.injEq] at ho
    subst ho
    go_simp
    refine hK.out _ _ HK1.out ?_
    clear hK K
    try simp only [Act.put, List.setIfInBounds_toArray, List.set_cons_zero, List.set_cons_succ]
    refine s_all (rs := [8]) (by as_aux_lemma => kernel_rfl) (by simp) ?_
    refine s_step 8 (by as_aux_lemma => kernel_rfl) (fun o ho K hK => ?_) AllReadyH.nil
    simp only [List.getElem?_toArray, List.getElem?_cons_succ, List.getElem?_cons_zero, Option.some.injEq] at ho
    subst ho
    go_simp
    refine (oins_any _ base _ M k w1.heap.size (flatO L) (encO (xg, xf, xd)) _ HEN.out flatO_one hk (fun e => by have := HN.out _ e; omega) HAL.out rfl rfl (by intro u hu; simp only [encO, List.mem_cons, List.not_mem_nil, or_false] at hu; rcases hu with rfl | rfl | rfl <;> rfl) (by omega) (by have := HK1.out.size; have := HB1.out.size; omega)).mono ?_
    rintro e w4 ⟨g', c', rfl, ho4, hk4, hp4⟩
    have HK4 := Lib.hid (show Kept (RowS tb (.slice p M c)) w1 w4 from HK1.out.trans hk4 (fun _ _ e => .inr e))
    have HO4 := Lib.hid ho4
    have HP4 := Lib.hid hp4
    have h4 := (hk4.block tb (by have := HK1.out.size; have := HB1.out.size; have := HLT.out; omega) HR1.out.ne).trans ((HBA.out.block tb (by have := HB1.out.size; have := HLT.out; show tb < w1.heap.size; omega)).trans HR1.out.blk)
    have H4 := Lib.hid h4
    have q0 := cell_of h4 0
    have q1 := fz_of h4 0
    have HF := Lib.hid (show Kept (RowS tb (.slice p M c)) w1 (w4.setCell ⟨tb, 0, none⟩ (.slice (some ⟨g', 0, none⟩) (M + 1) c')) from HK4.out.trans (Kept.set1 w4 tb 0 _) (fun _ _ e => .inl e))
    clear ho4 hk4 hp4 h4 c0 c1 x0 x1 x2
    go_wp2_with fail
    refine hK.out _ _ HK4.out ?_
    clear hK K
    try simp only [Act.put, List.setIfInBounds_toArray, List.set_cons_zero, List.set_cons_succ]
    refine s_take 9 (by as_aux_lemma => kernel_rfl) (by as_aux_lemma => kernel_rfl) (by as_aux_lemma => kernel_rfl) (by as_aux_lemma => kernel_rfl) HK4.out (fun oi ho => ?_)
    simp only [List.getElem?_toArray, List.getElem?_cons_succ, List.getElem?_cons_zero, Option.some.injEq] at ho
    subst ho
    refine ⟨?_, Or.inl ⟨by rfl, fun w _ => ?_⟩, ?_⟩
    rotate_left
    · (go_simp <;> with_reducible rfl)
    try simp only [Act.put, List.setIfInBounds_toArray, List.set_cons_zero, List.set_cons_succ]
    refine s_take 10 (by as_aux_lemma => kernel_rfl) (by as_aux_lemma => kernel_rfl) (by as_aux_lemma => kernel_rfl) (by as_aux_lemma => kernel_rfl) HK4.out (fun oi ho => ?_)
    simp only [List.getElem?_toArray, List.getElem?_cons_succ, List.getElem?_cons_zero, Option.some.injEq] at ho
    subst ho
    refine ⟨?_, Or.inl ⟨by rfl, fun w _ => ?_⟩, ?_⟩
    rotate_left
    · (go_simp <;> with_reducible rfl)
    try simp only [Act.put, List.setIfInBounds_toArray, List.set_cons_zero, List.set_cons_succ]
    refine s_all (rs := [11]) (by as_aux_lemma => kernel_rfl) (by simp) ?_
    refine s_step 11 (by as_aux_lemma => kernel_rfl) (fun o ho K hK => ?_) AllReadyH.nil
    simp only [List.getElem?_toArray, List.getElem?_cons_succ, List.getElem?_cons_zero, Option.some.injEq] at ho
    subst ho
    go_simp
    refine hK.out _ _ HF.out ?_
    clear hK K
    try simp only [Act.put, List.setIfInBounds_toArray, List.set_cons_zero, List.set_cons_succ]
    refine s_done (by as_aux_lemma => kernel_rfl) ?_
    go_wp2
    have hgt : g' ≠ tb := by
      intro e
      subst e
      rcases HP4.out with e | e
      · exact HH.out.ne e
      · have h1 := HLT.out
        have h2 := HB1.out.size
        have h3 := HK1.out.size
        omega
    refine bodyPost_end (results_none rfl _ _ _) rfl ⟨_, k, rfl, hk, HAH.out.1, HAH.out.2, ⟨heap_set H4.out _, ?_, HH.out.lo, by simpa [Value.ownBlock] using hgt, ?_⟩, ?_, ?_⟩
    · have e1 : (L.take k ++ (xg, xf, xd) :: L.drop k).length = M + 1 := by have := HM.out; simp only [List.length_append, List.length_cons, List.length_take, List.length_drop]; omega
      have e2 := HO4.out
      rw [eq_flat2] at e2
      unfold EntsAt
      rw [e1]
      exact ownsRow_keptS e2 (Kept.set1 w4 tb 0 _) (fun k e e3 => hgt (by have e4 : k = tb := e3; rw [← e4]; simpa [Value.ownBlock] using e))
    · have := HM.out
      simp only [List.length_append, List.length_cons, List.length_take, List.length_drop]
      omega
    · exact ((Kept.below HB1.out).mono (fun _ _ h => h.elim)).trans HF.out (fun _ _ h => h)
    · rcases HP4.out with e | e
      · exact .inl ⟨g', e, rfl⟩
      · exact .inr ⟨g', rfl, by have h2 := HB1.out.size; have h3 := HK1.out.size; omega⟩
  exact AllReadyH.nil
end -- TbF

section -- TbG
open Go.RowKit Go.Maps
set_option linter.unusedVariables false
set_option linter.unusedSimpArgs false
set_option maxRecDepth 100000
set_option maxHeartbeats 4000000

theorem rises_len {α : Type} : ∀ {l : List (Int × α)} {a n : Int}, Rises l → (∀ p ∈ l, a ≤ p.1 ∧ p.1 < n) → a ≤ n → (l.length : Int) ≤ n - a
  | [], a, n, _, _, h => by simp; omega
  | (k, x) :: r, a, n, h, hr, han => by
    have h' := List.pairwise_cons.1 h
    have hk := hr (k, x) (by simp)
    have := rises_len (l := r) (a := k + 1) (n := n) h'.2 (fun p hp => by have h1 := h'.1 p hp; have h2 := hr p (by simp [hp]); dsimp only at h1; omega) (by dsimp only at hk; omega)
    simp only [List.length_cons]
    dsimp only at hk
    omega
section
variable {w : World} {base b bm : Nat} {H : HeadV} {vr : Value} {hs : List (Int × List B)} {V : Int → Value}
theorem GrpAt.few (h : GrpAt w base b bm H vr hs V) : hs.length ≤ 255 := by
  have := rises_len h.rises (a := 0) (n := H.n) h.rng (by have := h.ok.1; omega)
  have := h.ok.2.1
  omega
theorem gbytes_any (h : GrpAt w base b bm H vr hs V) :
    Calls Try.prog 28 #[.pointer (some ⟨b, 0, none⟩)] w fun e w' => e = .returned (.int .i64 ((hs.length * atT H.rows H.rows.length : Nat) : Int)) ∧ Below w.heap.size w w' := by
  have HM := Lib.hid (gmade_any h)
  have hN := fun W (hB : Below w.heap.size w W) => gmany_any W bm _ (h.map.below hB)
  rw [esV_len, List.length_map] at hN
  have c0 := h.c0
  have c7 := h.c7
  have hf := h.few
  have hlow := atT_low h.ok.2.2.2.2 (i := H.rows.length) (Nat.le_refl _)
  have hrl := h.ok.2.2.2.1
  obtain ⟨K, hK⟩ : ∃ K, hs.length = K := ⟨_, rfl⟩
  obtain ⟨Ln, hLn⟩ : ∃ L, atT H.rows H.rows.length = L := ⟨_, rfl⟩
  rw [hK] at hN hf
  rw [hLn] at c7 hlow
  rw [hK, hLn]
  have hw : ((K : Int) * (Ln : Int)) = ((K * Ln : Nat) : Int) := by simp
  have hbnd : K * Ln ≤ 255 * 10000000 := Nat.mul_le_mul hf (by omega)
  have HW := Lib.hid (show IntKind.i64.wrap ((K : Int) * (Ln : Int)) = ((K * Ln : Nat) : Int) from by rw [hw, IntKind.wrap_i64]; omega)
  have HN := Lib.hid hN
  have HD := Lib.hid (show Below w.heap.size w w.drew from (Kept.refl (fun _ => False) w).drew.toBelow (Nat.le_refl _) (fun _ h => h.elim))
  obtain ⟨X, hX⟩ : ∃ X : Nat, K * Ln = X := ⟨_, rfl⟩
  rw [hX] at HW ⊢
  clear h hN hK hLn hw hbnd hX
  go_enter Try.func28, Try.ntmps28
  go_wp2_with fail
  refine HM.out.mono ?_
  rintro e w1 ⟨rfl, rfl⟩
  go_wp2_with fail
  refine s_start 11 (fun W => Below w.heap.size w W) (by as_aux_lemma => kernel_rfl) (by as_aux_lemma => kernel_rfl) HD.out ?_
  refine s_take 0 (by as_aux_lemma => kernel_rfl) (by as_aux_lemma => kernel_rfl) (by as_aux_lemma => kernel_rfl) (by as_aux_lemma => kernel_rfl) HD.out (fun oi ho => ?_)
  simp only [List.getElem?_toArray, List.getElem?_cons_succ, List.getElem?_cons_zero, Option.some.injEq] at ho
  subst ho
  refine ⟨?_, Or.inl ⟨by rfl, fun w _ => ?_⟩, ?_⟩
  rotate_left
  · (go_simp <;> with_reducible rfl)
  try simp only [Act.put, List.setIfInBounds_toArray, List.set_cons_zero, List.set_cons_succ]
  refine s_take 1 (by as_aux_lemma => kernel_rfl) (by as_aux_lemma => kernel_rfl) (by as_aux_lemma => kernel_rfl) (by as_aux_lemma => kernel_rfl) HD.out (fun oi ho => ?_)
  simp only [List.getElem?_toArray, List.getElem?_cons_succ, List.getElem?_cons_zero, Option.some.injEq] at ho
  subst ho
  refine ⟨?_, Or.inl ⟨by rfl, fun w _ => ?_⟩, ?_⟩
  rotate_left
  · (go_simp <;> with_reducible rfl)
  try simp only [Act.put, List.setIfInBounds_toArray, List.set_cons_zero, List.set_cons_succ]
  refine s_take 2 (by as_aux_lemma => kernel_rfl) (by as_aux_lemma => kernel_rfl) (by as_aux_lemma => kernel_rfl) (by as_aux_lemma => kernel_rfl) HD.out (fun oi ho => ?_)
  simp only [List.getElem?_toArray, List.getElem?_cons_succ, List.getElem?_cons_zero, Option.some.injEq] at ho
  subst ho
  refine ⟨?_, Or.inl ⟨by rfl, fun w _ => ?_⟩, ?_⟩
  rotate_left
  · (go_simp <;> with_reducible rfl)
  try simp only [Act.put, List.setIfInBounds_toArray, List.set_cons_zero, List.set_cons_succ]
  refine s_take 3 (by as_aux_lemma => kernel_rfl) (by as_aux_lemma => kernel_rfl) (by as_aux_lemma => kernel_rfl) (by as_aux_lemma => kernel_rfl) HD.out (fun oi ho => ?_)
  simp only [List.getElem?_toArray, List.getElem?_cons_succ, List.getElem?_cons_zero, Option.some.injEq] at ho
  subst ho
  refine ⟨.map (some bm), Or.inl ⟨by rfl, fun w' hS' => ?_⟩, ?_⟩
  · have z := (hS'.cell (p := ⟨b, 0, none⟩) (blt c0)).trans c0
    clear c0 c7
    (go_simp <;> with_reducible rfl)
  try simp only [Act.put, List.setIfInBounds_toArray, List.set_cons_zero, List.set_cons_succ]
  refine s_take 5 (by as_aux_lemma => kernel_rfl) (by as_aux_lemma => kernel_rfl) (by as_aux_lemma => kernel_rfl) (by as_aux_lemma => kernel_rfl) HD.out (fun oi ho => ?_)
  simp only [List.getElem?_toArray, List.getElem?_cons_succ, List.getElem?_cons_zero, Option.some.injEq] at ho
  subst ho
  refine ⟨?_, Or.inl ⟨by rfl, fun w _ => ?_⟩, ?_⟩
  rotate_left
  · (go_simp <;> with_reducible rfl)
  try simp only [Act.put, List.setIfInBounds_toArray, List.set_cons_zero, List.set_cons_succ]
  refine s_take 6 (by as_aux_lemma => kernel_rfl) (by as_aux_lemma => kernel_rfl) (by as_aux_lemma => kernel_rfl) (by as_aux_lemma => kernel_rfl) HD.out (fun oi ho => ?_)
  simp only [List.getElem?_toArray, List.getElem?_cons_succ, List.getElem?_cons_zero, Option.some.injEq] at ho
  subst ho
  refine ⟨?_, Or.inl ⟨by rfl, fun w _ => ?_⟩, ?_⟩
  rotate_left
  · (go_simp <;> with_reducible rfl)
  try simp only [Act.put, List.setIfInBounds_toArray, List.set_cons_zero, List.set_cons_succ]
  refine s_take 7 (by as_aux_lemma => kernel_rfl) (by as_aux_lemma => kernel_rfl) (by as_aux_lemma => kernel_rfl) (by as_aux_lemma => kernel_rfl) HD.out (fun oi ho => ?_)
  simp only [List.getElem?_toArray, List.getElem?_cons_succ, List.getElem?_cons_zero, Option.some.injEq] at ho
  subst ho
  refine ⟨?_, Or.inl ⟨by rfl, fun w _ => ?_⟩, ?_⟩
  rotate_left
  · (go_simp <;> with_reducible rfl)
  try simp only [Act.put, List.setIfInBounds_toArray, List.set_cons_zero, List.set_cons_succ]
  refine s_take 8 (by as_aux_lemma => kernel_rfl) (by as_aux_lemma => kernel_rfl) (by as_aux_lemma => kernel_rfl) (by as_aux_lemma => kernel_rfl) HD.out (fun oi ho => ?_)
  simp only [List.getElem?_toArray, List.getElem?_cons_succ, List.getElem?_cons_zero, Option.some.injEq] at ho
  subst ho
  refine ⟨.int .i64 (Ln : Int), Or.inl ⟨by rfl, fun w' hS' => ?_⟩, ?_⟩
  · have z := (hS'.cell (p := ⟨b, 7, none⟩) (blt c7)).trans c7
    clear c0 c7
    (go_simp <;> with_reducible rfl)
  try simp only [Act.put, List.setIfInBounds_toArray, List.set_cons_zero, List.set_cons_succ]
  refine s_all (rs := [4]) (by as_aux_lemma => kernel_rfl) (by simp) ?_
  refine s_step 4 (by as_aux_lemma => kernel_rfl) (fun o ho K hK => ?_) AllReadyH.nil
  simp only [List.getElem?_toArray, List.getElem?_cons_succ, List.getElem?_cons_zero, Option.some.injEq] at ho
  subst ho
  go_simp
  refine (HN.out _ HD.out).mono ?_
  rintro e wc ⟨rfl, rfl⟩
  go_wp2_with fail
  refine hK.out _ _ HD.out ?_
  clear hK K
  try simp only [Act.put, List.setIfInBounds_toArray, List.set_cons_zero, List.set_cons_succ]
  refine s_take 9 (by as_aux_lemma => kernel_rfl) (by as_aux_lemma => kernel_rfl) (by as_aux_lemma => kernel_rfl) (by as_aux_lemma => kernel_rfl) HD.out (fun oi ho => ?_)
  simp only [List.getElem?_toArray, List.getElem?_cons_succ, List.getElem?_cons_zero, Option.some.injEq] at ho
  subst ho
  refine ⟨.int .i64 (X : Int), Or.inl ⟨by rfl, fun w' hS' => ?_⟩, ?_⟩
  · have z := HW.out
    clear c0 c7
    (go_simp <;> first | with_reducible rfl | (rw [z]))
  try simp only [Act.put, List.setIfInBounds_toArray, List.set_cons_zero, List.set_cons_succ]
  refine s_take 10 (by as_aux_lemma => kernel_rfl) (by as_aux_lemma => kernel_rfl) (by as_aux_lemma => kernel_rfl) (by as_aux_lemma => kernel_rfl) HD.out (fun oi ho => ?_)
  simp only [List.getElem?_toArray, List.getElem?_cons_succ, List.getElem?_cons_zero, Option.some.injEq] at ho
  subst ho
  refine ⟨?_, Or.inl ⟨by rfl, fun w _ => ?_⟩, ?_⟩
  rotate_left
  · (go_simp <;> with_reducible rfl)
  try simp only [Act.put, List.setIfInBounds_toArray, List.set_cons_zero, List.set_cons_succ]
  refine s_done (by as_aux_lemma => kernel_rfl) ?_
  skip
  go_wp2
  go_ret
  exact ⟨rfl, HD.out⟩

theorem ghead_any (h : GrpAt w base b bm H vr hs V) :
    Calls Try.prog 16 #[.pointer (some ⟨b, 0, none⟩)] w fun e w' => ∃ v, e = .returned (headVal ⟨H.stream, H.frame, 0, H.n, H.deadline, H.rows⟩ v) ∧ TableAt w' v H.rows ∧ Below w.heap.size w w' := by
  have HA := Lib.hid (balT w (.cells #[.int .i64 0, .int .i64 0, .int .i64 0, .int .i64 0, .int .i64 0, .slice none 0 0] 31))
  have HG := Lib.hid (h.below HA.out)
  have HM := Lib.hid (gmade_any HG.out)
  have k1 := HG.out.c1
  have k2 := HG.out.c2
  have k3 := HG.out.c3
  have k4 := HG.out.c4
  have k5 := HG.out.c5
  have k6 := HG.out.c6
  have HRL := Lib.hid h.ok.2.2
  obtain ⟨pr, cr, hvr⟩ := h.tab.shape
  have HVT := Lib.hid h.tab
  obtain ⟨hS, hF, hI, hN, hD, rows⟩ := H
  dsimp only at k1 k2 k3 k4 k5 hvr HVT HRL ⊢
  subst hvr
  obtain ⟨M, hM⟩ : ∃ M, rows.length = M := ⟨_, rfl⟩
  have HMM := Lib.hid hM
  rw [hM] at k6 HVT
  have z0 := heap_alloc_new w (.cells #[.int .i64 0, .int .i64 0, .int .i64 0, .int .i64 0, .int .i64 0, .slice none 0 0] 31)
  have q0 := cell_of z0 0
  have q1 := cell_of z0 1
  have q2 := cell_of z0 2
  have q3 := cell_of z0 3
  have q4 := cell_of z0 4
  have q5 := cell_of z0 5
  have f0 := fz_of z0 0
  have f1 := fz_of z0 1
  have f2 := fz_of z0 2
  have f3 := fz_of z0 3
  have f4 := fz_of z0 4
  have f5 := fz_of z0 5
  have HZ := Lib.hid (heap_alloc_new w (.cells #[.int .i64 hS, .int .i64 hF, .int .i64 0, .int .i64 hN, .int .i64 hD, .slice pr M cr] 31))
  have HK := Lib.hid (balT w (.cells #[.int .i64 hS, .int .i64 hF, .int .i64 0, .int .i64 hN, .int .i64 hD, .slice pr M cr] 31))
  clear h hM HG z0
  go_enter Try.func16, Try.ntmps16
  go_wp2_with fail
  refine HM.out.mono ?_
  rintro e w1 ⟨rfl, rfl⟩
  go_wp2_with fail
  generalize (w.alloc (.cells #[.int .i64 hS, .int .i64 hF, .int .i64 0, .int .i64 hN, .int .i64 hD, .slice pr M cr] 31)) = w2 at *
  refine (cloneT_any w2 _ rows (HVT.out.below HK.out) (by have := HRL.out.1; exact this) (by have := HRL.out.2.1; omega)).mono ?_
  rintro e w3 ⟨v9, rfl, ho9, hB9⟩
  have HT9 := Lib.hid (TableAt.of_owns ho9)
  obtain ⟨p9, c9, hv9⟩ := HT9.out.shape
  rw [HMM.out] at hv9
  subst hv9
  have HBL := Lib.hid (ho9.lt)
  have HB3 := Lib.hid (below_more HK.out hB9 HK.out.size)
  have hlt2 : w.heap.size < w2.heap.size := (Array.getElem?_eq_some_iff.1 HZ.out).1
  have z3 := (hB9.block w.heap.size hlt2).trans HZ.out
  have z5 := heap_set z3 (i := 5) (.slice p9 M c9)
  have g5 := cell_of z3 5
  have e5 := fz_of z3 5
  have q0 := cell_of z5 0
  have q1 := cell_of z5 1
  have q2 := cell_of z5 2
  have q3 := cell_of z5 3
  have q4 := cell_of z5 4
  have q5 := cell_of z5 5
  have f0 := fz_of z5 0
  have f1 := fz_of z5 1
  have f2 := fz_of z5 2
  have f3 := fz_of z5 3
  have f4 := fz_of z5 4
  have f5 := fz_of z5 5
  have HFZ := Lib.hid (show (((((((w3.setCell ⟨w.heap.size, 5, none⟩ (.slice p9 M c9)).setCell ⟨w.heap.size, 0, none⟩ (.int .i64 hS)).setCell ⟨w.heap.size, 1, none⟩ (.int .i64 hF)).setCell ⟨w.heap.size, 2, none⟩ (.int .i64 0)).setCell ⟨w.heap.size, 3, none⟩ (.int .i64 hN)).setCell ⟨w.heap.size, 4, none⟩ (.int .i64 hD)).setCell ⟨w.heap.size, 5, none⟩ (.slice p9 M c9)).heap[w.heap.size]? = some (.cells #[.int .i64 hS, .int .i64 hF, .int .i64 0, .int .i64 hN, .int .i64 hD, .slice p9 M c9] 31 (0, 0)) from (heap_set (heap_set (heap_set (heap_set (heap_set (heap_set z5 _) _) _) _) _) _))
  have hkk : Kept (fun k => k = w.heap.size) w3 (((((((w3.setCell ⟨w.heap.size, 5, none⟩ (.slice p9 M c9)).setCell ⟨w.heap.size, 0, none⟩ (.int .i64 hS)).setCell ⟨w.heap.size, 1, none⟩ (.int .i64 hF)).setCell ⟨w.heap.size, 2, none⟩ (.int .i64 0)).setCell ⟨w.heap.size, 3, none⟩ (.int .i64 hN)).setCell ⟨w.heap.size, 4, none⟩ (.int .i64 hD)).setCell ⟨w.heap.size, 5, none⟩ (.slice p9 M c9)) := (Kept.set1 w3 w.heap.size 5 _).trans (((((((Kept.set1 _ w.heap.size 0 _).trans (Kept.set1 _ w.heap.size 1 _) (fun _ _ h => h)).trans (Kept.set1 _ w.heap.size 2 _) (fun _ _ h => h)).trans (Kept.set1 _ w.heap.size 3 _) (fun _ _ h => h)).trans (Kept.set1 _ w.heap.size 4 _) (fun _ _ h => h)).trans (Kept.set1 _ w.heap.size 5 _) (fun _ _ h => h)) : Kept (fun k => k = w.heap.size) _ _) (fun _ _ h => h)
  have HFB := Lib.hid (show Below w.heap.size w (((((((w3.setCell ⟨w.heap.size, 5, none⟩ (.slice p9 M c9)).setCell ⟨w.heap.size, 0, none⟩ (.int .i64 hS)).setCell ⟨w.heap.size, 1, none⟩ (.int .i64 hF)).setCell ⟨w.heap.size, 2, none⟩ (.int .i64 0)).setCell ⟨w.heap.size, 3, none⟩ (.int .i64 hN)).setCell ⟨w.heap.size, 4, none⟩ (.int .i64 hD)).setCell ⟨w.heap.size, 5, none⟩ (.slice p9 M c9)) from HB3.out.trans (hkk.toBelow HB3.out.size (fun k e => by omega)))
  have HFT := Lib.hid (show TableAt (((((((w3.setCell ⟨w.heap.size, 5, none⟩ (.slice p9 M c9)).setCell ⟨w.heap.size, 0, none⟩ (.int .i64 hS)).setCell ⟨w.heap.size, 1, none⟩ (.int .i64 hF)).setCell ⟨w.heap.size, 2, none⟩ (.int .i64 0)).setCell ⟨w.heap.size, 3, none⟩ (.int .i64 hN)).setCell ⟨w.heap.size, 4, none⟩ (.int .i64 hD)).setCell ⟨w.heap.size, 5, none⟩ (.slice p9 M c9)) (.slice p9 M c9) rows from HT9.out.keptB hkk (fun k e e2 => by have := (HBL.out k e).1; omega))
  clear z3 z5 hkk hB9 ho9
  go_wp2
  refine bodyPost_ret (results_cell_row rfl _ _ w.heap.size _ _ (0, 0) _ rfl HFZ.out Try.underlying31 rfl (by kernel_rfl)) rfl ⟨_, rfl, HFT.out, HFB.out⟩
end
end -- TbG

end Go.Proofs.Ytibelpamolcmcaa
