/-
  Layer 10, walks: the chapter's example. (Under way.)
-/
import Derived.Test.YtanjchpkekehgaaGreatMxbc
import Derived.Test.YtanjchpkekehgaaGreatMxbd
namespace Go.Proofs.YtanjchpkekehgaaGreat
open Go.RowKit Go.Maps
set_option linter.unusedVariables false
set_option linter.unusedSimpArgs false
set_option maxRecDepth 100000
set_option maxHeartbeats 4000000

/-- A literal of bytes; of rows; of numbers; of a table. -/
theorem litB (w : World) (l : List B) (us : Array Value) (hus : us = (l.map bv).toArray) (g n : Nat) (hg : w.heap.size = g) (hn : l.length = n) : BytesAt (w.alloc (.cells us 5)) (.slice (some ⟨g, 0, none⟩) n n) l := by
  subst hg
  subst hn
  subst hus
  exact ⟨_, _, rfl, fun _ => ⟨_, _, rfl, fun i hi => by
    rw [Nat.zero_add]
    refine (World.cell?_alloc_new w _ _ i).trans ?_
    simp [List.getD_eq_getElem?_getD, hi]⟩⟩
theorem BytesAt.allocW {w : World} {v : Value} {l : List B} (h : BytesAt w v l) (x : Obj) : BytesAt (w.alloc x) v l := h.kept (Kept.alloc (fun _ => False) w x) (fun _ _ h => h)
theorem litRW (w : World) (us : Array Value) (ls : List (List B)) (n g : Nat) (hg : w.heap.size = g) (hn : ls.length = n) (h : ∀ i, i < n → ∃ u, us[i]? = some u ∧ BytesAt w u (ls.getD i [])) : RowsAt (w.alloc (.cells us 50)) (.slice (some ⟨g, 0, none⟩) n n) ls := by
  subst hg
  subst hn
  exact ⟨_, _, rfl, fun _ => ⟨_, _, rfl, fun i hi => by
    obtain ⟨u, h1, h2⟩ := h i hi
    exact ⟨u, by rw [Nat.zero_add]; exact (World.cell?_alloc_new w _ _ i).trans h1, h2.allocW _⟩⟩⟩
theorem litI2 (w : World) (a b : Int) (g : Nat) (hg : w.heap.size = g) : IntsAt (w.alloc (.cells #[.int .i64 a, .int .i64 b] 3)) (.slice (some ⟨g, 0, none⟩) 2 2) [a, b] := by
  subst hg
  refine ⟨_, 2, rfl, Nat.le_refl _, fun _ => ⟨_, 0, rfl, fun i hi => ?_⟩⟩
  have hi2 : i < 2 := hi
  rw [Nat.zero_add]
  refine (World.cell?_alloc_new w _ _ i).trans ?_
  obtain rfl | rfl : i = 0 ∨ i = 1 := by omega
  · rfl
  · rfl
theorem litT2 (w : World) (a b c d : Int) (g : Nat) (hg : w.heap.size = g) : TableAt (w.alloc (.cells #[.int .i64 a, .int .i64 b, .int .i64 c, .int .i64 d] 48)) (.slice (some ⟨g, 0, none⟩) 2 2) [(a, b), (c, d)] := by
  subst hg
  refine ⟨_, 2, rfl, Nat.le_refl _, fun _ => ⟨_, 0, rfl, fun i hi => ?_⟩⟩
  have hi2 : i < 2 := hi
  rw [Nat.zero_add]
  obtain rfl | rfl : i = 0 ∨ i = 1 := by omega
  · exact ⟨(World.cell?_alloc_new w _ _ 0).trans rfl, (World.cell?_alloc_new w _ _ 1).trans rfl⟩
  · exact ⟨(World.cell?_alloc_new w _ _ 2).trans rfl, (World.cell?_alloc_new w _ _ 3).trans rfl⟩
/-- The example's bodies. -/
theorem exBods (w : World) (g1 g2 g3 g4 : Nat) (h1 : w.heap.size = g1) (h2 : w.heap.size + 1 = g2) (h3 : w.heap.size + 1 + 1 = g3) (h4 : w.heap.size + 1 + 1 + 1 = g4) :
    RowsAt ((((w.alloc (.cells #[bv (ofB 5), bv (ofB 7)] 5)).alloc (.cells #[bv (ofB 5), bv (ofB 8)] 5)).alloc (.cells #[bv (ofB 5), bv (ofB 25)] 5)).alloc (.cells #[.slice (some ⟨g1, 0, none⟩) 2 2, .slice (some ⟨g2, 0, none⟩) 2 2, .slice (some ⟨g3, 0, none⟩) 2 2] 50)) (.slice (some ⟨g4, 0, none⟩) 3 3) [[ofB 5, ofB 7], [ofB 5, ofB 8], [ofB 5, ofB 25]] :=
  litRW _ _ [[ofB 5, ofB 7], [ofB 5, ofB 8], [ofB 5, ofB 25]] 3 g4 (by simp; omega) rfl (fun i hi => by
    obtain rfl | rfl | rfl : i = 0 ∨ i = 1 ∨ i = 2 := by omega
    · exact ⟨_, rfl, ((litB w [ofB 5, ofB 7] _ rfl g1 2 h1 rfl).allocW _).allocW _⟩
    · exact ⟨_, rfl, (litB _ [ofB 5, ofB 8] _ rfl g2 2 (by simp; omega) rfl).allocW _⟩
    · exact ⟨_, rfl, litB _ [ofB 5, ofB 25] _ rfl g3 2 (by simp; omega) rfl⟩)
/-- The example's layers. -/
theorem exRows (w : World) (g1 g2 g3 : Nat) (h1 : w.heap.size = g1) (h2 : w.heap.size + 1 = g2) (h3 : w.heap.size + 1 + 1 = g3) :
    RowsAt (((w.alloc (.cells #[bv (ofB 5)] 5)).alloc (.cells #[bv (ofB 7), bv (ofB 8)] 5)).alloc (.cells #[.slice (some ⟨g1, 0, none⟩) 1 1, .slice (some ⟨g2, 0, none⟩) 2 2] 50)) (.slice (some ⟨g3, 0, none⟩) 2 2) [[ofB 5], [ofB 7, ofB 8]] :=
  litRW _ _ [[ofB 5], [ofB 7, ofB 8]] 2 g3 (by simp; omega) rfl (fun i hi => by
    obtain rfl | rfl : i = 0 ∨ i = 1 := by omega
    · exact ⟨_, rfl, (litB w [ofB 5] _ rfl g1 1 h1 rfl).allocW _⟩
    · exact ⟨_, rfl, litB _ [ofB 7, ofB 8] _ rfl g2 2 (by simp; omega) rfl⟩)
theorem bbW {a b c : World} (h1 : Below a.heap.size a b) (h2 : Below b.heap.size b c) : Below a.heap.size a c := below_more h1 h2 h1.size
theorem litH1 (w : World) (i : Int) (u : Value) (hone : ∃ p n c, u = .slice p n c) (l : List B) (hu : BytesAt w u l) (g : Nat) (hg : w.heap.size = g) : HeldAt (w.alloc (.cells #[.int .i64 i, u] 54)) (.slice (some ⟨g, 0, none⟩) 1 1) [(i, l)] := by
  subst hg
  refine ⟨_, 1, rfl, Nat.le_refl _, fun _ => ⟨_, 0, rfl, fun j hj => ?_⟩⟩
  have hj1 : j < 1 := hj
  obtain rfl : j = 0 := by omega
  exact ⟨(World.cell?_alloc_new w _ _ 0).trans rfl, u, (World.cell?_alloc_new w _ _ 1).trans rfl, hu.allocW _⟩
theorem litH2 (w : World) (i j : Int) (u x : Value) (hone : ∃ p n c, u = .slice p n c) (hone2 : ∃ p n c, x = .slice p n c) (l m : List B) (hu : BytesAt w u l) (hx : BytesAt w x m) (g : Nat) (hg : w.heap.size = g) : HeldAt (w.alloc (.cells #[.int .i64 i, u, .int .i64 j, x] 54)) (.slice (some ⟨g, 0, none⟩) 2 2) [(i, l), (j, m)] := by
  subst hg
  refine ⟨_, 2, rfl, Nat.le_refl _, fun _ => ⟨_, 0, rfl, fun k hk => ?_⟩⟩
  have hk1 : k < 2 := hk
  obtain rfl | rfl : k = 0 ∨ k = 1 := by omega
  · exact ⟨(World.cell?_alloc_new w _ _ 0).trans rfl, u, (World.cell?_alloc_new w _ _ 1).trans rfl, hu.allocW _⟩
  · exact ⟨(World.cell?_alloc_new w _ _ 2).trans rfl, x, (World.cell?_alloc_new w _ _ 3).trans rfl, hx.allocW _⟩
theorem capH2 (w : World) (p2 p0 : Option Addr) (k2 k0 g : Nat) (hg : w.heap.size = g) (h2 : 2 ≤ k2) (h0 : 2 ≤ k0) (g' o c : Nat) (e : (Value.slice (some ⟨g, 0, none⟩) 2 2) = .slice (some ⟨g', o, none⟩) 2 c) (i : Nat) (hi : i < 2) (p : Option Addr) (n c' : Nat) (hc : (w.alloc (.cells #[.int .i64 2, .slice p2 2 k2, .int .i64 0, .slice p0 2 k0] 54)).cell? ⟨g', o + i * 2 + 1, none⟩ = some (.slice p n c')) : n ≤ c' := by
  subst hg
  obtain ⟨e1, _, _⟩ := Value.slice.inj e
  simp at e1
  obtain ⟨rfl, rfl⟩ := e1
  obtain rfl | rfl : i = 0 ∨ i = 1 := by omega
  · have h4 := Value.slice.inj (Option.some.inj ((World.cell?_alloc_new w #[.int .i64 2, .slice p2 2 k2, .int .i64 0, .slice p0 2 k0] 54 1).symm.trans hc : some (Value.slice p2 2 k2) = some (.slice p n c')))
    omega
  · have h4 := Value.slice.inj (Option.some.inj ((World.cell?_alloc_new w #[.int .i64 2, .slice p2 2 k2, .int .i64 0, .slice p0 2 k0] 54 3).symm.trans hc : some (Value.slice p0 2 k0) = some (.slice p n c')))
    omega
theorem RowsLone.cap {w : World} {base g n c i : Nat} {p : Option Addr} {m k : Nat} {ls : List (List B)} (h : RowsLone w base (.slice (some ⟨g, 0, none⟩) n c) ls) (hi : i < ls.length) (hc : w.cell? ⟨g, i, none⟩ = some (.slice p m k)) : m ≤ k := by
  obtain ⟨us, h1, h2, _⟩ := h
  have hil : i < us.length := by have := h1.1; omega
  have hz := List.getElem?_eq_getElem hil
  have hc2 := h1.cells (g := g) rfl i _ hz
  rw [add_zero_off, hc] at hc2
  have e := Option.some.inj hc2
  obtain ⟨ho, _⟩ := h2 i _ hz
  rw [← e] at ho
  rcases ho.2 with ⟨e2, _⟩ | ⟨g2, cap, cur, e2, _, _, hn, _⟩
  · have := (Value.slice.inj e2).2; omega
  · obtain ⟨_, q1, q2⟩ := Value.slice.inj e2
    omega
theorem ex_h1 : heldE 3 (atT [(1, 1), (2, 2)] [((1 : Int), (1 : Int)), (2, 2)].length) [(2, [ofB 5, ofB 25])] = 0 := by decide +kernel
theorem ex_h2 : heldE 3 (atT [(1, 1), (2, 2)] [((1 : Int), (1 : Int)), (2, 2)].length) [(2, [ofB 5, ofB 25]), (0, [ofB 5, ofB 7])] = 0 := by decide +kernel
theorem ex_bE : bodE 3 [[ofB 5], [ofB 7, ofB 8]] [1, 2] = 0 := by decide +kernel
theorem bv5 : bv (ofB 5) = .int .u8 5 := rfl

theorem lawake_any (w : World) :
    Calls Tryz.prog 7 #[] w fun e w' => e = .returned (.bool true) ∧ Below w.heap.size w w' := by
  go_enter Tryz.func7, Tryz.ntmps7
  go_wp2_with fail
  refine (bodies_any _ 3 _ _ [[ofB 5], [ofB 7, ofB 8]] [1, 2] ((exRows w _ _ _ rfl rfl rfl).below (balT _ _)) (litI2 _ 1 2 _ (by simp)) (by decide) (fun i hi => by
    obtain rfl | rfl : i = 0 ∨ i = 1 := by simp at hi; omega
    · decide
    · decide)).mono ?_
  rw [ex_bE]
  rintro e w1 ⟨v1, rfl, hok, _, hB1⟩
  have hr : RowsLone w1 w.heap.size v1 [[ofB 5, ofB 7], [ofB 5, ofB 8], [ofB 5, ofB 25]] := by
    have h := hok rfl
    rw [← ex_bod]
    exact RowsLone.weaken h (by simp; omega)
  have HR := Lib.hid hr
  have HB1 := Lib.hid (bbW (bbW (bbW (bbW (balT w _) (balT _ _)) (balT _ _)) (balT _ _)) hB1)
  clear hok hr hB1
  go_wp2_with fail
  refine (sameRows_any _ _ _ _ (HR.out.rows.below (bbW (bbW (bbW (balT _ _) (balT _ _)) (balT _ _)) (balT _ _))) (exBods w1 _ _ _ _ rfl rfl rfl rfl) (by decide) (by decide)).mono ?_
  rintro e w2 ⟨rfl, n2, h2⟩
  have HB2 := Lib.hid (show Below w1.heap.size w1 w2 by rw [h2]; exact bbW (bbW (bbW (bbW (balT _ _) (balT _ _)) (balT _ _)) (balT _ _)) (balD _ n2))
  have HR2 := Lib.hid (HR.out.below HB2.out)
  clear h2
  obtain ⟨pb, cb, hv1, hh⟩ := HR2.out.rows
  subst hv1
  obtain ⟨gb, ob, rfl, hc⟩ := hh (by decide)
  have hob : ob = 0 := by
    obtain ⟨us, h1, _⟩ := HR2.out
    rcases h1.2 with ⟨e2, _⟩ | ⟨g2, cap, cur, e2, _⟩
    · exact absurd (Value.slice.inj e2).1 (by simp)
    · have := (Value.slice.inj e2).1
      simp at this
      exact this.2
  subst hob
  obtain ⟨u0, r0, b0⟩ := hc 0 (by decide)
  obtain ⟨u2, r2, b2⟩ := hc 2 (by decide)
  obtain ⟨p0, k0, rfl⟩ := b0.shape
  obtain ⟨p2, k2, rfl⟩ := b2.shape
  have HB0 := Lib.hid b0
  have HB2' := Lib.hid b2
  have HK2 := Lib.hid (show 2 ≤ k2 from HR2.out.cap (i := 2) (by decide) (by rw [Nat.zero_add] at r2; exact r2))
  have HK0 := Lib.hid (show 2 ≤ k0 from HR2.out.cap (i := 0) (by decide) (by rw [Nat.zero_add] at r0; exact r0))
  have hbt := balT w2 (.cells #[.int .i64 1, .int .i64 1, .int .i64 2, .int .i64 2] 48)
  have s0 := r0
  have s2 := r2
  have r0 := (hbt.cell (p := ⟨gb, 0 + 0, none⟩) (blt r0)).trans r0
  have r2 := (hbt.cell (p := ⟨gb, 0 + 2, none⟩) (blt r2)).trans r2
  have HBT := Lib.hid hbt
  have HT := Lib.hid (litT2 w2 1 1 2 2 w2.heap.size rfl)
  clear hh hc b0 b2 hbt
  go_wp2_with fail
  refine (gather_ok _ 3 _ _ [(1, 1), (2, 2)] [(2, [ofB 5, ofB 25])] (HT.out.below (balT _ _)) (litH1 _ 2 _ ⟨_, _, _, rfl⟩ [ofB 5, ofB 25] (HB2'.out.below HBT.out) _ (by simp)) (by decide) ?hcap ex_ok ex_h1).mono ?_
  case hcap =>
    intro g o c e i hi p n c' hcell
    obtain ⟨e1, _, _⟩ := Value.slice.inj e
    simp at e1
    obtain ⟨rfl, rfl⟩ := e1
    have hi1 : i < 1 := hi
    obtain rfl : i = 0 := by omega
    have h2 := (World.cell?_alloc_new (w2.alloc (.cells #[.int .i64 1, .int .i64 1, .int .i64 2, .int .i64 2] 48)) #[.int .i64 2, .slice p2 2 k2] 54 1)
    rw [World.size_alloc] at h2
    have h3 := h2.symm.trans hcell
    have h4 := Value.slice.inj (Option.some.inj (h3 : some (Value.slice p2 2 k2) = some (.slice p n c')))
    have := HK2.out
    omega
  rintro e w3 ⟨va, rfl, hra, hB3⟩
  have HA := Lib.hid (show RowsAt w3 va [[ofB 5]] from by
    have h := hra.rows
    rw [← ex_lay1]
    exact h)
  have HB3 := Lib.hid (show Below w2.heap.size w2 w3 from bbW (bbW (balT _ _) (balT _ _)) hB3)
  have HT3 := Lib.hid (HT.out.below (show Below (w2.alloc (.cells #[.int .i64 1, .int .i64 1, .int .i64 2, .int .i64 2] 48)).heap.size _ w3 from bbW (balT _ _) hB3))
  have HB03 := Lib.hid (HB0.out.below HB3.out)
  have HB23 := Lib.hid (HB2'.out.below HB3.out)
  have q0 := (HB3.out.cell (p := ⟨gb, 0 + 0, none⟩) (blt s0)).trans s0
  have q2 := (HB3.out.cell (p := ⟨gb, 0 + 2, none⟩) (blt s2)).trans s2
  have HBD := Lib.hid (balD w3 1)
  have HBA := Lib.hid (show Below w3.heap.size w3 (w3.drew.alloc (.cells #[.int .i64 2, .slice p2 2 k2, .int .i64 0, .slice p0 2 k0] 54)) from bbW HBD.out (balT _ _))
  have HG2 := Lib.hid (gather_ok (w3.drew.alloc (.cells #[.int .i64 2, .slice p2 2 k2, .int .i64 0, .slice p0 2 k0] 54)) 3 _ _ [(1, 1), (2, 2)] [(2, [ofB 5, ofB 25]), (0, [ofB 5, ofB 7])] (HT3.out.below HBA.out) (litH2 w3.drew 2 0 _ _ ⟨_, _, _, rfl⟩ ⟨_, _, _, rfl⟩ [ofB 5, ofB 25] [ofB 5, ofB 7] (HB23.out.below HBD.out) (HB03.out.below HBD.out) _ rfl) (by decide) (fun g o c e i hi p n c' hc => capH2 w3.drew p2 p0 k2 k0 _ rfl HK2.out HK0.out g o c e i hi p n c' hc) ex_ok ex_h2)
  clear hra hB3
  go_wp2_with fail
  refine s_start 16 (fun W => Below w3.heap.size w3 W) (by as_aux_lemma => kernel_rfl) (by as_aux_lemma => kernel_rfl) HBD.out ?_
  refine s_take 0 (by as_aux_lemma => kernel_rfl) (by as_aux_lemma => kernel_rfl) (by as_aux_lemma => kernel_rfl) (by as_aux_lemma => kernel_rfl) HBD.out (fun oi ho => ?_)
  simp only [List.getElem?_toArray, List.getElem?_cons_succ, List.getElem?_cons_zero, Option.some.injEq] at ho
  subst ho
  refine ⟨?_, Or.inl ⟨by rfl, fun w _ => ?_⟩, ?_⟩
  rotate_left
  · (go_simp <;> with_reducible rfl)
  try simp only [Act.put, List.setIfInBounds_toArray, List.set_cons_zero, List.set_cons_succ]
  refine s_take 1 (by as_aux_lemma => kernel_rfl) (by as_aux_lemma => kernel_rfl) (by as_aux_lemma => kernel_rfl) (by as_aux_lemma => kernel_rfl) HBD.out (fun oi ho => ?_)
  simp only [List.getElem?_toArray, List.getElem?_cons_succ, List.getElem?_cons_zero, Option.some.injEq] at ho
  subst ho
  refine ⟨?_, Or.inl ⟨by rfl, fun w _ => ?_⟩, ?_⟩
  rotate_left
  · (go_simp <;> with_reducible rfl)
  try simp only [Act.put, List.setIfInBounds_toArray, List.set_cons_zero, List.set_cons_succ]
  refine s_take 2 (by as_aux_lemma => kernel_rfl) (by as_aux_lemma => kernel_rfl) (by as_aux_lemma => kernel_rfl) (by as_aux_lemma => kernel_rfl) HBD.out (fun oi ho => ?_)
  simp only [List.getElem?_toArray, List.getElem?_cons_succ, List.getElem?_cons_zero, Option.some.injEq] at ho
  subst ho
  refine ⟨?_, Or.inl ⟨by rfl, fun w _ => ?_⟩, ?_⟩
  rotate_left
  · (go_simp <;> with_reducible rfl)
  try simp only [Act.put, List.setIfInBounds_toArray, List.set_cons_zero, List.set_cons_succ]
  refine s_take 3 (by as_aux_lemma => kernel_rfl) (by as_aux_lemma => kernel_rfl) (by as_aux_lemma => kernel_rfl) (by as_aux_lemma => kernel_rfl) HBD.out (fun oi ho => ?_)
  simp only [List.getElem?_toArray, List.getElem?_cons_succ, List.getElem?_cons_zero, Option.some.injEq] at ho
  subst ho
  refine ⟨.slice p2 2 k2, Or.inl ⟨by rfl, fun w' hS' => ?_⟩, ?_⟩
  · have h := (hS'.cell (p := ⟨gb, 0 + 2, none⟩) (blt q2)).trans q2
    clear q0 q2 s0 s2 r0 r2
    rw [Nat.zero_add] at h
    (go_simp <;> with_reducible rfl)
  try simp only [Act.put, List.setIfInBounds_toArray, List.set_cons_zero, List.set_cons_succ]
  refine s_take 4 (by as_aux_lemma => kernel_rfl) (by as_aux_lemma => kernel_rfl) (by as_aux_lemma => kernel_rfl) (by as_aux_lemma => kernel_rfl) HBD.out (fun oi ho => ?_)
  simp only [List.getElem?_toArray, List.getElem?_cons_succ, List.getElem?_cons_zero, Option.some.injEq] at ho
  subst ho
  refine ⟨?_, Or.inl ⟨by rfl, fun w _ => ?_⟩, ?_⟩
  rotate_left
  · (go_simp <;> with_reducible rfl)
  try simp only [Act.put, List.setIfInBounds_toArray, List.set_cons_zero, List.set_cons_succ]
  refine s_take 5 (by as_aux_lemma => kernel_rfl) (by as_aux_lemma => kernel_rfl) (by as_aux_lemma => kernel_rfl) (by as_aux_lemma => kernel_rfl) HBD.out (fun oi ho => ?_)
  simp only [List.getElem?_toArray, List.getElem?_cons_succ, List.getElem?_cons_zero, Option.some.injEq] at ho
  subst ho
  refine ⟨?_, Or.inl ⟨by rfl, fun w _ => ?_⟩, ?_⟩
  rotate_left
  · (go_simp <;> with_reducible rfl)
  try simp only [Act.put, List.setIfInBounds_toArray, List.set_cons_zero, List.set_cons_succ]
  refine s_take 6 (by as_aux_lemma => kernel_rfl) (by as_aux_lemma => kernel_rfl) (by as_aux_lemma => kernel_rfl) (by as_aux_lemma => kernel_rfl) HBD.out (fun oi ho => ?_)
  simp only [List.getElem?_toArray, List.getElem?_cons_succ, List.getElem?_cons_zero, Option.some.injEq] at ho
  subst ho
  refine ⟨?_, Or.inl ⟨by rfl, fun w _ => ?_⟩, ?_⟩
  rotate_left
  · (go_simp <;> with_reducible rfl)
  try simp only [Act.put, List.setIfInBounds_toArray, List.set_cons_zero, List.set_cons_succ]
  refine s_take 7 (by as_aux_lemma => kernel_rfl) (by as_aux_lemma => kernel_rfl) (by as_aux_lemma => kernel_rfl) (by as_aux_lemma => kernel_rfl) HBD.out (fun oi ho => ?_)
  simp only [List.getElem?_toArray, List.getElem?_cons_succ, List.getElem?_cons_zero, Option.some.injEq] at ho
  subst ho
  refine ⟨.slice p0 2 k0, Or.inl ⟨by rfl, fun w' hS' => ?_⟩, ?_⟩
  · have h := (hS'.cell (p := ⟨gb, 0 + 0, none⟩) (blt q0)).trans q0
    clear q0 q2 s0 s2 r0 r2
    rw [Nat.zero_add] at h
    (go_simp <;> with_reducible rfl)
  try simp only [Act.put, List.setIfInBounds_toArray, List.set_cons_zero, List.set_cons_succ]
  refine s_take 8 (by as_aux_lemma => kernel_rfl) (by as_aux_lemma => kernel_rfl) (by as_aux_lemma => kernel_rfl) (by as_aux_lemma => kernel_rfl) HBD.out (fun oi ho => ?_)
  simp only [List.getElem?_toArray, List.getElem?_cons_succ, List.getElem?_cons_zero, Option.some.injEq] at ho
  subst ho
  refine ⟨?_, Or.inl ⟨by rfl, fun w _ => ?_⟩, ?_⟩
  rotate_left
  · (go_simp <;> with_reducible rfl)
  try simp only [Act.put, List.setIfInBounds_toArray, List.set_cons_zero, List.set_cons_succ]
  refine s_all (rs := [9]) (by as_aux_lemma => kernel_rfl) (by simp) ?_
  refine s_step 9 (by as_aux_lemma => kernel_rfl) (fun o ho K hK => ?_) AllReadyH.nil
  simp only [List.getElem?_toArray, List.getElem?_cons_succ, List.getElem?_cons_zero, Option.some.injEq] at ho
  subst ho
  go_simp
  refine hK.out _ _ HBA.out ?_
  clear hK K
  try simp only [Act.put, List.setIfInBounds_toArray, List.set_cons_zero, List.set_cons_succ]
  refine s_all (rs := [10]) (by as_aux_lemma => kernel_rfl) (by simp) ?_
  refine s_step 10 (by as_aux_lemma => kernel_rfl) (fun o ho K hK => ?_) AllReadyH.nil
  simp only [List.getElem?_toArray, List.getElem?_cons_succ, List.getElem?_cons_zero, Option.some.injEq] at ho
  subst ho
  go_simp
  refine HG2.out.mono ?_
  rintro e w4 ⟨vb, rfl, hrb, hB4⟩
  have HR4 := Lib.hid (show RowsAt w4 vb [[ofB 5], [ofB 7, ofB 8]] from by
    have h := hrb.rows
    rw [← ex_lay2]
    exact h)
  have HB4 := Lib.hid (below_more HBA.out hB4 HBA.out.size)
  clear hrb hB4
  go_wp2_with fail
  refine hK.out _ _ HB4.out ?_
  clear hK K
  try simp only [Act.put, List.setIfInBounds_toArray, List.set_cons_zero, List.set_cons_succ]
  refine s_take 11 (by as_aux_lemma => kernel_rfl) (by as_aux_lemma => kernel_rfl) (by as_aux_lemma => kernel_rfl) (by as_aux_lemma => kernel_rfl) HB4.out (fun oi ho => ?_)
  simp only [List.getElem?_toArray, List.getElem?_cons_succ, List.getElem?_cons_zero, Option.some.injEq] at ho
  subst ho
  refine ⟨?_, Or.inl ⟨by rfl, fun w _ => ?_⟩, ?_⟩
  rotate_left
  · (go_simp <;> with_reducible rfl)
  try simp only [Act.put, List.setIfInBounds_toArray, List.set_cons_zero, List.set_cons_succ]
  refine s_take 12 (by as_aux_lemma => kernel_rfl) (by as_aux_lemma => kernel_rfl) (by as_aux_lemma => kernel_rfl) (by as_aux_lemma => kernel_rfl) HB4.out (fun oi ho => ?_)
  simp only [List.getElem?_toArray, List.getElem?_cons_succ, List.getElem?_cons_zero, Option.some.injEq] at ho
  subst ho
  refine ⟨?_, Or.inl ⟨by rfl, fun w _ => ?_⟩, ?_⟩
  rotate_left
  · (go_simp <;> with_reducible rfl)
  try simp only [Act.put, List.setIfInBounds_toArray, List.set_cons_zero, List.set_cons_succ]
  refine s_take 13 (by as_aux_lemma => kernel_rfl) (by as_aux_lemma => kernel_rfl) (by as_aux_lemma => kernel_rfl) (by as_aux_lemma => kernel_rfl) HB4.out (fun oi ho => ?_)
  simp only [List.getElem?_toArray, List.getElem?_cons_succ, List.getElem?_cons_zero, Option.some.injEq] at ho
  subst ho
  refine ⟨?_, Or.inl ⟨by rfl, fun w _ => ?_⟩, ?_⟩
  rotate_left
  · (go_simp <;> with_reducible rfl)
  try simp only [Act.put, List.setIfInBounds_toArray, List.set_cons_zero, List.set_cons_succ]
  refine s_take 14 (by as_aux_lemma => kernel_rfl) (by as_aux_lemma => kernel_rfl) (by as_aux_lemma => kernel_rfl) (by as_aux_lemma => kernel_rfl) HB4.out (fun oi ho => ?_)
  simp only [List.getElem?_toArray, List.getElem?_cons_succ, List.getElem?_cons_zero, Option.some.injEq] at ho
  subst ho
  refine ⟨?_, Or.inl ⟨by rfl, fun w _ => ?_⟩, ?_⟩
  rotate_left
  · (go_simp <;> with_reducible rfl)
  try simp only [Act.put, List.setIfInBounds_toArray, List.set_cons_zero, List.set_cons_succ]
  refine s_take 15 (by as_aux_lemma => kernel_rfl) (by as_aux_lemma => kernel_rfl) (by as_aux_lemma => kernel_rfl) (by as_aux_lemma => kernel_rfl) HB4.out (fun oi ho => ?_)
  simp only [List.getElem?_toArray, List.getElem?_cons_succ, List.getElem?_cons_zero, Option.some.injEq] at ho
  subst ho
  refine ⟨?_, Or.inl ⟨by rfl, fun w _ => ?_⟩, ?_⟩
  rotate_left
  · (go_simp <;> with_reducible rfl)
  try simp only [Act.put, List.setIfInBounds_toArray, List.set_cons_zero, List.set_cons_succ]
  refine s_done (by as_aux_lemma => kernel_rfl) ?_
  skip
  have HA4 := Lib.hid (HA.out.below HB4.out)
  have HB40 := Lib.hid (show Below w.heap.size w w4 from bbW (bbW (bbW HB1.out HB2.out) HB3.out) HB4.out)
  clear q0 q2 s0 s2 r0 r2 HG2
  go_wp2_with fail
  refine (sameRows_any _ _ _ [[ofB 5]] (HA4.out.below (bbW (balT _ _) (balT _ _))) (litRW _ _ [[ofB 5]] 1 _ (by simp) rfl (fun i hi => by
    obtain rfl : i = 0 := by omega
    exact ⟨_, rfl, litB w4 [ofB 5] _ rfl _ 1 rfl rfl⟩)) (by decide) (by decide)).mono ?_
  rintro e w5 ⟨rfl, n5, h5⟩
  have HB5 := Lib.hid (show Below w4.heap.size w4 w5 by rw [h5]; exact bbW (bbW (balT _ _) (balT _ _)) (balD _ n5))
  have HR5 := Lib.hid (HR4.out.below HB5.out)
  clear h5
  go_wp2_with fail
  refine (sameRows_any _ _ _ _ (HR5.out.below (bbW (bbW (balT _ _) (balT _ _)) (balT _ _))) (exRows w5 _ _ _ rfl rfl rfl) (by decide) (by decide)).mono ?_
  rintro e w6 ⟨rfl, n6, h6⟩
  have HB6 := Lib.hid (show Below w5.heap.size w5 w6 by rw [h6]; exact bbW (bbW (bbW (balT _ _) (balT _ _)) (balT _ _)) (balD _ n6))
  clear h6
  go_wp2_with fail
  go_ret
  exact ⟨rfl, bbW HB40.out (bbW HB5.out HB6.out)⟩
end Go.Proofs.YtanjchpkekehgaaGreat
