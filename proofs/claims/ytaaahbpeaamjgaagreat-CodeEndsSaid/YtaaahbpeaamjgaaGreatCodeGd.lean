/-
  What the laws of layer 5 use: awake.
-/
import Derived.Test.YtaaahbpeaamjgaaGreatCodeGb
namespace Go.Proofs.YtaaahbpeaamjgaaGreat
open Go.RowKit Go.Maps
set_option linter.unusedVariables false
set_option maxRecDepth 100000
set_option maxHeartbeats 4000000

theorem ex_enc : encL 4 2 [[ofB 5], [ofB 4]] 1 = [[ofB 5], [ofB 4], [ofB 7], [ofB 6]] := by decide +kernel
theorem ex_dec : decL 2 (idxB [2, 3]) [[ofB 7], [ofB 6]] 1 = [[ofB 5], [ofB 4]] := by decide +kernel
theorem ex_decE : decE 4 2 [(2, [ofB 7]), (3, [ofB 6])] = 0 := by decide +kernel

theorem lit1 (w : World) (x : B) (g : Nat) (hg : w.heap.size = g) : BytesAt (w.alloc (.cells #[bv x] 5)) (.slice (some ⟨g, 0, none⟩) 1 1) [x] := by
  subst hg
  exact ⟨_, _, rfl, fun _ => ⟨_, _, rfl, fun i hi => by
    obtain rfl : i = 0 := by simp at hi; omega
    exact (World.cell?_alloc_new w _ _ 0).trans rfl⟩⟩
theorem BytesAt.alloc {w : World} {v : Value} {l : List B} (h : BytesAt w v l) (x : Obj) : BytesAt (w.alloc x) v l := h.kept (Kept.alloc (fun _ => False) w x) (fun _ _ h => h)
theorem litR (w : World) (us : Array Value) (ls : List (List B)) (n g : Nat) (hg : w.heap.size = g) (hn : ls.length = n) (h : ∀ i, i < n → ∃ u, us[i]? = some u ∧ BytesAt w u (ls.getD i [])) : RowsAt (w.alloc (.cells us 51)) (.slice (some ⟨g, 0, none⟩) n n) ls := by
  subst hg
  subst hn
  exact ⟨_, _, rfl, fun _ => ⟨_, _, rfl, fun i hi => by
    obtain ⟨u, h1, h2⟩ := h i hi
    exact ⟨u, by rw [Nat.zero_add]; exact (World.cell?_alloc_new w _ _ i).trans h1, h2.alloc _⟩⟩⟩
theorem litR2 (w : World) (x y : B) (g1 g2 g3 : Nat) (h1 : w.heap.size = g1) (h2 : w.heap.size + 1 = g2) (h3 : w.heap.size + 1 + 1 = g3) :
    RowsAt (((w.alloc (.cells #[bv x] 5)).alloc (.cells #[bv y] 5)).alloc (.cells #[.slice (some ⟨g1, 0, none⟩) 1 1, .slice (some ⟨g2, 0, none⟩) 1 1] 51)) (.slice (some ⟨g3, 0, none⟩) 2 2) [[x], [y]] :=
  litR _ _ [[x], [y]] 2 g3 (by simp; omega) rfl (fun i hi => by
    obtain rfl | rfl : i = 0 ∨ i = 1 := by omega
    · exact ⟨_, rfl, (lit1 w x g1 h1).alloc _⟩
    · exact ⟨_, rfl, lit1 _ y g2 (by simp; omega)⟩)
theorem litR4 (w : World) (x y z t : B) (g1 g2 g3 g4 g5 : Nat) (h1 : w.heap.size = g1) (h2 : w.heap.size + 1 = g2) (h3 : w.heap.size + 1 + 1 = g3) (h4 : w.heap.size + 1 + 1 + 1 = g4) (h5 : w.heap.size + 1 + 1 + 1 + 1 = g5) :
    RowsAt (((((w.alloc (.cells #[bv x] 5)).alloc (.cells #[bv y] 5)).alloc (.cells #[bv z] 5)).alloc (.cells #[bv t] 5)).alloc (.cells #[.slice (some ⟨g1, 0, none⟩) 1 1, .slice (some ⟨g2, 0, none⟩) 1 1, .slice (some ⟨g3, 0, none⟩) 1 1, .slice (some ⟨g4, 0, none⟩) 1 1] 51)) (.slice (some ⟨g5, 0, none⟩) 4 4) [[x], [y], [z], [t]] :=
  litR _ _ [[x], [y], [z], [t]] 4 g5 (by simp; omega) rfl (fun i hi => by
    obtain rfl | rfl | rfl | rfl : i = 0 ∨ i = 1 ∨ i = 2 ∨ i = 3 := by omega
    · exact ⟨_, rfl, (((lit1 w x g1 h1).alloc _).alloc _).alloc _⟩
    · exact ⟨_, rfl, ((lit1 _ y g2 (by simp; omega)).alloc _).alloc _⟩
    · exact ⟨_, rfl, (lit1 _ z g3 (by simp; omega)).alloc _⟩
    · exact ⟨_, rfl, lit1 _ t g4 (by simp; omega)⟩)
theorem litH (w : World) (i1 i2 : Int) (x y : B) (g1 g2 g3 : Nat) (h1 : w.heap.size = g1) (h2 : w.heap.size + 1 = g2) (h3 : w.heap.size + 1 + 1 = g3) :
    HeldAt (((w.alloc (.cells #[bv x] 5)).alloc (.cells #[bv y] 5)).alloc (.cells #[.int .i64 i1, .slice (some ⟨g1, 0, none⟩) 1 1, .int .i64 i2, .slice (some ⟨g2, 0, none⟩) 1 1] 57)) (.slice (some ⟨g3, 0, none⟩) 2 2) [(i1, [x]), (i2, [y])] := by
  have e : ((w.alloc (.cells #[bv x] 5)).alloc (.cells #[bv y] 5)).heap.size = g3 := by simp; omega
  refine ⟨_, _, rfl, Nat.le_refl _, fun _ => ⟨g3, 0, rfl, fun i hi => ?_⟩⟩
  subst e
  have hi' : i < 2 := hi
  obtain rfl | rfl : i = 0 ∨ i = 1 := by omega
  · exact ⟨(World.cell?_alloc_new _ _ _ 0).trans rfl, _, (World.cell?_alloc_new _ _ _ 1).trans rfl, ((lit1 w x g1 h1).alloc _).alloc _⟩
  · exact ⟨(World.cell?_alloc_new _ _ _ 2).trans rfl, _, (World.cell?_alloc_new _ _ _ 3).trans rfl, (lit1 _ y g2 (by simp; omega)).alloc _⟩

theorem bal (w : World) (x : Obj) : Below w.heap.size w (w.alloc x) := (Kept.alloc (fun _ => False) w x).toBelow (Nat.le_refl _) (fun _ h => h.elim)
theorem bb {a b c : World} (h1 : Below a.heap.size a b) (h2 : Below b.heap.size b c) : Below a.heap.size a c := below_more h1 h2 h1.size

theorem awake_any (w : World) :
    Calls Tryz.prog 8 #[] w fun e w' => e = .returned (.bool true) ∧ Below w.heap.size w w' := by
  go_enter Tryz.func8, Tryz.ntmps8
  go_wp2_with fail
  refine (cnew_any w 4 2 (by omega) (by omega) (by omega)).mono ?_
  rintro e w1 ⟨bc, bf, vt, rfl, hc, hB1⟩
  have HC := Lib.hid hc
  have HB1 := Lib.hid hB1
  clear hc hB1
  go_wp2_with fail
  refine ((encode_any _ (HC.out.below (bb (bb (bal _ _) (bal _ _)) (bal _ _))) _ [[ofB 5], [ofB 4]] 1 (litR2 w1 (ofB 5) (ofB 4) _ _ _ rfl rfl rfl) rfl (fun i hi => by
    obtain rfl | rfl : i = 0 ∨ i = 1 := by simp at hi; omega
    · rfl
    · rfl) (by omega)).mono ?_)
  rintro e w2 ⟨vl, rfl, hl, hB2⟩
  have HB2 := Lib.hid (bb (bb (bb (bal _ _) (bal _ _)) (bal _ _)) hB2)
  have HL := Lib.hid (show RowsAt w2 vl [[ofB 5], [ofB 4], [ofB 7], [ofB 6]] by rw [← ex_enc]; exact hl.rows)
  have HC2 := Lib.hid (HC.out.below HB2.out)
  clear hB2 hl
  go_wp2_with fail
  refine ((decode_any _ (HC2.out.below (bb (bb (bal _ _) (bal _ _)) (bal _ _))) _ [(2, [ofB 7]), (3, [ofB 6])] 1 (litH w2 2 3 (ofB 7) (ofB 6) _ _ _ rfl rfl rfl) (by decide) rfl (by omega)).mono ?_)
  rw [ex_decE]
  rintro e w3 ⟨vd, rfl, hd, _, hB3⟩
  have HB3 := Lib.hid (bb (bb (bb (bal _ _) (bal _ _)) (bal _ _)) hB3)
  have HD := Lib.hid (show RowsAt w3 vd [[ofB 5], [ofB 4]] by rw [← ex_dec]; exact (hd rfl).rows)
  have HL3 := Lib.hid (HL.out.below HB3.out)
  clear hB3 hd
  go_wp2_with fail
  refine (sameRows_any _ _ _ _ (HL3.out.below (bb (bb (bb (bb (bal _ _) (bal _ _)) (bal _ _)) (bal _ _)) (bal _ _))) (litR4 w3 (ofB 5) (ofB 4) (ofB 7) (ofB 6) _ _ _ _ _ rfl rfl rfl rfl rfl) (by decide) (by decide)).mono ?_
  rintro e w4 ⟨rfl, n4, h4⟩
  have HB4 := Lib.hid (show Below w3.heap.size w3 w4 by rw [h4]; exact bb (bb (bb (bb (bb (bal _ _) (bal _ _)) (bal _ _)) (bal _ _)) (bal _ _)) ((Kept.refl (fun _ => False) _).drewN n4 |>.toBelow (Nat.le_refl _) (fun _ h => h.elim)))
  have HD4 := Lib.hid (HD.out.below HB4.out)
  clear h4
  go_wp2_with fail
  refine (sameRows_any _ _ _ _ (HD4.out.below (bb (bb (bal _ _) (bal _ _)) (bal _ _))) (litR2 w4 (ofB 5) (ofB 4) _ _ _ rfl rfl rfl) (by decide) (by decide)).mono ?_
  rintro e w5 ⟨rfl, n5, h5⟩
  have HB5 := Lib.hid (show Below w4.heap.size w4 w5 by rw [h5]; exact bb (bb (bb (bal _ _) (bal _ _)) (bal _ _)) ((Kept.refl (fun _ => False) _).drewN n5 |>.toBelow (Nat.le_refl _) (fun _ h => h.elim)))
  clear h5
  go_wp2
  go_ret
  exact ⟨rfl, bb (bb (bb (bb HB1.out HB2.out) HB3.out) HB4.out) HB5.out⟩

end Go.Proofs.YtaaahbpeaamjgaaGreat
