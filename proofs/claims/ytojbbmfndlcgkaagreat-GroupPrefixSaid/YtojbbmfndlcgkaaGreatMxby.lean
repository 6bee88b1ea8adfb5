/-
  Walks of layer 17: the chapter's example.
-/
import Derived.Test.YtojbbmfndlcgkaaGreatMxbw
import Derived.Test.YtojbbmfndlcgkaaGreatMxbx
namespace Go.Proofs.YtojbbmfndlcgkaaGreat
open Go.RowKit Go.Maps
set_option linter.unusedVariables false
set_option linter.unusedSimpArgs false
set_option maxRecDepth 100000
set_option maxHeartbeats 4000000

theorem litB (w : World) (l : List B) (us : Array Value) (hus : us = (l.map bv).toArray) (g n : Nat) (hg : w.heap.size = g) (hn : l.length = n) : BytesAt (w.alloc (.cells us 5)) (.slice (some ⟨g, 0, none⟩) n n) l := by
  subst hg
  subst hn
  subst hus
  exact ⟨_, _, rfl, fun _ => ⟨_, _, rfl, fun i hi => by
    rw [Nat.zero_add]
    refine (World.cell?_alloc_new w _ _ i).trans ?_
    simp [List.getD_eq_getElem?_getD, hi]⟩⟩
theorem BytesAt.allocW {w : World} {v : Value} {l : List B} (h : BytesAt w v l) (x : Obj) : BytesAt (w.alloc x) v l := h.kept (Kept.alloc (fun _ => False) w x) (fun _ _ h => h)
theorem litRW (w : World) (us : Array Value) (ls : List (List B)) (n g : Nat) (hg : w.heap.size = g) (hn : ls.length = n) (h : ∀ i, i < n → ∃ u, us[i]? = some u ∧ BytesAt w u (ls.getD i [])) : RowsAt (w.alloc (.cells us 39)) (.slice (some ⟨g, 0, none⟩) n n) ls := by
  subst hg
  subst hn
  exact ⟨_, _, rfl, fun _ => ⟨_, _, rfl, fun i hi => by
    obtain ⟨u, h1, h2⟩ := h i hi
    exact ⟨u, by rw [Nat.zero_add]; exact (World.cell?_alloc_new w _ _ i).trans h1, h2.allocW _⟩⟩⟩

theorem gx_h (i : Int) (h1 : 0 ≤ i) (h2 : i ≤ 2) : HeadOk ⟨1, 1, i, 3, 9, [(1, 1), (2, 2)]⟩ := by
  have h0 : TableOk 3 [((1 : Int), (1 : Int)), (2, 2)] := by decide +kernel
  have h3 : (0 : Int) ≤ 1 ∧ (1 : Int) ≤ 65535 ∧ (1 : Int) ≤ 1 ∧ (1 : Int) ≤ 2147483647 ∧ (0 : Int) ≤ 9 ∧ (9 : Int) ≤ 2147483647 := by decide
  exact ⟨h0, h1, show i ≤ 3 - 1 by omega, h3⟩
theorem gx_like (i j : Int) : LikeH ⟨1, 1, i, 3, 9, [(1, 1), (2, 2)]⟩ ⟨1, 1, j, 3, 9, [(1, 1), (2, 2)]⟩ := ⟨rfl, rfl, rfl, rfl, rfl⟩
theorem gx_long : atT [((1 : Int), (1 : Int)), (2, 2)] [((1 : Int), (1 : Int)), (2, 2)].length = 2 := by decide +kernel
theorem gx_lay1 : layersL [(1, 1), (2, 2)] [(2, [ofB 5, ofB 25])] (readyT [(1, 1), (2, 2)] 1) = [[ofB 5]] := by decide +kernel
theorem gx_lay2 : layersL [(1, 1), (2, 2)] [(0, [ofB 5, ofB 7]), (2, [ofB 5, ofB 25])] (readyT [(1, 1), (2, 2)] 2) = [[ofB 5], [ofB 7, ofB 8]] := by decide +kernel

theorem gawake_any (w : World) :
    Calls Tryz.prog 4 #[] w fun e w' => e = .returned (.bool true) ∧ Below w.heap.size w w' := by
  go_enter Tryz.func4, Tryz.ntmps4
  go_wp2_with fail
  refine (small_any w 0).mono ?_
  rintro e w1 ⟨v1, rfl, hv1, hB1⟩
  have HB1 := Lib.hid hB1
  go_wp2_with fail
  refine (gnew_ok w1 ⟨1, 1, 0, 3, 9, [(1, 1), (2, 2)]⟩ v1 hv1 (gx_h 0 (by omega) (by omega))).mono ?_
  rintro e w2 ⟨b, bm, vr, rfl, hG, hB2⟩
  have HG2 := Lib.hid hG
  have HB2 := Lib.hid (below_more HB1.out hB2 HB1.out.size)
  have HB12 := Lib.hid hB2
  clear hv1 hB1 hG hB2
  go_wp2_with fail
  refine (small_any w2 2).mono ?_
  rintro e w3 ⟨v3, rfl, hv3, hB3⟩
  have HG3 := Lib.hid (HG2.out.below hB3)
  have HB3 := Lib.hid (below_more HB2.out hB3 HB2.out.size)
  have HB13 := Lib.hid (below_more HB12.out hB3 HB12.out.size)
  have HV3 := Lib.hid hv3
  clear hv3 hB3
  have HL3 := Lib.hid (balI w3 (.cells #[.int .u8 5, .int .u8 25] 5))
  have HBB3 := Lib.hid (litB w3 [ofB 5, ofB 25] _ rfl _ 2 rfl rfl)
  have HG3' := Lib.hid (HG3.out.below HL3.out)
  have HV3' := Lib.hid (HV3.out.below HL3.out)
  have hs13 : w1.heap.size ≤ (w3.alloc (.cells #[.int .u8 5, .int .u8 25] 5)).heap.size := Nat.le_trans HB13.out.size HL3.out.size
  go_wp2_with fail
  refine (gtake_any HG3'.out hs13 ⟨1, 1, 2, 3, 9, [(1, 1), (2, 2)]⟩ v3 _ [ofB 5, ofB 25] HV3'.out HBB3.out (gx_h 2 (by omega) (by omega)) (gx_like 2 0) gx_long.symm (by simp)).mono ?_
  rintro e w4 ⟨V4, rfl, hG4, hK4⟩
  rw [if_neg (by simp)] at hG4 ⊢
  have HG4 := Lib.hid (show GrpAt w4 w1.heap.size b bm ⟨1, 1, 0, 3, 9, [(1, 1), (2, 2)]⟩ vr [(2, [ofB 5, ofB 25])] V4 from hG4)
  have HW4 := Lib.hid (show Below w.heap.size w w4 from (HB3.out.alloc HB3.out.size _).trans (hK4.toBelow (Nat.le_trans HB3.out.size HL3.out.size) (fun k e => by
    have h1 := HG2.out.lo.2.1
    have h2 := HB1.out.size
    omega)))
  clear hG4 hK4
  go_wp2_with fail
  refine (glayers_any HG4.out (by simp)).mono ?_
  rintro e w5 ⟨va, rfl, hva, hB5⟩
  have HVA := Lib.hid (show RowsCut w5 w4.heap.size va [[ofB 5]] from by have := hva; rw [show (([(2, [ofB 5, ofB 25])] : List (Int × List B)).length : Int) = 1 from rfl, gx_lay1] at this; exact this)
  have HG5 := Lib.hid (HG4.out.below hB5)
  have HW5 := Lib.hid (below_more HW4.out hB5 HW4.out.size)
  clear hva hB5
  go_wp2_with fail
  refine (small_any w5 0).mono ?_
  rintro e w6 ⟨v6, rfl, hv6, hB6⟩
  have HG6 := Lib.hid (HG5.out.below hB6)
  have HW6 := Lib.hid (below_more HW5.out hB6 HW5.out.size)
  have HVA6 := Lib.hid (HVA.out.below hB6)
  have HV6 := Lib.hid hv6
  clear hv6 hB6
  have HL6 := Lib.hid (balI w6 (.cells #[.int .u8 5, .int .u8 7] 5))
  have HBB6 := Lib.hid (litB w6 [ofB 5, ofB 7] _ rfl _ 2 rfl rfl)
  have HG6' := Lib.hid (HG6.out.below HL6.out)
  have HV6' := Lib.hid (HV6.out.below HL6.out)
  have HVA6' := Lib.hid (HVA6.out.below HL6.out)
  have hb6 : bm < w4.heap.size := HG4.out.map.lt
  have hs16 : w1.heap.size ≤ (w6.alloc (.cells #[.int .u8 5, .int .u8 7] 5)).heap.size := by
    have h1 := HG2.out.lo.2.1
    have h2 := HG6'.out.map.lt
    omega
  go_wp2_with fail
  refine (gtake_any HG6'.out hs16 ⟨1, 1, 0, 3, 9, [(1, 1), (2, 2)]⟩ v6 _ [ofB 5, ofB 7] HV6'.out HBB6.out (gx_h 0 (by omega) (by omega)) (gx_like 0 0) gx_long.symm (by simp)).mono ?_
  rintro e w7 ⟨V7, rfl, hG7, hK7⟩
  rw [if_neg (by simp)] at hG7 ⊢
  have HG7 := Lib.hid (show GrpAt w7 w1.heap.size b bm ⟨1, 1, 0, 3, 9, [(1, 1), (2, 2)]⟩ vr [(0, [ofB 5, ofB 7]), (2, [ofB 5, ofB 25])] V7 from hG7)
  have HVA7 := Lib.hid (HVA6'.out.kept hK7 (fun k h1 h2 e => by omega))
  have HW7 := Lib.hid (show Below w.heap.size w w7 from (HW6.out.alloc HW6.out.size _).trans (hK7.toBelow (Nat.le_trans HW6.out.size HL6.out.size) (fun k e => by
    have h1 := HG2.out.lo.2.1
    have h2 := HB1.out.size
    omega)))
  clear hG7 hK7
  go_wp2_with fail
  refine (glayers_any HG7.out (by simp)).mono ?_
  rintro e w8 ⟨vb, rfl, hvb, hB8⟩
  have HVB := Lib.hid (show RowsAt w8 vb [[ofB 5], [ofB 7, ofB 8]] from by have := hvb.rows; rw [show (([(0, [ofB 5, ofB 7]), (2, [ofB 5, ofB 25])] : List (Int × List B)).length : Int) = 2 from rfl, gx_lay2] at this; exact this)
  have HG8 := Lib.hid (HG7.out.below hB8)
  have HVA8 := Lib.hid (HVA7.out.rows.below hB8)
  have HW8 := Lib.hid (below_more HW7.out hB8 HW7.out.size)
  clear hvb hB8
  have HBT := Lib.hid (balI w8 (.cells #[.int .u8 5] 5))
  have HBT2 := Lib.hid (balI (w8.alloc (.cells #[.int .u8 5] 5)) (.cells #[.slice (some ⟨w8.heap.size, 0, none⟩) 1 1] 39))
  have HB82 := Lib.hid (below_more HBT.out HBT2.out HBT.out.size)
  go_wp2_with fail
  refine (sameRows_any _ _ _ [[ofB 5]] (HVA8.out.below HB82.out) (litRW _ _ [[ofB 5]] 1 _ (by simp) rfl (fun i hi => by
    obtain rfl : i = 0 := by omega
    exact ⟨_, rfl, litB w8 [ofB 5] _ rfl _ 1 rfl rfl⟩)) (by decide) (by decide)).mono ?_
  rintro e w9 ⟨rfl, q9, h9⟩
  have HB9 := Lib.hid (show Below w8.heap.size w8 w9 from below_more HB82.out (by rw [h9]; exact (Kept.refl (fun _ => False) _).drewN q9 |>.toBelow (Nat.le_refl _) (fun _ h => h.elim)) HB82.out.size)
  have HVB9 := Lib.hid (HVB.out.below HB9.out)
  have HG9 := Lib.hid (HG8.out.below HB9.out)
  have HW9 := Lib.hid (below_more HW8.out HB9.out HW8.out.size)
  clear h9
  have HC1 := Lib.hid (balI w9 (.cells #[.int .u8 5] 5))
  have HC2 := Lib.hid (balI (w9.alloc (.cells #[.int .u8 5] 5)) (.cells #[.int .u8 7, .int .u8 8] 5))
  have HC3 := Lib.hid (balI ((w9.alloc (.cells #[.int .u8 5] 5)).alloc (.cells #[.int .u8 7, .int .u8 8] 5)) (.cells #[.slice (some ⟨w9.heap.size, 0, none⟩) 1 1, .slice (some ⟨w9.heap.size + 1, 0, none⟩) 2 2] 39))
  have HC := Lib.hid (below_more (below_more HC1.out HC2.out HC1.out.size) HC3.out (below_more HC1.out HC2.out HC1.out.size).size)
  go_wp2_with fail
  refine (sameRows_any _ _ _ [[ofB 5], [ofB 7, ofB 8]] (HVB9.out.below HC.out) (litRW _ _ [[ofB 5], [ofB 7, ofB 8]] 2 _ (by simp) rfl (fun i hi => by
    obtain rfl | rfl : i = 0 ∨ i = 1 := by omega
    · exact ⟨_, rfl, (litB w9 [ofB 5] _ rfl _ 1 rfl rfl).below HC2.out⟩
    · exact ⟨_, rfl, litB _ [ofB 7, ofB 8] _ rfl _ 2 (by simp) rfl⟩)) (by decide) (by decide)).mono ?_
  rintro e w10 ⟨rfl, q10, h10⟩
  have HB10 := Lib.hid (show Below w9.heap.size w9 w10 from below_more HC.out (by rw [h10]; exact (Kept.refl (fun _ => False) _).drewN q10 |>.toBelow (Nat.le_refl _) (fun _ h => h.elim)) HC.out.size)
  have HG10 := Lib.hid (HG9.out.below HB10.out)
  have HW10 := Lib.hid (below_more HW9.out HB10.out HW9.out.size)
  clear h10
  have hgw := gwhole_any HG10.out (by simp)
  rw [show (decide ((([((1 : Int), (1 : Int)), (2, 2)] : List (Int × Int)).getD (([((1 : Int), (1 : Int)), (2, 2)] : List (Int × Int)).length - 1) (0, 0)).1 ≤ ((([(0, [ofB 5, ofB 7]), (2, [ofB 5, ofB 25])] : List (Int × List B)).length : Nat) : Int))) = true from rfl] at hgw
  have HGW := Lib.hid hgw
  clear hgw
  go_wp2_with fail
  refine HGW.out.mono ?_
  rintro e w11 ⟨rfl, hB11⟩
  have HW11 := Lib.hid (below_more HW10.out hB11 HW10.out.size)
  go_wp2
  go_ret
  exact ⟨rfl, HW11.out⟩
end Go.Proofs.YtojbbmfndlcgkaaGreat
