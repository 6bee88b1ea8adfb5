/-
  LayW: Layer 10, walks: the chapter's example. (Under way.)
  TcG: Walks of layer 18: the chapter's example.
  CodeOp: What came in: slices of bytes, rows, held symbols; their bounds.
-/
import Derived.Test.YtibelpamolcmcaaMxau
import Derived.Test.YtibelpamolcmcaaMxbl
import Derived.Test.YtibelpamolcmcaaMxbk
import Derived.Test.YtibelpamolcmcaaMxbi
import Derived.Test.YtibelpamolcmcaaMxaz
import Derived.Test.YtibelpamolcmcaaMxal
import Derived.ProofKit
import Derived.OpenShut
import Derived.Deep.SlicePairs
import Derived.SizedLaws
namespace Go.Proofs.Ytibelpamolcmcaa

section -- LayW
open Go.RowKit Go.Maps
set_option linter.unusedVariables false
set_option linter.unusedSimpArgs false
set_option maxRecDepth 100000
set_option maxHeartbeats 4000000

/-- A literal of bytes; of rows; of numbers; of a table. -/
theorem litB (w : World) (l : List B) (us : Array Value) (hus : us = (l.map bv).toArray) (g n : Nat) (hg : w.heap.size = g) (hn : l.length = n) : BytesAt (w.alloc (.cells us 5)) (.slice (some ⟨g, 0, none⟩) n n) l := by
  subst hg
  subst hn
  subst hus
  exact ⟨_, _, rfl, fun _ => ⟨_, _, rfl, fun i hi => by
    rw [Nat.zero_add]
    refine (World.cell?_alloc_new w _ _ i).trans ?_
    simp [List.getD_eq_getElem?_getD, hi]⟩⟩
theorem BytesAt.allocW {w : World} {v : Value} {l : List B} (h : BytesAt w v l) (x : Obj) : BytesAt (w.alloc x) v l := h.kept (Kept.alloc (fun _ => False) w x) (fun _ _ h => h)
theorem litRW (w : World) (us : Array Value) (ls : List (List B)) (n g : Nat) (hg : w.heap.size = g) (hn : ls.length = n) (h : ∀ i, i < n → ∃ u, us[i]? = some u ∧ BytesAt w u (ls.getD i [])) : RowsAt (w.alloc (.cells us 32)) (.slice (some ⟨g, 0, none⟩) n n) ls := by
  subst hg
  subst hn
  exact ⟨_, _, rfl, fun _ => ⟨_, _, rfl, fun i hi => by
    obtain ⟨u, h1, h2⟩ := h i hi
    exact ⟨u, by rw [Nat.zero_add]; exact (World.cell?_alloc_new w _ _ i).trans h1, h2.allocW _⟩⟩⟩
theorem litI2 (w : World) (a b : Int) (g : Nat) (hg : w.heap.size = g) : IntsAt (w.alloc (.cells #[.int .i64 a, .int .i64 b] 3)) (.slice (some ⟨g, 0, none⟩) 2 2) [a, b] := by
  subst hg
  refine ⟨_, 2, rfl, Nat.le_refl _, fun _ => ⟨_, 0, rfl, fun i hi => ?_⟩⟩
  have hi2 : i < 2 := hi
  rw [Nat.zero_add]
  refine (World.cell?_alloc_new w _ _ i).trans ?_
  obtain rfl | rfl : i = 0 ∨ i = 1 := by omega
  · rfl
  · rfl
theorem litT2 (w : World) (a b c d : Int) (g : Nat) (hg : w.heap.size = g) : TableAt (w.alloc (.cells #[.int .i64 a, .int .i64 b, .int .i64 c, .int .i64 d] 80)) (.slice (some ⟨g, 0, none⟩) 2 2) [(a, b), (c, d)] := by
  subst hg
  refine ⟨_, 2, rfl, Nat.le_refl _, fun _ => ⟨_, 0, rfl, fun i hi => ?_⟩⟩
  have hi2 : i < 2 := hi
  rw [Nat.zero_add]
  obtain rfl | rfl : i = 0 ∨ i = 1 := by omega
  · exact ⟨(World.cell?_alloc_new w _ _ 0).trans rfl, (World.cell?_alloc_new w _ _ 1).trans rfl⟩
  · exact ⟨(World.cell?_alloc_new w _ _ 2).trans rfl, (World.cell?_alloc_new w _ _ 3).trans rfl⟩
/-- The example's bodies. -/
theorem exBods (w : World) (g1 g2 g3 g4 : Nat) (h1 : w.heap.size = g1) (h2 : w.heap.size + 1 = g2) (h3 : w.heap.size + 1 + 1 = g3) (h4 : w.heap.size + 1 + 1 + 1 = g4) :
    RowsAt ((((w.alloc (.cells #[bv (ofB 5), bv (ofB 7)] 5)).alloc (.cells #[bv (ofB 5), bv (ofB 8)] 5)).alloc (.cells #[bv (ofB 5), bv (ofB 25)] 5)).alloc (.cells #[.slice (some ⟨g1, 0, none⟩) 2 2, .slice (some ⟨g2, 0, none⟩) 2 2, .slice (some ⟨g3, 0, none⟩) 2 2] 32)) (.slice (some ⟨g4, 0, none⟩) 3 3) [[ofB 5, ofB 7], [ofB 5, ofB 8], [ofB 5, ofB 25]] :=
  litRW _ _ [[ofB 5, ofB 7], [ofB 5, ofB 8], [ofB 5, ofB 25]] 3 g4 (by simp; omega) rfl (fun i hi => by
    obtain rfl | rfl | rfl : i = 0 ∨ i = 1 ∨ i = 2 := by omega
    · exact ⟨_, rfl, ((litB w [ofB 5, ofB 7] _ rfl g1 2 h1 rfl).allocW _).allocW _⟩
    · exact ⟨_, rfl, (litB _ [ofB 5, ofB 8] _ rfl g2 2 (by simp; omega) rfl).allocW _⟩
    · exact ⟨_, rfl, litB _ [ofB 5, ofB 25] _ rfl g3 2 (by simp; omega) rfl⟩)
/-- The example's layers. -/
theorem exRows (w : World) (g1 g2 g3 : Nat) (h1 : w.heap.size = g1) (h2 : w.heap.size + 1 = g2) (h3 : w.heap.size + 1 + 1 = g3) :
    RowsAt (((w.alloc (.cells #[bv (ofB 5)] 5)).alloc (.cells #[bv (ofB 7), bv (ofB 8)] 5)).alloc (.cells #[.slice (some ⟨g1, 0, none⟩) 1 1, .slice (some ⟨g2, 0, none⟩) 2 2] 32)) (.slice (some ⟨g3, 0, none⟩) 2 2) [[ofB 5], [ofB 7, ofB 8]] :=
  litRW _ _ [[ofB 5], [ofB 7, ofB 8]] 2 g3 (by simp; omega) rfl (fun i hi => by
    obtain rfl | rfl : i = 0 ∨ i = 1 := by omega
    · exact ⟨_, rfl, (litB w [ofB 5] _ rfl g1 1 h1 rfl).allocW _⟩
    · exact ⟨_, rfl, litB _ [ofB 7, ofB 8] _ rfl g2 2 (by simp; omega) rfl⟩)
theorem bbW {a b c : World} (h1 : Below a.heap.size a b) (h2 : Below b.heap.size b c) : Below a.heap.size a c := below_more h1 h2 h1.size
theorem RowsLone.cap {w : World} {base g n c i : Nat} {p : Option Addr} {m k : Nat} {ls : List (List B)} (h : RowsLone w base (.slice (some ⟨g, 0, none⟩) n c) ls) (hi : i < ls.length) (hc : w.cell? ⟨g, i, none⟩ = some (.slice p m k)) : m ≤ k := by
  obtain ⟨us, h1, h2, _⟩ := h
  have hil : i < us.length := by have := h1.1; omega
  have hz := List.getElem?_eq_getElem hil
  have hc2 := h1.cells (g := g) rfl i _ hz
  rw [add_zero_off, hc] at hc2
  have e := Option.some.inj hc2
  obtain ⟨ho, _⟩ := h2 i _ hz
  rw [← e] at ho
  rcases ho.2 with ⟨e2, _⟩ | ⟨g2, cap, cur, e2, _, _, hn, _⟩
  · have := (Value.slice.inj e2).2; omega
  · obtain ⟨_, q1, q2⟩ := Value.slice.inj e2
    omega
theorem ex_h1 : heldE 3 (atT [(1, 1), (2, 2)] [((1 : Int), (1 : Int)), (2, 2)].length) [(2, [ofB 5, ofB 25])] = 0 := by decide +kernel
theorem ex_h2 : heldE 3 (atT [(1, 1), (2, 2)] [((1 : Int), (1 : Int)), (2, 2)].length) [(2, [ofB 5, ofB 25]), (0, [ofB 5, ofB 7])] = 0 := by decide +kernel
theorem ex_bE : bodE 3 [[ofB 5], [ofB 7, ofB 8]] [1, 2] = 0 := by decide +kernel
theorem bv5 : bv (ofB 5) = .int .u8 5 := rfl
end -- LayW

section -- TcG
open Go.RowKit Go.Maps
set_option linter.unusedVariables false
set_option linter.unusedSimpArgs false
set_option maxRecDepth 100000
set_option maxHeartbeats 4000000

theorem head_f1 (W : World) (a b c d e : Int) (v : Value) : (Instr.field 31 (.agg #[.int .i64 a, .int .i64 b, .int .i64 c, .int .i64 d, .int .i64 e, v]) 1).run Try.prog W = .ok (.int .i64 b) W := by kernel_rfl
theorem tawake_any (w : World) :
    Calls Try.prog 5 #[] w fun e w' => e = .returned (.bool true) ∧ Below w.heap.size w w' := by
  go_enter Try.func5, Try.ntmps5
  go_wp2_with fail
  refine (tnew_ok (base := w.heap.size) (gn := 2) (cn := 100) w (Nat.le_refl _) (by decide) (by decide) (by decide) (by decide)).mono ?_
  rintro e w1 ⟨rfl, hT, hB1⟩
  have HT1 := Lib.hid hT
  have HB1 := Lib.hid hB1
  clear hT hB1
  go_wp2_with fail
  refine (lawof_any w1 5 9 0 2 2).mono ?_
  rintro e w2 ⟨v2, rfl, hv2, ho2, hB2⟩
  have HA2 := Lib.hid (balT w2 (.cells #[.int .u8 1] 5))
  have HW2 := Lib.hid (below_more (below_more HB1.out hB2 HB1.out.size) HA2.out (below_more HB1.out hB2 HB1.out.size).size)
  have HT2 := Lib.hid ((HT1.out.below hB2).below HA2.out)
  have HV2 := Lib.hid (hv2.below HA2.out)
  have HL2 := Lib.hid (litBt w2 [ofB 1] _ rfl _ 1 rfl rfl)
  have HO2 := Lib.hid (show ∀ k, v2.ownBlock = some k → ¬ PutS w.heap.size (.slice none 0 0) [] k from fun k e h => by
    have h1 := ho2 k e
    have h2 := (HT1.out.putS h).2
    omega)
  have HP2 := Lib.hid (show ¬ PutS w.heap.size (.slice none 0 0) [] w2.heap.size from fun h => by
    have h2 := (HT1.out.putS h).2
    have h3 := hB2.size
    omega)
  clear hv2 ho2 hB2
  go_wp2_with fail
  refine (put_ok HT2.out (TabP.nil (by decide) (by decide) (by decide) (by decide)) HW2.out.size (exH 5 9) v2 HV2.out _ 1 1 [ofB 1] HL2.out (by decide) (exH_ref (by decide) (by decide) (by decide)) (fun _ k e => by cases e; exact HP2.out) HO2.out).mono ?_
  rintro e w3 ⟨vo3, v3, gs3, outs3, m3, rfl, hT3, hR3, hO3, hG3, hK3⟩
  obtain ⟨g1, rfl, hg1, hs1⟩ := ex_one hR3
  have HP3 := Lib.hid (hR3.tabP (TabP.nil (by decide) (by decide) (by decide) (by decide)) (exH_ref (by decide) (by decide) (by decide)))
  have HG1 := Lib.hid (And.intro hg1 hs1)
  have HT3 := Lib.hid hT3
  have HW3 := Lib.hid (show Below w.heap.size w w3 from HW2.out.trans (hK3.toBelow HW2.out.size fun k h => (HT2.out.putS h).1))
  clear hT3 hR3 hO3 hG3 hK3 hg1 hs1
  go_wp2_with fail
  refine (lawof_any w3 6 8 0 2 2).mono ?_
  rintro e w4 ⟨v4, rfl, hv4, ho4, hB4⟩
  have HA4 := Lib.hid (balT w4 (.cells #[.int .u8 1] 5))
  have HW4 := Lib.hid (below_more (below_more HW3.out hB4 HW3.out.size) HA4.out (below_more HW3.out hB4 HW3.out.size).size)
  have HT4 := Lib.hid ((HT3.out.below hB4).below HA4.out)
  have HV4 := Lib.hid (hv4.below HA4.out)
  have HL4 := Lib.hid (litBt w4 [ofB 1] _ rfl _ 1 rfl rfl)
  have HO4 := Lib.hid (show ∀ k, v4.ownBlock = some k → ¬ PutS w.heap.size v3 [g1] k from fun k e h => by
    have h1 := ho4 k e
    have h2 := (HT3.out.putS h).2
    omega)
  have HP4 := Lib.hid (show ¬ PutS w.heap.size v3 [g1] w4.heap.size from fun h => by
    have h2 := (HT3.out.putS h).2
    have h3 := hB4.size
    omega)
  have HE4 := Lib.hid (show refE [g1] (exH 6 8) 1 100 = 0 from exH_ref (by decide) (by decide) (by
    show (6 : Int) ∉ [g1.H.frame]
    rw [HG1.out.1]
    decide))
  clear hv4 ho4 hB4
  go_wp2_with fail
  refine (put_ok HT4.out HP3.out HW4.out.size (exH 6 8) v4 HV4.out _ 1 1 [ofB 1] HL4.out (by decide) HE4.out (fun _ k e => by cases e; exact HP4.out) HO4.out).mono ?_
  rintro e w5 ⟨vo5, v5, gs5, outs5, m5, rfl, hT5, hR5, hO5, hG5, hK5⟩
  obtain ⟨g2, rfl, hg2, hs2⟩ := ex_two HG1.out.1 HG1.out.2 rfl hR5
  have HP5 := Lib.hid (hR5.tabP HP3.out HE4.out)
  have HG2 := Lib.hid (And.intro hg2 hs2)
  have HT5 := Lib.hid hT5
  have HW5 := Lib.hid (show Below w.heap.size w w5 from HW4.out.trans (hK5.toBelow HW4.out.size fun k h => (HT4.out.putS h).1))
  clear hT5 hR5 hO5 hG5 hK5 hg2 hs2
  go_wp2_with fail
  refine (lawof_any w5 7 7 0 2 2).mono ?_
  rintro e w6 ⟨v6, rfl, hv6, ho6, hB6⟩
  have HA6 := Lib.hid (balT w6 (.cells #[.int .u8 1] 5))
  have HW6 := Lib.hid (below_more (below_more HW5.out hB6 HW5.out.size) HA6.out (below_more HW5.out hB6 HW5.out.size).size)
  have HT6 := Lib.hid ((HT5.out.below hB6).below HA6.out)
  have HV6 := Lib.hid (hv6.below HA6.out)
  have HL6 := Lib.hid (litBt w6 [ofB 1] _ rfl _ 1 rfl rfl)
  have HO6 := Lib.hid (show ∀ k, v6.ownBlock = some k → ¬ PutS w.heap.size v5 [g2, g1] k from fun k e h => by
    have h1 := ho6 k e
    have h2 := (HT5.out.putS h).2
    omega)
  have HP6 := Lib.hid (show ¬ PutS w.heap.size v5 [g2, g1] w6.heap.size from fun h => by
    have h2 := (HT5.out.putS h).2
    have h3 := hB6.size
    omega)
  have HE6 := Lib.hid (show refE [g2, g1] (exH 7 7) 1 100 = 0 from exH_ref (by decide) (by decide) (by
    show (7 : Int) ∉ [g2.H.frame, g1.H.frame]
    rw [HG1.out.1, HG2.out.1]
    decide))
  clear hv6 ho6 hB6
  go_wp2_with fail
  refine (put_ok HT6.out HP5.out HW6.out.size (exH 7 7) v6 HV6.out _ 1 1 [ofB 1] HL6.out (by decide) HE6.out (fun _ k e => by cases e; exact HP6.out) HO6.out).mono ?_
  rintro e w7 ⟨vo7, v7, gs7, outs7, m7, rfl, hT7, hR7, hO7, hG7, hK7⟩
  obtain ⟨g3, rfl, rfl, hg3, hs3⟩ := ex_three HG1.out.1 HG1.out.2 HG2.out.1 HG2.out.2 rfl hR7
  have HG3 := Lib.hid (And.intro hg3 hs3)
  have HT7 := Lib.hid hT7
  have HD7 := Lib.hid (hG7 g2 (by simp))
  have HW7 := Lib.hid (show Below w.heap.size w w7 from HW6.out.trans (hK7.toBelow HW6.out.size fun k h => (HT6.out.putS h).1))
  obtain ⟨p7, c7, rfl, hc7, -, -, hcell⟩ := own_row (n := 1) hO7 (by decide)
  have HC7 := Lib.hid (show w7.cell? ⟨p7, 0, none⟩ = some (.pointer (some ⟨g2.blk, 0, none⟩)) from hcell 0 (by decide))
  clear hT7 hR7 hO7 hG7 hK7 hg3 hs3 hcell
  have hh := ghead_any HD7.out
  rw [HG2.out.1] at hh
  have HH := Lib.hid hh
  clear hh
  have hc7' := HC7.out
  go_wp2_with fail
  refine HH.out.mono ?_
  rintro e w8 ⟨v8, rfl, hv8, hB8⟩
  have HT8 := Lib.hid (HT7.out.below hB8)
  have HW8 := Lib.hid (below_more HW7.out hB8 HW7.out.size)
  clear hc7' hv8 hB8
  go_wp2_with fail
  simp only [head_f1]
  go_wp2_with fail
  refine (tframes_any HT8.out).mono ?_
  rintro e w9 ⟨vf, rfl, hvf, hB9⟩
  have HA9 := Lib.hid (balT w9 (.cells #[.int .i64 7, .int .i64 5] 3))
  have HT9 := Lib.hid ((HT8.out.below hB9).below HA9.out)
  have HW9 := Lib.hid (below_more (below_more HW8.out hB9 HW8.out.size) HA9.out (below_more HW8.out hB9 HW8.out.size).size)
  have HF9 := Lib.hid (show IntsAt _ vf [7, 5] from by
    have h1 := hvf.below HA9.out
    have h2 : framesG [g3, g1] = [7, 5] := by
      show [g3.H.frame, g1.H.frame] = [7, 5]
      rw [HG3.out.1, HG1.out.1]
      rfl
    rw [h2] at h1
    exact h1)
  clear hvf hB9
  go_wp2_with fail
  refine (sameInts_any _ vf _ [7, 5] HF9.out (litI2 w9 7 5 _ rfl) (by decide)).mono ?_
  rintro e w10 ⟨rfl, q10, h10⟩
  have HB10 := Lib.hid (show Below _ (w9.alloc (.cells #[.int .i64 7, .int .i64 5] 3)) w10 from by rw [h10]; exact (Kept.refl (fun _ => False) _).drewN q10 |>.toBelow (Nat.le_refl _) (fun _ h => h.elim))
  have HT10 := Lib.hid (HT9.out.below HB10.out)
  have HW10 := Lib.hid (below_more HW9.out HB10.out HW9.out.size)
  clear h10
  have hb := tbytes_any HT10.out
  rw [show totalG [g3, g1] = 2 from by
    rw [totalG_cons, totalG_cons, ex_bytes HG3.out.1 HG3.out.2, ex_bytes HG1.out.1 HG1.out.2]
    rfl] at hb
  have HBY := Lib.hid hb
  clear hb
  go_wp2_with fail
  refine HBY.out.mono ?_
  rintro e w11 ⟨rfl, hB11⟩
  have HW11 := Lib.hid (below_more HW10.out hB11 HW10.out.size)
  go_wp2
  go_ret
  exact ⟨rfl, HW11.out⟩
end -- TcG

section -- CodeOp
open Go.ChangeShapes Go.WideShapes Go.ChangeAt Go.RowKit Go.Deep
set_option linter.unusedVariables false

section
variable {H : Type} {enc : TypeId × Value → H} {P : Program} {w : World}

/-- Each part of what came in fits into memory. -/
def Fits (P : Program) (t : TypeId) (d : DataW H) : Prop := ∀ n ∈ d.weights P t, n ≤ reachBytes
theorem fits_all {e : TypeId} : ∀ {l : List (DataW H)} {d : DataW H}, d ∈ l → ∀ n ∈ d.weights P e, n ∈ DataW.weightsAll P e l
  | d0 :: l, d, h, n, hn => by
    simp only [DataW.weightsAll, List.mem_append]
    rcases List.mem_cons.1 h with rfl | h
    · exact .inl hn
    · exact .inr (fits_all h n hn)
theorem fits_elem {t e : TypeId} {elems spare : List (DataW H)} (hu : P.underlying t = some (.slice e)) (h : Fits P t (.slice elems spare)) {d : DataW H} (hd : d ∈ elems) : Fits P e d := fun n hn =>
  h n (by simp only [DataW.weights, hu, List.mem_cons, List.mem_append]; exact .inr (.inl (fits_all hd n hn)))
theorem fits_len {t e : TypeId} {elems spare : List (DataW H)} (hu : P.underlying t = some (.slice e)) (h : Fits P t (.slice elems spare)) : (elems.length + spare.length) * P.bytesOf e ≤ reachBytes :=
  h _ (by simp only [DataW.weights, hu, List.mem_cons]; exact .inl trivial)
theorem fits_two {t : TypeId} {f0 f1 : Field} {d0 d1 : DataW H} (hu : P.underlying t = some (.struct #[f0, f1])) (h : Fits P t (.agg [d0, d1])) : Fits P f1.type d1 := fun n hn =>
  h n (by simp only [DataW.weights, hu, List.map_cons, List.map_nil, DataW.weightsEach, List.mem_append]; exact .inr (.inl hn))

theorem byte_of {n : Int} (h : (Lit.int .u8 n).wf = true) : Value.int .u8 n = bv (ofB n.toNat) := by
  have : 0 ≤ n ∧ n ≤ 255 := by simpa [Lit.wf, IntKind.min, IntKind.max, IntKind.signed, IntKind.bits] using h
  unfold bv ofB
  congr 1
  simp only
  omega

theorem open_bytes {t e : TypeId} {fuel : Nat} {v : Value} {x : DataW H × List MemPlace} (ht : P.underlying t = some (.slice e)) (he : P.underlying e = some (.int .u8)) (ce : P.cellsOf e = 1) (hb : P.bytesOf e = 1)
    (h : DataW.trod enc P w 0 (fun _ => true) true fuel t [v] = some x) (hf : Fits P t x.1) : ∃ l, BytesAt w v l ∧ l.length ≤ 140737488355328 := by
  rcases open_slice1 ht ce h with ⟨hc, _⟩ | ⟨a, len, cap, m, n, V, D, Pl, hc, _, hl, hm, hmm, rfl, hx⟩
  · obtain rfl : v = .slice none 0 0 := by simpa using hc
    exact ⟨[], BytesAt.nil w, by simp⟩
  · obtain rfl : v = .slice (some a) len cap := by simpa using hc
    have hmm' : m = cap := by simpa using hmm
    subst hmm'
    have k0 : ∀ i, i < m → V i = bv (ofB (intOf (V i)).toNat) := by
      intro i hi
      obtain ⟨k, e, _, hw⟩ := DataW.trod_int he (hx i hi).2
      have e' : V i = .int .u8 k := by simpa using e
      rw [e']
      exact byte_of hw
    have hlen := fits_len ht hf
    rw [hb] at hlen
    simp at hlen
    refine ⟨(List.range len).map fun i => ofB (intOf (V i)).toNat, ⟨some a, m, by simp, fun h0 => ?_⟩, by simp; have : reachBytes < 2 ^ 47 := reachBytes_lt; omega⟩
    simp at h0
    obtain ⟨b, off, spot⟩ := a
    have hz := (hx 0 (by omega)).1
    have hspot : spot = none := by
      have := World.cell?_spot hz
      simpa [Addr.add] using this
    subst hspot
    refine ⟨b, off, rfl, fun i hi => ?_⟩
    simp at hi
    have := (hx i (by omega)).1
    rw [add_plain] at this
    rw [this, getD_range _ _ hi, ← k0 i (by omega)]

theorem open_rows {t e q : TypeId} {fuel : Nat} {v : Value} {x : DataW H × List MemPlace} (ht : P.underlying t = some (.slice e)) (he : P.underlying e = some (.slice q)) (hq : P.underlying q = some (.int .u8)) (ce : P.cellsOf e = 1) (cq : P.cellsOf q = 1) (be : P.bytesOf e = 24) (bq : P.bytesOf q = 1)
    (h : DataW.trod enc P w 0 (fun _ => true) true fuel t [v] = some x) (hf : Fits P t x.1) : ∃ ls, RowsAt w v ls ∧ ls.length ≤ 140737488355328 ∧ ∀ i, i < ls.length → (ls.getD i []).length ≤ 140737488355328 := by
  rcases open_slice1 ht ce h with ⟨hc, _⟩ | ⟨a, len, cap, m, n, V, D, Pl, hc, _, hl, hm, hmm, rfl, hx⟩
  · obtain rfl : v = .slice none 0 0 := by simpa using hc
    exact ⟨[], RowsAt.nil w, by simp, fun i hi => by simp at hi⟩
  · obtain rfl : v = .slice (some a) len cap := by simpa using hc
    have hmm' : m = cap := by simpa using hmm
    subst hmm'
    have hlen := fits_len ht hf
    rw [be] at hlen
    simp at hlen
    have hr : reachBytes < 2 ^ 47 := reachBytes_lt
    have each : ∀ i, i < len → ∃ l, BytesAt w (V i) l ∧ l.length ≤ 140737488355328 := fun i hi =>
      open_bytes he hq cq bq (hx i (by omega)).2 (fits_elem ht hf (List.mem_map.2 ⟨i, List.mem_range.2 hi, rfl⟩))
    obtain ⟨F, hF⟩ := choose_lt each
    refine ⟨(List.range len).map F, ⟨some a, m, by simp, fun h0 => ?_⟩, by simp; omega, fun i hi => ?_⟩
    · simp at h0
      obtain ⟨b, off, spot⟩ := a
      have hz := (hx 0 (by omega)).1
      have hspot : spot = none := by
        have := World.cell?_spot hz
        simpa [Addr.add] using this
      subst hspot
      refine ⟨b, off, rfl, fun i hi => ?_⟩
      simp at hi
      have := (hx i (by omega)).1
      rw [add_plain] at this
      exact ⟨V i, this, by rw [getD_range _ _ hi]; exact (hF i hi).1⟩
    · simp at hi
      rw [getD_range _ _ hi]
      exact (hF i hi).2

theorem open_held {t e : TypeId} {f0 f1 : Field} {q : TypeId} {fuel : Nat} {v : Value} {x : DataW H × List MemPlace} (ht : P.underlying t = some (.slice e)) (he : P.underlying e = some (.struct #[f0, f1]))
    (ce : P.cellsOf e = 2) (o0 : f0.offset = 0) (o1 : f1.offset = 1) (c0 : P.cellsOf f0.type = 1) (c1 : P.cellsOf f1.type = 1) (u0 : P.underlying f0.type = some (.int .i64)) (u1 : P.underlying f1.type = some (.slice q)) (hq : P.underlying q = some (.int .u8)) (cq : P.cellsOf q = 1) (be : P.bytesOf e = 32) (bq : P.bytesOf q = 1)
    (h : DataW.trod enc P w 0 (fun _ => true) true fuel t [v] = some x) (hf : Fits P t x.1) : ∃ hs, HeldAt w v hs ∧ hs.length ≤ 4500000000000 ∧ ∀ i, i < hs.length → (hs.getD i (0, [])).2.length ≤ 140737488355328 := by
  rcases open_slice_pairs ht he ce o0 o1 c0 c1 h with ⟨hc, _⟩ | ⟨a, len, cap, m, n, V0, V1, D0, D1, P0, P1, hc, _, hl, hm, hmm, rfl, hx⟩
  · obtain rfl : v = .slice none 0 0 := by simpa using hc
    exact ⟨[], ⟨none, 0, rfl, Nat.le_refl _, fun h => absurd h (by simp)⟩, by simp, fun i hi => by simp at hi⟩
  · obtain rfl : v = .slice (some a) len cap := by simpa using hc
    have hmm' : m = cap := by simpa using hmm
    subst hmm'
    have hlen := fits_len ht hf
    rw [be] at hlen
    simp at hlen
    have hr : reachBytes < 2 ^ 47 := reachBytes_lt
    have k0 : ∀ i, i < m → V0 i = .int .i64 (intOf (V0 i)) := by
      intro i hi
      obtain ⟨k, e, _, hw⟩ := DataW.trod_int u0 (hx i hi).2.2.1
      have e' : V0 i = .int .i64 k := by simpa using e
      rw [e']
      rfl
    have each : ∀ i, i < len → ∃ l, BytesAt w (V1 i) l ∧ l.length ≤ 140737488355328 := fun i hi =>
      open_bytes u1 hq cq bq (hx i (by omega)).2.2.2 (fits_two he (fits_elem ht hf (List.mem_map.2 ⟨i, List.mem_range.2 hi, rfl⟩)))
    obtain ⟨F, hF⟩ := choose_lt each
    refine ⟨(List.range len).map fun i => (intOf (V0 i), F i), ⟨some a, m, by simp, by simp; exact hl, fun h0 => ?_⟩, by simp; omega, fun i hi => ?_⟩
    · simp at h0
      obtain ⟨b, off, spot⟩ := a
      have hz := (hx 0 (by omega)).1
      have hspot : spot = none := by
        have := World.cell?_spot hz
        simpa [Addr.add] using this
      subst hspot
      refine ⟨b, off, rfl, fun i hi => ?_⟩
      simp at hi
      obtain ⟨h0, h1, _, _⟩ := hx i (by omega)
      rw [add_plain] at h0 h1
      rw [k0 i (by omega)] at h0
      rw [getD_range _ _ hi]
      exact ⟨h0, V1 i, by rw [Nat.add_assoc]; exact h1, (hF i hi).1⟩
    · simp at hi
      rw [getD_range _ _ hi]
      exact (hF i hi).2
end
end -- CodeOp

end Go.Proofs.Ytibelpamolcmcaa
