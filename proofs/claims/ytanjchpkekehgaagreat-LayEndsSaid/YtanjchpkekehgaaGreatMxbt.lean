/-
  Walks of the kit: putBytes, apart, ApartBytes.
-/
import Derived.Test.YtanjchpkekehgaaGreatMxbs
import Derived.Test.YtanjchpkekehgaaGreatMxbi
namespace Go.Proofs.YtanjchpkekehgaaGreat
open Go.RowKit Go.Maps
set_option linter.unusedVariables false
set_option maxRecDepth 100000
set_option maxHeartbeats 4000000

/-- A bag that holds rows of bytes alone. -/
def BagAt (w : World) (bb : Nat) (v : Value) : Prop := ∃ C : Array Value, w.heap[bb]? = some (.cells C 101 (0, 0)) ∧ C.size = 13 ∧ C[5]? = some v ∧ ∀ i, i < 13 → i ≠ 5 → C[i]? = some (.slice none 0 0)
section
variable {w w' : World} {bb : Nat} {v : Value}
theorem BagAt.lt (h : BagAt w bb v) : bb < w.heap.size := by
  obtain ⟨C, h1, _⟩ := h
  exact (Array.getElem?_eq_some_iff.1 h1).1
theorem BagAt.five (h : BagAt w bb v) : w.cell? ⟨bb, 5, none⟩ = some v := by
  obtain ⟨C, h1, h2, h3, h4⟩ := h
  rw [cell_of h1, h3]
theorem BagAt.nil (h : BagAt w bb v) {i : Nat} (hi : i < 13) (h5 : i ≠ 5) : w.cell? ⟨bb, i, none⟩ = some (.slice none 0 0) := by
  obtain ⟨C, h1, h2, h3, h4⟩ := h
  rw [cell_of h1, h4 i hi h5]
theorem BagAt.fz (h : BagAt w bb v) (o : Nat) : w.frozen? ⟨bb, o, none⟩ = false := by
  obtain ⟨C, h1, _⟩ := h
  exact fz_of h1 o
theorem BagAt.kept {S : Nat → Prop} (h : BagAt w bb v) (hk : Kept S w w') (hS : ¬ S bb) : BagAt w' bb v := by
  obtain ⟨C, h1, h2⟩ := h
  exact ⟨C, (hk.block bb (Array.getElem?_eq_some_iff.1 h1).1 hS).trans h1, h2⟩
theorem BagAt.below (h : BagAt w bb v) (hb : Below w.heap.size w w') : BagAt w' bb v := h.kept (Kept.below hb) (fun h => h)
theorem BagAt.put (h : BagAt w bb v) (u : Value) : BagAt (w.setCell ⟨bb, 5, none⟩ u) bb u := by
  obtain ⟨C, h1, h2, h3, h4⟩ := h
  refine ⟨C.setIfInBounds 5 u, heap_set h1 u, by simpa using h2, Array.getElem?_setIfInBounds_self_of_lt (by omega), fun i hi h5 => ?_⟩
  rw [Array.getElem?_setIfInBounds_ne (fun e => h5 e.symm)]
  exact h4 i hi h5
end

theorem putBytes_any (w : World) (bb base n : Nat) (v : Value) (us : List Value) (h : BagAt w bb v) (ho : w.ownsRow base 50 1 v n us) (hv : v.ownBlock ≠ some bb) (p : Option Addr) (k c : Nat) (hn : n ≤ 100000) (hbase : base ≤ w.heap.size) :
    Calls Tryz.prog 54 #[.pointer (some ⟨bb, 0, none⟩), .slice p k c] w fun e w' => (∃ r, e = .returned r) ∧ ∃ v', BagAt w' bb v' ∧ w'.ownsRow base 50 1 v' (n + 1) (us ++ [.slice p k c]) ∧ v'.ownBlock ≠ some bb ∧ Kept (fun i => v.ownBlock = some i ∨ i = bb) w w' := by
  have HB := Lib.hid h
  have HO := Lib.hid ho
  have HV := Lib.hid hv
  have d5 := h.five
  have hlt := h.lt
  clear h ho hv
  go_enter Tryz.func54, Tryz.ntmps54
  go_wp2_with (at_builtin; refine app_head rfl _ _ rfl base n v us rfl HO.out (.slice p k c) rfl rfl (by omega) hbase ?_; intro g' c' w6 hR6 hk6 hs6 hg6; have HR6 := Lib.hid hR6; have HK6 := Lib.hid hk6; have HG6 := Lib.hid hg6; have e5 := (HB.out.kept hk6 HV.out).five; have ef := (HB.out.kept hk6 HV.out).fz 5; have HB6 := Lib.hid (HB.out.kept hk6 HV.out); clear hR6 hk6 hg6)
  go_end0
  have hgb : g' ≠ bb := fun e => by
    rcases HG6.out with z | z
    · exact HV.out (by rw [z, e])
    · omega
  refine ⟨⟨_, rfl⟩, .slice (some ⟨g', 0, none⟩) (n + 1) c', HB6.out.put _, ownsRow_keptS HR6.out (Kept.set1 _ _ _ _) (fun b hb e => by have := own_is hb; omega), fun e => hgb (own_is e), ?_⟩
  exact (HK6.out.mono (fun i _ e => .inl e)).trans (Kept.set1 _ _ _ _) (fun i _ e => .inr e)

theorem FlatIn.below {w w' : World} {go oo n : Nat} {V : Nat → Value} {L : Nat → Nat} (h : FlatIn w go oo n V L) (hb : Below w.heap.size w w') : FlatIn w' go oo n V L :=
  ⟨fun k hk => (hb.cell (p := ⟨go, oo + k, none⟩) (blt (h.hdr k hk))).trans (h.hdr k hk), fun k hk => by
    obtain ⟨l, h1, h2⟩ := h.own k hk
    exact ⟨l, h1, h2.below hb⟩, h.inj, h.ne⟩

theorem apart_any (w : World) (bb go oo n c0 : Nat) (V : Nat → Value) (L : Nat → Nat) (hb : BagAt w bb (.slice (some ⟨go, oo, none⟩) n c0)) (h : FlatIn w go oo n V L) (hbb : ∀ k, k < n → (V k).ownBlock ≠ some bb) (hn : n ≤ 1000) (hL : ∀ k, k < n → L k ≤ 100000) :
    Calls Tryz.prog 55 #[.pointer (some ⟨bb, 0, none⟩)] w fun e w' => e = .returned (.bool true) ∧ Kept (flatB n V) w w' := by
  have HB0 := Lib.hid hb
  have HF0 := Lib.hid h
  have HBB := Lib.hid hbb
  have HLL := Lib.hid hL
  have HS0 := Lib.hid (Kept.refl (flatB n V) w)
  clear hb h hbb hL
  go_enter Tryz.func55, Tryz.ntmps55
  have c0 := HB0.out.nil (i := 0) (by omega) (by omega)
  go_wp2_with fail
  refine (flatLimbs_nil _).mono ?_
  rintro e w1 ⟨rfl, hB0⟩
  have HB1 := Lib.hid (HB0.out.below hB0)
  have HS1 := Lib.hid (HS0.out.trans (Kept.below hB0) (fun _ _ h => h.elim))
  have HF1 := Lib.hid (HF0.out.below hB0)
  clear c0 hB0
  have c1 := HB1.out.nil (i := 1) (by omega) (by omega)
  go_wp2_with fail
  refine (flatWords_nil _).mono ?_
  rintro e w2 ⟨rfl, hB1⟩
  have HB2 := Lib.hid (HB1.out.below hB1)
  have HS2 := Lib.hid (HS1.out.trans (Kept.below hB1) (fun _ _ h => h.elim))
  have HF2 := Lib.hid (HF1.out.below hB1)
  clear c1 hB1
  have c2 := HB2.out.nil (i := 2) (by omega) (by omega)
  go_wp2_with fail
  refine (flatInts_nil _).mono ?_
  rintro e w3 ⟨rfl, hB2⟩
  have HB3 := Lib.hid (HB2.out.below hB2)
  have HS3 := Lib.hid (HS2.out.trans (Kept.below hB2) (fun _ _ h => h.elim))
  have HF3 := Lib.hid (HF2.out.below hB2)
  clear c2 hB2
  have c3 := HB3.out.nil (i := 3) (by omega) (by omega)
  go_wp2_with fail
  refine (flatLongs_nil _).mono ?_
  rintro e w4 ⟨rfl, hB3⟩
  have HB4 := Lib.hid (HB3.out.below hB3)
  have HS4 := Lib.hid (HS3.out.trans (Kept.below hB3) (fun _ _ h => h.elim))
  have HF4 := Lib.hid (HF3.out.below hB3)
  clear c3 hB3
  have c4 := HB4.out.nil (i := 4) (by omega) (by omega)
  go_wp2_with fail
  refine (flatTexts_nil _).mono ?_
  rintro e w5 ⟨rfl, hB4⟩
  have HB5 := Lib.hid (HB4.out.below hB4)
  have HS5 := Lib.hid (HS4.out.trans (Kept.below hB4) (fun _ _ h => h.elim))
  have HF5 := Lib.hid (HF4.out.below hB4)
  clear c4 hB4
  have c5 := HB5.out.five
  go_wp2_with fail
  refine (flatBytes_any _ go oo n c0 V L HF5.out hn HLL.out).mono ?_
  rintro e w6 ⟨rfl, hK5⟩
  have HB6 := Lib.hid (HB5.out.kept hK5 (fun ⟨k, hk, e⟩ => HBB.out k hk e))
  have HS6 := Lib.hid (HS5.out.trans hK5 (fun _ _ h => h))
  clear c5 hK5
  have c6 := HB6.out.nil (i := 6) (by omega) (by omega)
  go_wp2_with fail
  refine (flatTruths_nil _).mono ?_
  rintro e w7 ⟨rfl, hB6⟩
  have HB7 := Lib.hid (HB6.out.below hB6)
  have HS7 := Lib.hid (HS6.out.trans (Kept.below hB6) (fun _ _ h => h.elim))
  clear c6 hB6
  have c7 := HB7.out.nil (i := 7) (by omega) (by omega)
  go_wp2_with fail
  refine (flatLayers_nil _).mono ?_
  rintro e w8 ⟨rfl, hB7⟩
  have HB8 := Lib.hid (HB7.out.below hB7)
  have HS8 := Lib.hid (HS7.out.trans (Kept.below hB7) (fun _ _ h => h.elim))
  clear c7 hB7
  have c8 := HB8.out.nil (i := 8) (by omega) (by omega)
  go_wp2_with fail
  refine (flatTable_nil _).mono ?_
  rintro e w9 ⟨rfl, hB8⟩
  have HB9 := Lib.hid (HB8.out.below hB8)
  have HS9 := Lib.hid (HS8.out.trans (Kept.below hB8) (fun _ _ h => h.elim))
  clear c8 hB8
  have c9 := HB9.out.nil (i := 9) (by omega) (by omega)
  go_wp2_with fail
  refine (flatHeads_nil _).mono ?_
  rintro e w10 ⟨rfl, hB9⟩
  have HB10 := Lib.hid (HB9.out.below hB9)
  have HS10 := Lib.hid (HS9.out.trans (Kept.below hB9) (fun _ _ h => h.elim))
  clear c9 hB9
  have c10 := HB10.out.nil (i := 10) (by omega) (by omega)
  go_wp2_with fail
  refine (flatCounts_nil _).mono ?_
  rintro e w11 ⟨rfl, hB10⟩
  have HB11 := Lib.hid (HB10.out.below hB10)
  have HS11 := Lib.hid (HS10.out.trans (Kept.below hB10) (fun _ _ h => h.elim))
  clear c10 hB10
  have c11 := HB11.out.nil (i := 11) (by omega) (by omega)
  go_wp2_with fail
  refine (flatNotes_nil _).mono ?_
  rintro e w12 ⟨rfl, hB11⟩
  have HB12 := Lib.hid (HB11.out.below hB11)
  have HS12 := Lib.hid (HS11.out.trans (Kept.below hB11) (fun _ _ h => h.elim))
  clear c11 hB11
  have c12 := HB12.out.nil (i := 12) (by omega) (by omega)
  go_wp2_with fail
  refine (flatFates_nil _).mono ?_
  rintro e w13 ⟨rfl, hB12⟩
  have HB13 := Lib.hid (HB12.out.below hB12)
  have HS13 := Lib.hid (HS12.out.trans (Kept.below hB12) (fun _ _ h => h.elim))
  clear c12 hB12
  go_wp2
  go_ret
  exact ⟨rfl, HS13.out⟩

theorem apart_nil (w : World) (bb : Nat) (hb : BagAt w bb (.slice none 0 0)) :
    Calls Tryz.prog 55 #[.pointer (some ⟨bb, 0, none⟩)] w fun e w' => e = .returned (.bool true) ∧ Below w.heap.size w w' := by
  have HB0 := Lib.hid hb
  have HS0 := Lib.hid (Below.refl w.heap.size w)
  clear hb
  go_enter Tryz.func55, Tryz.ntmps55
  have c0 := HB0.out.nil (i := 0) (by omega) (by omega)
  go_wp2_with fail
  refine (flatLimbs_nil _).mono ?_
  rintro e w1 ⟨rfl, hB0⟩
  have HB1 := Lib.hid (HB0.out.below hB0)
  have HS1 := Lib.hid (below_more HS0.out hB0 HS0.out.size)
  clear c0 hB0
  have c1 := HB1.out.nil (i := 1) (by omega) (by omega)
  go_wp2_with fail
  refine (flatWords_nil _).mono ?_
  rintro e w2 ⟨rfl, hB1⟩
  have HB2 := Lib.hid (HB1.out.below hB1)
  have HS2 := Lib.hid (below_more HS1.out hB1 HS1.out.size)
  clear c1 hB1
  have c2 := HB2.out.nil (i := 2) (by omega) (by omega)
  go_wp2_with fail
  refine (flatInts_nil _).mono ?_
  rintro e w3 ⟨rfl, hB2⟩
  have HB3 := Lib.hid (HB2.out.below hB2)
  have HS3 := Lib.hid (below_more HS2.out hB2 HS2.out.size)
  clear c2 hB2
  have c3 := HB3.out.nil (i := 3) (by omega) (by omega)
  go_wp2_with fail
  refine (flatLongs_nil _).mono ?_
  rintro e w4 ⟨rfl, hB3⟩
  have HB4 := Lib.hid (HB3.out.below hB3)
  have HS4 := Lib.hid (below_more HS3.out hB3 HS3.out.size)
  clear c3 hB3
  have c4 := HB4.out.nil (i := 4) (by omega) (by omega)
  go_wp2_with fail
  refine (flatTexts_nil _).mono ?_
  rintro e w5 ⟨rfl, hB4⟩
  have HB5 := Lib.hid (HB4.out.below hB4)
  have HS5 := Lib.hid (below_more HS4.out hB4 HS4.out.size)
  clear c4 hB4
  have c5 := HB5.out.five
  go_wp2_with fail
  refine (flatBytes_nil _).mono ?_
  rintro e w6 ⟨rfl, hB5⟩
  have HB6 := Lib.hid (HB5.out.below hB5)
  have HS6 := Lib.hid (below_more HS5.out hB5 HS5.out.size)
  clear c5 hB5
  have c6 := HB6.out.nil (i := 6) (by omega) (by omega)
  go_wp2_with fail
  refine (flatTruths_nil _).mono ?_
  rintro e w7 ⟨rfl, hB6⟩
  have HB7 := Lib.hid (HB6.out.below hB6)
  have HS7 := Lib.hid (below_more HS6.out hB6 HS6.out.size)
  clear c6 hB6
  have c7 := HB7.out.nil (i := 7) (by omega) (by omega)
  go_wp2_with fail
  refine (flatLayers_nil _).mono ?_
  rintro e w8 ⟨rfl, hB7⟩
  have HB8 := Lib.hid (HB7.out.below hB7)
  have HS8 := Lib.hid (below_more HS7.out hB7 HS7.out.size)
  clear c7 hB7
  have c8 := HB8.out.nil (i := 8) (by omega) (by omega)
  go_wp2_with fail
  refine (flatTable_nil _).mono ?_
  rintro e w9 ⟨rfl, hB8⟩
  have HB9 := Lib.hid (HB8.out.below hB8)
  have HS9 := Lib.hid (below_more HS8.out hB8 HS8.out.size)
  clear c8 hB8
  have c9 := HB9.out.nil (i := 9) (by omega) (by omega)
  go_wp2_with fail
  refine (flatHeads_nil _).mono ?_
  rintro e w10 ⟨rfl, hB9⟩
  have HB10 := Lib.hid (HB9.out.below hB9)
  have HS10 := Lib.hid (below_more HS9.out hB9 HS9.out.size)
  clear c9 hB9
  have c10 := HB10.out.nil (i := 10) (by omega) (by omega)
  go_wp2_with fail
  refine (flatCounts_nil _).mono ?_
  rintro e w11 ⟨rfl, hB10⟩
  have HB11 := Lib.hid (HB10.out.below hB10)
  have HS11 := Lib.hid (below_more HS10.out hB10 HS10.out.size)
  clear c10 hB10
  have c11 := HB11.out.nil (i := 11) (by omega) (by omega)
  go_wp2_with fail
  refine (flatNotes_nil _).mono ?_
  rintro e w12 ⟨rfl, hB11⟩
  have HB12 := Lib.hid (HB11.out.below hB11)
  have HS12 := Lib.hid (below_more HS11.out hB11 HS11.out.size)
  clear c11 hB11
  have c12 := HB12.out.nil (i := 12) (by omega) (by omega)
  go_wp2_with fail
  refine (flatFates_nil _).mono ?_
  rintro e w13 ⟨rfl, hB12⟩
  have HB13 := Lib.hid (HB12.out.below hB12)
  have HS13 := Lib.hid (below_more HS12.out hB12 HS12.out.size)
  clear c12 hB12
  go_wp2
  go_ret
  exact ⟨rfl, HS13.out⟩

end Go.Proofs.YtanjchpkekehgaaGreat
