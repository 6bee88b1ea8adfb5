/-
  Walks of layer 5 (code): Encode of what is no source; Symbol.
-/
import Derived.Test.YtaaahbpeaamjgaaGreatCodeQb
namespace Go.Proofs.YtaaahbpeaamjgaaGreat
open Go.RowKit Go.Maps
set_option linter.unusedVariables false
set_option maxRecDepth 100000
set_option maxHeartbeats 2000000

theorem encode_bad (w : World) {bc n k bf : Nat} {vt : Value} (hc : CoderAt w bc n k bf vt) (vl : Value) (ls : List (List B)) (hl : RowsAt w vl ls) (hlen : ls.length ≤ 1000000000) (hb : (decide (ls.length = k) && evenB ls) = false) :
    Calls Tryz.prog 23 #[.pointer (some ⟨bc, 0, none⟩), vl] w fun e w' => e = .returned (.tuple #[.slice none 0 0, .int .i64 2]) ∧ Below w.heap.size w w' := by
  have HC := Lib.hid hc
  have HL := Lib.hid hl
  have HB := Lib.hid hb
  clear hc hb
  obtain ⟨pl, cl, hvl⟩ := hl.shape
  subst hvl
  clear hl
  go_enter Tryz.func23, Tryz.ntmps23
  go_wp2_with fail
  refine (there_yes w HC.out).mono ?_
  rintro e w' ⟨rfl, rfl⟩
  go_wp2_with fail
  refine (right_any w HC.out _ ls HL.out hlen).mono ?_
  rintro e w1 ⟨rfl, hB1⟩
  rw [HB.out]
  go_wp2
  go_ret2
  exact ⟨rfl, hB1⟩

theorem sym_any (w : World) {bc n k bf : Nat} {vt : Value} (hc : CoderAt w bc n k bf vt) (vl : Value) (ls : List (List B)) (wide : Nat) (hl : RowsAt w vl ls) (hln : ls.length = k) (hwd : ∀ i, i < ls.length → (ls.getD i []).length = wide) (hwb : wide ≤ 1000000000) (m : Nat) (hm : m < n) :
    Calls Tryz.prog 25 #[.pointer (some ⟨bc, 0, none⟩), vl, .int .i64 (m : Int)] w fun e w' => ∃ g, e = .returned (.tuple #[.slice (some ⟨g, 0, none⟩) wide wide, .int .i64 0]) ∧ RowF w' g (mixL (wtsL (ptsL k) (ofB m)) ls wide) ∧ w.heap.size ≤ g ∧ Below w.heap.size w w' := by
  have HC := Lib.hid hc
  have HL := Lib.hid hl
  have HWD := Lib.hid hwd
  have HEV := Lib.hid (evenB_of hwd)
  have HLN := Lib.hid hln
  have h1 := hc.k1
  have h2 := hc.kn
  have h3 := hc.n255
  obtain ⟨pl, cl, hvl⟩ := hl.shape
  subst hvl
  clear hc hl hwd hln
  have t1 : ¬ n ≤ m := by omega
  have t2 : decide (n ≤ m) = false := by simp; omega
  go_enter Tryz.func25, Tryz.ntmps25
  go_wp2_with fail
  refine (there_yes w HC.out).mono ?_
  rintro e w' ⟨rfl, rfl⟩
  go_wp2_with fail
  refine (right_any w HC.out _ ls HL.out (by rw [HLN.out]; omega)).mono ?_
  rintro e w1 ⟨rfl, hB1⟩
  rw [show (decide (ls.length = k) && evenB ls) = true by rw [HLN.out, HEV.out]; simp]
  have HC1 := Lib.hid (HC.out.below hB1)
  have HL1 := Lib.hid (HL.out.below hB1)
  have c1 := HC1.out.c1
  have hlc := HC1.out.lt
  obtain ⟨pt, ct, hvt, hh⟩ := HC1.out.table
  rw [tblL_len] at hvt hh
  subst hvt
  obtain ⟨gt, ot, rfl, hrows⟩ := hh (by omega)
  obtain ⟨u, hu, hub⟩ := hrows m hm
  rw [tblL_get hm] at hub
  have HU := Lib.hid hub
  have HWL := Lib.hid (show (wtsL (ptsL k) (ofB m)).length = k by rw [wtsL_len, ptsL_len])
  obtain ⟨pu, cu, rfl⟩ := hub.shape
  rw [HWL.out] at hu HU
  have hs1 := hB1.size
  clear hh hrows hub
  go_wp2_with fail
  refine (mix_any _ HC1.out _ _ (wtsL (ptsL k) (ofB m)) ls wide HU.out HL1.out (by rw [HLN.out]; omega) (by rw [HWL.out, HLN.out]; exact Nat.le_refl _) (by rw [HWL.out]; omega) HWD.out hwb).mono ?_
  rintro e w5 ⟨g, rfl, hrw, hgb, hB5⟩
  have HRW := Lib.hid hrw
  clear hrw
  go_wp2
  go_ret2
  exact ⟨g, rfl, HRW.out, by omega, below_more hB1 hB5 hs1⟩

end Go.Proofs.YtaaahbpeaamjgaaGreat
