/-
  LayGa: Layer 10: Gather, whatever its answer: the program's, the reference's.
  LayBc: LayGathers: the walk.
-/
import Derived.Test.YtanjchpkekehgaaGreatMxbz
import Derived.Test.YtanjchpkekehgaaGreatMxbw
import Derived.Test.YtanjchpkekehgaaGreatMxbn
import Derived.Test.YtanjchpkekehgaaGreatMxbv
import Derived.Test.YtanjchpkekehgaaGreatMxbi
import Derived.Test.YtanjchpkekehgaaGreatMxbq
namespace Go.Proofs.YtanjchpkekehgaaGreat

section -- LayGa
open Go.RowKit Go.Maps
set_option linter.unusedVariables false
set_option maxRecDepth 100000
set_option maxHeartbeats 4000000

theorem gather_any (w : World) (n : Int) (vt vh : Value) (t : List (Int × Int)) (hs : List (Int × List B)) (hv : TableAt w vt t) (hh : HeldAt w vh hs) (hl : hs.length ≤ 1000000) (hcap : ∀ g o c, vh = .slice (some ⟨g, o, none⟩) hs.length c → ∀ i, i < hs.length → ∀ p n c', w.cell? ⟨g, o + i * 2 + 1, none⟩ = some (.slice p n c') → n ≤ c') :
    Calls Tryz.prog 19 #[.int .i64 n, vt, vh] w fun e w' => ∃ v, e = .returned (.tuple #[v, .int .i64 (gatherE n t hs)]) ∧ (gatherE n t hs = 0 → RowsCut w' w.heap.size v (layersL t hs (readyT t (hs.length : Int)))) ∧ (gatherE n t hs ≠ 0 → v = .slice none 0 0) ∧ Below w.heap.size w w' := by
  by_cases hd : TableOk n t
  · obtain ⟨N, rfl⟩ : ∃ N : Nat, n = (N : Int) := ⟨n.toNat, by have := hd.1; omega⟩
    rw [show gatherE N t hs = heldE N (atT t t.length) hs from if_pos hd]
    by_cases he : heldE N (atT t t.length) hs = 0
    · refine (gather_ok w N vt vh t hs hv hh hl hcap hd he).mono ?_
      rintro e w' ⟨v, rfl, h1, h2⟩
      exact ⟨v, by rw [he], fun _ => h1, fun h => absurd he h, h2⟩
    · refine (gather_err w N vt vh t hs hv hh hl hd he).mono ?_
      rintro e w' ⟨rfl, h2⟩
      exact ⟨_, rfl, fun h => absurd h he, fun _ => rfl, h2⟩
  · rw [show gatherE n t hs = 2 from if_neg hd]
    refine (gather_bad w n vt vh t hs hv hh hd).mono ?_
    rintro e w' ⟨rfl, h2⟩
    exact ⟨_, rfl, fun h => absurd h (by omega), fun _ => rfl, h2⟩

theorem rgather_any (w : World) (n : Int) (vt vh : Value) (t : List (Int × Int)) (hs : List (Int × List B)) (hv : TableAt w vt t) (hh : HeldAt w vh hs) (hl : hs.length ≤ 1000000) (hcap : ∀ g o c, vh = .slice (some ⟨g, o, none⟩) hs.length c → ∀ i, i < hs.length → ∀ p n c', w.cell? ⟨g, o + i * 2 + 1, none⟩ = some (.slice p n c') → n ≤ c') :
    Calls Tryz.prog 20 #[.int .i64 n, vt, vh] w fun e w' => ∃ v, e = .returned (.tuple #[v, .int .i64 (gatherE n t hs)]) ∧ (gatherE n t hs = 0 → RowsAt w' v (layersL t hs (readyT t (hs.length : Int)))) ∧ (gatherE n t hs ≠ 0 → v = .slice none 0 0) ∧ Below w.heap.size w w' := by
  by_cases hd : TableOk n t
  · obtain ⟨N, rfl⟩ : ∃ N : Nat, n = (N : Int) := ⟨n.toNat, by have := hd.1; omega⟩
    rw [show gatherE N t hs = heldE N (atT t t.length) hs from if_pos hd]
    exact rgather_tab w N vt vh t hs hv hh hl hcap hd
  · rw [show gatherE n t hs = 2 from if_neg hd]
    refine (rgather_bad w n vt vh t hs hv hh hd).mono ?_
    rintro e w' ⟨rfl, h2⟩
    exact ⟨_, rfl, fun h => absurd h (by omega), fun _ => rfl, h2⟩
end -- LayGa

section -- LayBc
open Go.RowKit Go.Maps
set_option linter.unusedVariables false
set_option linter.unusedSimpArgs false
set_option maxRecDepth 100000
set_option maxHeartbeats 1000000

theorem hRow_at {hs : List (Int × List B)} {i : Nat} (h : i < hs.length) : (hRow hs).getD i [] = (hs.getD i (0, [])).2 := by
  unfold hRow
  rw [List.getD_eq_getElem?_getD, List.getD_eq_getElem?_getD, List.getElem?_map, List.getElem?_eq_getElem h]
  rfl
/-- The headers of rows that are lent, in a slice of their own. -/
theorem LentHeld.rowsU {w W : World} {base : Nat} {v v2 : Value} {hs : List (Int × List B)} {ul : List Value} (h : LentHeld W base v hs ul) (hl : hs.length ≤ 300) (hw : ∀ i, i < hs.length → (hs.getD i (0, [])).2.length ≤ 1000) (ho : W.ownsRow w.heap.size 50 1 v2 hs.length ul) (hb : base ≤ w.heap.size) (hsz : ∀ (i : Nat) (u : Value), ul[i]? = some u → ∀ b, u.ownBlock = some b → b < w.heap.size) : LentRowsAt W base v2 (hRow hs) ∧ GroupAt W base v2 ul := by
  obtain ⟨⟨us, ho2, hp⟩, hr, hi⟩ := h
  have mem : ∀ u ∈ ul, ∃ i, i < hs.length ∧ ul[i]? = some u := fun u hu => by
    obtain ⟨i, hi, e⟩ := List.mem_iff_getElem.1 hu
    exact ⟨i, by rw [← hp.1]; exact hi, by rw [List.getElem?_eq_getElem hi, e]⟩
  refine ⟨LentRowsAt.of_owns (us := ul) (b2 := w.heap.size) (by rw [hRow_len]; exact ho) (fun i u hu => ?_), ⟨by rw [hp.1]; exact ownsRow_weaken ho (Nat.zero_le _), fun u hu => ?_, hi, fun u hu b hb' e => ?_, fun b e => Nat.le_trans hb (ho.lt b e).1, fun u hu b e => ?_⟩⟩
  · have hlt : i < hs.length := by
      have := (List.getElem?_eq_some_iff.1 hu).1
      rw [hp.1] at this; exact this
    rw [hRow_at hlt]
    exact (hr i u hu).1
  · obtain ⟨i, hlt, e⟩ := mem u hu
    exact ⟨_, by have := hw i hlt; omega, ((hr i u e).1.own.weaken (Nat.zero_le _)).wide⟩
  · obtain ⟨i, hlt, e2⟩ := mem u hu
    have := hsz i u e2 b hb'
    have := (ho.lt b e).1
    omega
  · obtain ⟨i, hlt, e2⟩ := mem u hu
    exact ((hr i u e2).1.blk b e).1

theorem LentHeld.exact {W : World} {base n c : Nat} {p : Option Addr} {hs : List (Int × List B)} {ul : List Value} (h : LentHeld W base (.slice p n c) hs ul) (hn : hs.length = n) : ul.length = n ∧ (0 < n → ∃ g off, p = some ⟨g, off, none⟩ ∧ ∀ i, i < n → ∃ q k c, ul[i]? = some (.slice q k c) ∧ W.cell? ⟨g, off + i * 2 + 1, none⟩ = some (.slice q k c)) := by
  obtain ⟨⟨us, ho, hp⟩, hr, hi⟩ := h
  refine ⟨by rw [← hn]; exact hp.1, fun h0 => ?_⟩
  obtain ⟨p', cap, e1, e2, e3⟩ := pair_cells ho hp
  obtain ⟨g, a, b⟩ := e3 (by omega)
  simp only [Value.slice.injEq] at e1
  refine ⟨g, 0, e1.1.trans a, fun i hi => ?_⟩
  obtain ⟨x, u, y, z⟩ := b i (by omega)
  obtain ⟨g', c', rfl, _⟩ := (hr i u y).1
  exact ⟨_, _, _, y, z⟩

/-- The layers, or none. -/
def gatR (n : Int) (t : List (Int × Int)) (hs : List (Int × List B)) : List (List B) := if gatherE n t hs = 0 then layersL t hs (readyT t (hs.length : Int)) else []
theorem layersL_len (t : List (Int × Int)) (hs : List (Int × List B)) (m : Nat) : (layersL t hs m).length = m := by simp [layersL]
theorem layersL_get {t : List (Int × Int)} {hs : List (Int × List B)} {m i : Nat} (h : i < m) : (layersL t hs m).getD i [] = layerL t hs i := getD_range _ _ h
theorem layerL_le (t : List (Int × Int)) (hs : List (Int × List B)) (i : Nat) : (layerL t hs i).length ≤ (t.getD i (0, 0)).2.toNat := by
  unfold layerL joinL
  simp only [List.length_take]
  omega
theorem gatherE_ok {n : Int} {t : List (Int × Int)} {hs : List (Int × List B)} (h : gatherE n t hs = 0) : TableOk n t := by
  unfold gatherE at h
  split at h
  · assumption
  · omega
theorem gatR_len {n : Int} {t : List (Int × Int)} {hs : List (Int × List B)} : (gatR n t hs).length ≤ 8 := by
  unfold gatR
  split
  · rename_i h
    have h2 := gatherE_ok h
    have := readyT_le t (hs.length : Int)
    have := h2.2.2.2.1
    rw [layersL_len]
    omega
  · simp
theorem gatR_wide {n : Int} {t : List (Int × Int)} {hs : List (Int × List B)} : ∀ i, i < (gatR n t hs).length → ((gatR n t hs).getD i []).length ≤ 65535 := by
  intro i hi
  unfold gatR at hi ⊢
  split
  · rename_i h
    have h2 := gatherE_ok h
    rw [if_pos h, layersL_len] at hi
    have h3 := readyT_le t (hs.length : Int)
    rw [layersL_get hi]
    have := layerL_le t hs i
    have := (h2.2.2.2.2 i (by omega)).2.2.2
    omega
  · rename_i h
    rw [if_neg h] at hi
    simp at hi

theorem layGathers_any (w : World) (n : Int) (vt vh : Value) (t : List (Int × Int)) (hs : List (Int × List B)) (ht : TableAt w vt t) (hh : HeldAt w vh hs) (hcp : HeldCap w vh hs.length) (hhl : hs.length ≤ 4500000000000) (hhr : ∀ i, i < hs.length → (hs.getD i (0, [])).2.length ≤ 140737488355328) :
    Calls Tryz.prog 4 #[.int .i64 n, vt, vh] w fun e w' => e = .returned (.bool true) ∧ Below w.heap.size w w' := by
  have HT := Lib.hid ht
  have HH := Lib.hid hh
  have HC := Lib.hid hcp
  have HHR := Lib.hid hhr
  obtain ⟨pt, ct, rfl, hct, _⟩ := ht
  obtain ⟨ph, ch, rfl, hch, _⟩ := hh
  obtain ⟨M, hM⟩ : ∃ M, t.length = M := ⟨_, rfl⟩
  obtain ⟨R, hR⟩ : ∃ R, hs.length = R := ⟨_, rfl⟩
  rw [hM] at HT ⊢
  rw [hR] at HH HC hhl ⊢
  have HM := Lib.hid hM
  have HR := Lib.hid hR
  clear hct hch hcp hhr hM hR
  have HAW := Lib.hid (fun W (h : Below w.heap.size w W) => (lawake_any W).mono (R' := fun e w' => e = .returned (.bool true) ∧ Below w.heap.size w w') (fun e w' h2 => ⟨h2.1, below_more h h2.2 h.size⟩))
  go_enter Tryz.func4, Tryz.ntmps4
  by_cases h1 : 14 < n ∧ n < 256
  · obtain ⟨h1, h2⟩ := h1
    go_wp2_with fail
    refine (HAW.out w (Below.refl _ _)).mono ?_
    rintro e w1 ⟨rfl, hB1⟩
    go_wp2
    go_ret
    exact ⟨rfl, hB1⟩
  have h1' : (14 < n ∧ ¬ n < 256) ∨ ¬ 14 < n := by omega
  by_cases h3 : 300 < M
  · have h3' : (300 : Int) < (M : Int) := by omega
    rcases h1' with ⟨q1, q2⟩ | q1
    all_goals
      go_wp2_with fail
      refine (HAW.out w (Below.refl _ _)).mono ?_
      rintro e w1 ⟨rfl, hB1⟩
      go_wp2
      go_ret
      exact ⟨rfl, hB1⟩
  have h3' : ¬ (300 : Int) < (M : Int) := by omega
  rcases h1' with ⟨q1, q2⟩ | q1
  all_goals
    go_wp2_with fail
    have HBO := Lib.hid (bytesOf_any w _ hs HH.out (by rw [HR.out]; exact hhl))
    refine HBO.out.mono ?_
    rintro e w1 ⟨v1, rfl, hv1, hB1⟩
    have HV1 := Lib.hid (hv1.rows hB1)
    have HB1 := Lib.hid hB1
    have HT1 := Lib.hid (HT.out.below hB1)
    have HC1 := Lib.hid (by have := HC.out; rw [← HR.out] at this; exact this.below (by have := HH.out; rw [← HR.out] at this; exact this) hB1)
    have HH1 := Lib.hid (HH.out.below hB1)
    clear hv1 hB1 HBO
    go_wp2_with fail
    refine (size_any w1 v1 (hRow hs) HV1.out (by rw [hRow_len, HR.out]; omega) (fun i hi => by rw [hRow_len] at hi; rw [hRow_at hi]; exact HHR.out i hi)).mono ?_
    rintro e w2 ⟨y, rfl, hy, hyb, rfl⟩
    have HY := Lib.hid hy
    clear hy
    by_cases hy : (300 : Int) < (y : Int)
    · go_wp2_with fail
      refine (HAW.out w1 HB1.out).mono ?_
      rintro e w2 ⟨rfl, hB2⟩
      go_wp2
      go_ret
      exact ⟨rfl, hB2⟩
    obtain ⟨hls, hlw0⟩ := HY.out (by omega)
    rw [hRow_len, HR.out] at hls
    have HLW := Lib.hid (show ∀ i, i < hs.length → (hs.getD i (0, [])).2.length ≤ 300 from fun i hi => by have := hlw0 i (by rw [hRow_len]; exact hi); rw [hRow_at hi] at this; exact this)
    have hM3 : M ≤ 300 := by omega
    clear hlw0 hyb hhl
    go_wp2_with fail
    refine (lentT_any w1 _ t HT1.out (by rw [HM.out]; omega)).mono ?_
    rintro e w2 ⟨va, rfl, hva, hB2⟩
    have HA2 := Lib.hid hva
    have HB2 := Lib.hid (below_more HB1.out hB2 HB1.out.size)
    have HT2 := Lib.hid (HT1.out.below hB2)
    have HH2 := Lib.hid (HH1.out.below hB2)
    have HC2 := Lib.hid (HC1.out.below (by have := HH1.out; rw [← HR.out] at this; exact this) hB2)
    clear hva hB2
    go_wp2_with fail
    refine (lent_any w2 _ hs HH2.out (by rw [HR.out]; omega) (fun i hi => by have := HLW.out i hi; omega)).mono ?_
    rintro e w3 ⟨vin, ul, rfl, hin, hB3⟩
    have HIN := Lib.hid hin
    have HIC := Lib.hid hin.cap
    obtain ⟨pin, cin, rfl, _⟩ := hin.held
    have HULB := Lib.hid (show ∀ i u, ul[i]? = some u → ∀ b, u.ownBlock = some b → w2.heap.size ≤ b ∧ b < w3.heap.size from fun i u hu b hb => ((hin.2.1 i u hu).1.blk b hb))
    have HB23 := Lib.hid hB3
    have HA3 := Lib.hid (HA2.out.below hB3)
    have HB3 := Lib.hid (below_more HB2.out hB3 HB2.out.size)
    have HT3 := Lib.hid (HT2.out.below hB3)
    have HH3 := Lib.hid (HH2.out.below hB3)
    have HC3 := Lib.hid (HC2.out.below (by have := HH2.out; rw [← HR.out] at this; exact this) hB3)
    rw [HR.out] at HIN HIC ⊢
    clear hin hB3
    go_wp2_with fail
    refine (gather_any w3 n _ _ t hs HA3.out.tab HIN.out.held (by rw [HR.out]; omega) (by rw [HR.out]; exact HIC.out)).mono ?_
    rintro e w4 ⟨v4, rfl, hok, hno, hB4⟩
    have HV4 := Lib.hid (show RowsCut w4 w3.heap.size v4 (gatR n t hs) from by
      unfold gatR
      split
      · rename_i h; exact hok h
      · rename_i h; rw [hno h]; exact RowsCut.nil _ _)
    have HG4 := Lib.hid (HIN.out.below hB4)
    have HA4 := Lib.hid (HA3.out.below hB4)
    have HT4 := Lib.hid (HT3.out.below hB4)
    have HH4 := Lib.hid (HH3.out.below hB4)
    have HC4 := Lib.hid (HC3.out.below (by have := HH3.out; rw [← HR.out] at this; exact this) hB4)
    have HB34 := Lib.hid hB4
    have HB4 := Lib.hid (below_more HB3.out hB4 HB3.out.size)
    clear hok hno hB4
    go_wp2_with fail
    refine (theirs_any w4 _ hs HH4.out (by have := HC4.out; rw [HR.out] at this ⊢; exact this) (by rw [HR.out]; omega)).mono ?_
    rintro e w5 ⟨v5, rfl, hv5, hc5, hB5⟩
    have HV5 := Lib.hid hv5
    have HC5 := Lib.hid hc5
    obtain ⟨p5, c5, rfl, _⟩ := hv5
    have HT5 := Lib.hid (HT4.out.below hB5)
    have HB45 := Lib.hid hB5
    have HB5 := Lib.hid (below_more HB4.out hB5 HB4.out.size)
    rw [HR.out] at HV5 HC5 ⊢
    clear hc5 hB5
    go_wp2_with fail
    refine (rgather_any w5 n _ _ t hs HT5.out HV5.out (by rw [HR.out]; omega) (by rw [HR.out]; exact HC5.out)).mono ?_
    rintro e w6 ⟨v6, rfl, hok, hno, hB6⟩
    have HV6 := Lib.hid (show RowsAt w6 v6 (gatR n t hs) from by
      unfold gatR
      split
      · rename_i h; exact hok h
      · rename_i h; rw [hno h]; exact RowsAt.nil _)
    have HB46 := Lib.hid (below_more HB45.out hB6 HB45.out.size)
    have HB6 := Lib.hid (below_more HB5.out hB6 HB5.out.size)
    have HV46 := Lib.hid (HV4.out.below HB46.out)
    clear hok hno hB6
    have HRL := Lib.hid (gatR_len (n := n) (t := t) (hs := hs))
    have HRW := Lib.hid (gatR_wide (n := n) (t := t) (hs := hs))
    obtain ⟨E, hE⟩ : ∃ x, gatherE n t hs = x := ⟨_, rfl⟩
    obtain ⟨BL, hBL⟩ : ∃ x, gatR n t hs = x := ⟨_, rfl⟩
    rw [hBL] at HV4 HV6 HV46 HRL HRW
    rw [hE]
    clear hE hBL
    obtain ⟨pv4, cv4, rfl⟩ := HV46.out.rows.shape
    obtain ⟨us1, hu1, hg1⟩ := HV4.out.group (fun i hi => by have := HRW.out i hi; omega)
    have HU1 := Lib.hid hu1
    have HG14 := Lib.hid hg1
    clear hu1 hg1
    go_wp2_with fail
    refine (sameRows_any w6 _ _ BL HV46.out.rows HV6.out (by have := HRL.out; omega) (fun i hi => by have := HRW.out i hi; omega)).mono ?_
    rintro e w7 ⟨rfl, q7, rfl⟩
    have HD7 := Lib.hid (balD w6 q7)
    have HB67 := Lib.hid (below_more HB46.out HD7.out HB46.out.size)
    have HB7 := Lib.hid (below_more HB6.out HD7.out HB6.out.size)
    have HA7 := Lib.hid (HA4.out.below HB67.out)
    have HT7 := Lib.hid (HT4.out.below HB67.out)
    have HG7 := Lib.hid (HG4.out.below HB67.out)
    have HH7 := Lib.hid (HH4.out.below HB67.out)
    have HV7 := Lib.hid (HV4.out.below HB67.out)
    have HS7 := Lib.hid (show w6.heap.size = (w6.drewN q7).heap.size from rfl)
    go_wp2_with fail
    generalize w6.drewN q7 = w7 at *
    refine (keptT_any w7 _ _ t _ HA7.out HT7.out (by rw [HM.out]; omega)).mono ?_
    rintro e w8 ⟨rfl, hB8⟩
    have HB48 := Lib.hid (below_more HB67.out hB8 HB67.out.size)
    have HB8 := Lib.hid (below_more HB7.out hB8 HB7.out.size)
    have HH8 := Lib.hid (HH7.out.below hB8)
    have HG8 := Lib.hid (HG7.out.below hB8)
    have HV8 := Lib.hid (HV7.out.below hB8)
    have HSb := Lib.hid (show w2.heap.size ≤ w3.heap.size ∧ w3.heap.size ≤ w4.heap.size ∧ w4.heap.size ≤ w8.heap.size from ⟨HB23.out.size, HB34.out.size, HB48.out.size⟩)
    clear hB8
    have HEX := HG8.out.exact HR.out
    go_wp2_with fail
    refine (bytesOf_exact w8 pin R cin ul HEX.1 (by omega) HEX.2).mono ?_
    rintro e w9 ⟨v9, rfl, hv9, hB9⟩
    have HV9 := Lib.hid hv9
    have HH9 := Lib.hid (HH8.out.below hB9)
    have HG9 := Lib.hid (HG8.out.below hB9)
    have HB89 := Lib.hid hB9
    clear hv9 hB9 HEX
    go_wp2_with fail
    refine (bytesOf_any w9 _ hs HH9.out (by rw [HR.out]; omega)).mono ?_
    rintro e w10 ⟨v10, rfl, hv10, hB10⟩
    have HV10 := Lib.hid (hv10.rows hB10)
    have HLR := Lib.hid ((HG9.out.below hB10).rowsU (w := w8) (v2 := v9) (by rw [HR.out]; omega) (fun i hi => by have := HLW.out i hi; omega) (by rw [HR.out]; exact ownsRow_keptS HV9.out (Kept.below hB10) (fun _ _ h => h)) (by have := HSb.out; omega) (fun i u hu b hb => by have := (HULB.out i u hu b hb).2; have := HSb.out; omega)).1
    have HG10 := Lib.hid (HG9.out.below hB10)
    have HB810 := Lib.hid (below_more HB89.out hB10 HB89.out.size)
    clear hv10 hB10
    go_wp2_with fail
    refine (keptR_any w10 _ _ (hRow hs) w2.heap.size HLR.out HV10.out (by rw [hRow_len, HR.out]; omega) (fun i hi => by rw [hRow_len] at hi; rw [hRow_at hi]; have := HLW.out i hi; omega)).mono ?_
    rintro e w11 ⟨rfl, q11, rfl⟩
    have HD11 := Lib.hid (balD w10 q11)
    have HB811 := Lib.hid (below_more HB810.out HD11.out HB810.out.size)
    have HG11 := Lib.hid (HG10.out.below HD11.out)
    have HV11 := Lib.hid (HV8.out.below HB811.out)
    go_wp2_with fail
    generalize w10.drewN q11 = w11 at *
    have HEX := HG11.out.exact HR.out
    refine (bytesOf_exact w11 pin R cin ul HEX.1 (by omega) HEX.2).mono ?_
    rintro e w12 ⟨v12, rfl, hv12, hB12⟩
    have HV12 := Lib.hid hv12
    have HB812 := Lib.hid (below_more HB811.out hB12 HB811.out.size)
    have HSc := Lib.hid (show w8.heap.size ≤ w11.heap.size ∧ w11.heap.size ≤ w12.heap.size from ⟨HB811.out.size, hB12.size⟩)
    have HG0 := Lib.hid ((HG11.out.below hB12).rowsU (w := w11) (v2 := v12) (by rw [HR.out]; omega) (fun i hi => by have := HLW.out i hi; omega) (by rw [HR.out]; exact hv12) (by have := HSb.out; have := HSc.out; omega) (fun i u hu b hb => by have := (HULB.out i u hu b hb).2; have := HSb.out; have := HSc.out; omega)).2
    have HG1 := Lib.hid (HG14.out.below (below_more HB48.out HB812.out HB48.out.size))
    have HULN := Lib.hid HEX.1
    have HB12 := Lib.hid (below_more HB8.out HB812.out HB8.out.size)
    have HIV := Lib.hid (show ∀ b, (v12.ownBlock = some b ∨ ∃ u ∈ ul, u.ownBlock = some b) → (w2.heap.size ≤ b ∧ b < w3.heap.size) ∨ (w8.heap.size ≤ b ∧ b < w12.heap.size) from by
      rintro b (e | ⟨u, hu, e⟩)
      · have := HV12.out.lt b e
        have := HSc.out
        exact .inr ⟨by omega, by omega⟩
      · obtain ⟨i, hi, e2⟩ := List.mem_iff_getElem.1 hu
        exact .inl (HULB.out i u (by rw [List.getElem?_eq_getElem hi, e2]) b e))
    have HNE := Lib.hid (show GroupNe v12 ul (.slice pv4 BL.length cv4) us1 from fun b h1 h2 => by
      have g1 := HIV.out b h1
      have g2 := HG14.out.top b h2
      have := HSb.out
      omega)
    obtain ⟨p12, c12, rfl⟩ : ∃ p c, v12 = .slice p R c := by
      rcases hv12.2 with ⟨rfl, hz⟩ | ⟨g, cap, cur, rfl, _⟩
      · exact ⟨none, 0, by rw [hz]⟩
      · exact ⟨_, cap, rfl⟩
    clear hv12 hB12 HEX
    go_wp2_with fail
    refine (apart2_any w12 w2.heap.size w3.heap.size w.heap.size w12.heap.size _ _ ul us1 HG0.out HG1.out HNE.out HB2.out.size HB3.out.size HB12.out.size (by rw [HULN.out]; omega) (by rw [HU1.out]; have := HRL.out; omega) rfl).mono ?_
    rintro e w13 ⟨rfl, hB13⟩
    have HB13 := Lib.hid (HB12.out.trans hB13)
    clear hB13
    go_wp2_with fail
    refine (HAW.out _ HB13.out).mono ?_
    rintro e w14 ⟨rfl, hB14⟩
    go_wp2
    go_ret
    exact ⟨rfl, hB14⟩
end -- LayBc

end Go.Proofs.YtanjchpkekehgaaGreat
