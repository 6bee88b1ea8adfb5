/-
  CodeEncodes: the walk.
-/
import Derived.Test.YtaaahbpeaamjgaaGreatMa
import Derived.Test.YtaaahbpeaamjgaaGreatOwnA
import Derived.Test.YtaaahbpeaamjgaaGreatMb
import Derived.Test.YtaaahbpeaamjgaaGreatCodeGd
namespace Go.Proofs.YtaaahbpeaamjgaaGreat

section -- EncA
open Go.RowKit Go.Maps
set_option linter.unusedVariables false
set_option maxRecDepth 100000
set_option maxHeartbeats 2000000

theorem evenB_all {ls : List (List B)} (h : evenB ls = true) : ∀ i, i < ls.length → (ls.getD i []).length = (ls.getD 0 []).length := by
  intro i hi
  unfold evenB at h
  rw [List.all_eq_true] at h
  have := h ls[i] (List.getElem_mem hi)
  rw [beq_iff_eq] at this
  rw [List.getD_eq_getElem?_getD, List.getElem?_eq_getElem hi]
  exact this
/-- Are rows a source? -/
def srcOk (k : Nat) (ls : List (List B)) : Bool := decide (ls.length = k) && evenB ls
def encE (k : Nat) (ls : List (List B)) : Int := if srcOk k ls then 0 else 2
def encR (n k : Nat) (ls : List (List B)) : List (List B) := if srcOk k ls then encL n k ls (ls.getD 0 []).length else []
def symOk (n k : Nat) (ls : List (List B)) (x : Int) : Bool := srcOk k ls && (decide (0 ≤ x) && decide (x < n))
def symE (n k : Nat) (ls : List (List B)) (x : Int) : Int := if symOk n k ls x then 0 else 2
def symR (n k : Nat) (ls : List (List B)) (x : Int) : List B := if symOk n k ls x then mixL (wtsL (ptsL k) (ofB x.toNat)) ls (ls.getD 0 []).length else []

theorem encode_all (w : World) {bc n k bf : Nat} {vt : Value} (hc : CoderAt w bc n k bf vt) (vl : Value) (ls : List (List B)) (hl : RowsAt w vl ls) (hlen : ls.length ≤ 1000) (hwd : ∀ i, i < ls.length → (ls.getD i []).length ≤ 1000) :
    Calls Tryz.prog 23 #[.pointer (some ⟨bc, 0, none⟩), vl] w fun e w' => ∃ v, e = .returned (.tuple #[v, .int .i64 (encE k ls)]) ∧ RowsLone w' w.heap.size v (encR n k ls) ∧ Below w.heap.size w w' := by
  by_cases h : srcOk k ls = true
  · have h' := h
    unfold srcOk at h'
    rw [Bool.and_eq_true, decide_eq_true_eq] at h'
    have hk := hc.k1
    unfold encE encR
    rw [if_pos h, if_pos h]
    exact encode_any w hc vl ls _ hl h'.1 (evenB_all h'.2) (by have := hwd 0 (by omega); omega)
  · have h' : srcOk k ls = false := by simpa using h
    unfold encE encR
    rw [if_neg h, if_neg h]
    refine (encode_bad w hc vl ls hl (by omega) h').mono ?_
    rintro e w' ⟨rfl, hB⟩
    exact ⟨_, rfl, RowsLone.nil _ _, hB⟩
theorem rencode_all (w : World) {b n k : Nat} (hc : RCoderAt w b n k) (hk : 1 ≤ k) (hkn : k ≤ n) (hn : n ≤ 255) (vl : Value) (ls : List (List B)) (hl : RowsAt w vl ls) (hlen : ls.length ≤ 1000) (hwd : ∀ i, i < ls.length → (ls.getD i []).length ≤ 1000) :
    Calls Tryz.prog 24 #[.pointer (some ⟨b, 0, none⟩), vl] w fun e w' => ∃ v, e = .returned (.tuple #[v, .int .i64 (encE k ls)]) ∧ RowsAt w' v (encR n k ls) ∧ Below w.heap.size w w' := by
  by_cases h : srcOk k ls = true
  · have h' := h
    unfold srcOk at h'
    rw [Bool.and_eq_true, decide_eq_true_eq] at h'
    unfold encE encR
    rw [if_pos h, if_pos h]
    exact rencode_any w hc hk hkn hn vl ls _ hl h'.1 (evenB_all h'.2) (by have := hwd 0 (by omega); omega)
  · have h' : srcOk k ls = false := by simpa using h
    unfold encE encR
    rw [if_neg h, if_neg h]
    refine (rencode_bad w hc hk (by omega) vl ls hl (by omega) h').mono ?_
    rintro e w' ⟨rfl, hB⟩
    exact ⟨_, rfl, RowsAt.nil _, hB⟩
theorem symOk_parts {n k : Nat} {ls : List (List B)} {x : Int} (h : symOk n k ls x = true) : ls.length = k ∧ evenB ls = true ∧ ∃ m : Nat, x = (m : Int) ∧ m < n := by
  unfold symOk srcOk at h
  simp only [Bool.and_eq_true, decide_eq_true_eq] at h
  obtain ⟨⟨h1, h2⟩, h3, h4⟩ := h
  exact ⟨h1, h2, x.toNat, by omega, by omega⟩
theorem symOk_none {n k : Nat} {ls : List (List B)} {x : Int} (h : ¬ symOk n k ls x = true) : (decide (ls.length = k) && evenB ls) = false ∨ x < 0 ∨ (n : Int) ≤ x := by
  by_cases h1 : (decide (ls.length = k) && evenB ls) = true
  · right
    by_cases h2 : x < 0
    · exact .inl h2
    · right
      by_cases h3 : (n : Int) ≤ x
      · exact h3
      · exact absurd (by unfold symOk srcOk; rw [h1]; simp; omega) h
  · left; simpa using h1
theorem symbol_all (w : World) {bc n k bf : Nat} {vt : Value} (hc : CoderAt w bc n k bf vt) (vl : Value) (ls : List (List B)) (x : Int) (hx1 : -9223372036854775808 ≤ x) (hx2 : x < 9223372036854775808) (hl : RowsAt w vl ls) (hlen : ls.length ≤ 1000) (hwd : ∀ i, i < ls.length → (ls.getD i []).length ≤ 1000) :
    Calls Tryz.prog 25 #[.pointer (some ⟨bc, 0, none⟩), vl, .int .i64 x] w fun e w' => ∃ v, e = .returned (.tuple #[v, .int .i64 (symE n k ls x)]) ∧ Own w' w.heap.size v (symR n k ls x) ∧ Below w.heap.size w w' := by
  by_cases h : symOk n k ls x = true
  · obtain ⟨h1, h2, m, rfl, hm⟩ := symOk_parts h
    have hk := hc.k1
    have hw0 := hwd 0 (by omega)
    unfold symE symR
    rw [if_pos h, if_pos h]
    refine (sym_any w hc vl ls _ hl h1 (evenB_all h2) (by omega) m hm).mono ?_
    rintro e w' ⟨g, rfl, hr, hg, hB⟩
    refine ⟨_, rfl, ?_, hB⟩
    have := hr.own hg (by rw [mixL_len]; unfold maxLen; omega)
    rw [mixL_len] at this
    exact this
  · unfold symE symR
    rw [if_neg h, if_neg h]
    refine (sym_bad w hc vl ls x hx1 hx2 hl (by omega) (symOk_none h)).mono ?_
    rintro e w' ⟨rfl, hB⟩
    exact ⟨_, rfl, Own.nil _ _, hB⟩
theorem rsymbol_all (w : World) {b n k : Nat} (hc : RCoderAt w b n k) (hk : 1 ≤ k) (hkn : k ≤ n) (hn : n ≤ 255) (vl : Value) (ls : List (List B)) (x : Int) (hl : RowsAt w vl ls) (hlen : ls.length ≤ 1000) (hwd : ∀ i, i < ls.length → (ls.getD i []).length ≤ 1000) :
    Calls Tryz.prog 26 #[.pointer (some ⟨b, 0, none⟩), vl, .int .i64 x] w fun e w' => ∃ v, e = .returned (.tuple #[v, .int .i64 (symE n k ls x)]) ∧ BytesAt w' v (symR n k ls x) ∧ Below w.heap.size w w' := by
  by_cases h : symOk n k ls x = true
  · obtain ⟨h1, h2, m, rfl, hm⟩ := symOk_parts h
    have hw0 := hwd 0 (by omega)
    unfold symE symR
    rw [if_pos h, if_pos h]
    exact rsymbol_any w hc hk hkn hn vl ls _ m hl h1 (evenB_all h2) (by omega) hm
  · unfold symE symR
    rw [if_neg h, if_neg h]
    refine (rsymbol_bad w hc hk (by omega) vl ls x hl (by omega) (symOk_none h)).mono ?_
    rintro e w' ⟨rfl, hB⟩
    exact ⟨_, rfl, BytesAt.nil _, hB⟩

theorem encR_len {n k : Nat} {ls : List (List B)} : (encR n k ls).length ≤ n := by
  unfold encR
  split
  · rw [encL_len]; exact Nat.le_refl _
  · simp
theorem encR_wide {n k : Nat} {ls : List (List B)} (hk : 1 ≤ k) (hwd : ∀ i, i < ls.length → (ls.getD i []).length ≤ 1000) : ∀ i, i < (encR n k ls).length → ((encR n k ls).getD i []).length ≤ 1000 := by
  unfold encR
  by_cases h : srcOk k ls = true
  · rw [if_pos h]
    have h' := h
    unfold srcOk at h'
    rw [Bool.and_eq_true, decide_eq_true_eq] at h'
    intro i hi
    rw [encL_len] at hi
    have : (encL n k ls (ls.getD 0 []).length).getD i [] = mixL (wtsL (ptsL k) (ofB i)) ls (ls.getD 0 []).length := getD_range _ _ hi
    rw [this, mixL_len]
    exact hwd 0 (by omega)
  · rw [if_neg h]
    intro i hi
    simp at hi
theorem symR_len {n k : Nat} {ls : List (List B)} {x : Int} (hk : 1 ≤ k) (hwd : ∀ i, i < ls.length → (ls.getD i []).length ≤ 1000) : (symR n k ls x).length ≤ 1000 := by
  unfold symR
  by_cases h : symOk n k ls x = true
  · rw [if_pos h, mixL_len]
    obtain ⟨h1, _⟩ := symOk_parts h
    exact hwd 0 (by omega)
  · rw [if_neg h]; simp
end -- EncA

section -- EncB
open Go.RowKit Go.Maps
set_option linter.unusedVariables false
set_option maxRecDepth 100000
set_option maxHeartbeats 8000000

theorem one_group {w : World} {B0 : Nat} {vx : Value} {l : List B} (h : Own w B0 vx l) (hl : l.length ≤ 100000) (hb : B0 ≤ w.heap.size) : GroupAt (w.alloc (.cells #[vx] 51)) B0 (.slice (some ⟨w.heap.size, 0, none⟩) 1 1) [vx] := by
  refine ⟨World.ownsRow_lit w #[vx] 1 (Nat.zero_le _) (by unfold maxLen; omega) rfl, fun u hu => ?_, fun i j u z b hi hj _ _ => ?_, fun u hu b hb' e => ?_, fun b e => ?_, fun u hu b e => ?_⟩
  · rw [List.mem_singleton] at hu
    subst hu
    exact ⟨l, hl, (h.weaken (Nat.zero_le _)).alloc _⟩
  · have h1 : i < 1 := by have := (List.getElem?_eq_some_iff.1 hi).1; simpa using this
    have h2 : j < 1 := by have := (List.getElem?_eq_some_iff.1 hj).1; simpa using this
    omega
  · rw [List.mem_singleton] at hu
    subst hu
    have := (h.blk b hb').2
    have := own_is e
    omega
  · have := own_is e; omega
  · rw [List.mem_singleton] at hu
    subst hu
    exact (h.blk b e).1

theorem codeEnc_far (w : World) (n k : Int) (v : Value) (x : Int) (h1 : 16 < n) (h2 : n < 255) :
    Calls Tryz.prog 4 #[.int .i64 n, .int .i64 k, v, .int .i64 x] w fun e w' => e = .returned (.bool true) ∧ Below w.heap.size w w' := by
  go_enter Tryz.func4, Tryz.ntmps4
  go_wp2_with fail
  refine (awake_any w).mono ?_
  rintro e w' ⟨rfl, hB⟩
  go_wp2
  go_ret
  exact ⟨rfl, hB⟩

theorem codeEnc_top (w : World) (n k : Int) (v : Value) (ls : List (List B)) (x : Int) (hv : RowsAt w v ls) (hl : ls.length ≤ 140737488355328) (hr : ∀ i, i < ls.length → (ls.getD i []).length ≤ 140737488355328) (hx1 : -9223372036854775808 ≤ x) (hx2 : x < 9223372036854775808) (hn0 : 255 ≤ n) :
    Calls Tryz.prog 4 #[.int .i64 n, .int .i64 k, v, .int .i64 x] w fun e w' => e = .returned (.bool true) ∧ Below w.heap.size w w' := by
  have HV := Lib.hid hv
  have HR := Lib.hid hr
  obtain ⟨pv, cv, rfl⟩ := hv.shape
  clear hv hr
  go_enter Tryz.func4, Tryz.ntmps4
  go_wp2_with fail
  refine (size_any w _ ls HV.out hl HR.out).mono ?_
  rintro e w' ⟨z, rfl, hzb, hz9, rfl⟩
  by_cases hz : z ≤ 160
  rotate_left
  · have hz' : ¬ (z : Int) ≤ 160 := by omega
    have hz2 : (160 : Int) < z := by omega
    clear hzb
    go_wp2_with fail
    refine (awake_any w).mono ?_
    rintro e w' ⟨rfl, hB⟩
    go_wp2
    go_ret
    exact ⟨rfl, hB⟩
  obtain ⟨hll, hlr⟩ := hzb hz
  have hz' : (z : Int) ≤ 160 := by omega
  have HLR := Lib.hid (show ∀ i, i < ls.length → (ls.getD i []).length ≤ 1000 from fun i hi => by have := hlr i hi; omega)
  clear hzb hlr
  by_cases hbad : k < 1 ∨ n < k ∨ 255 < n
  · have HBAD := Lib.hid hbad
    clear hbad
    go_wp2_with fail
    refine (cnew_bad w n k HBAD.out).mono ?_
    rintro e w' ⟨rfl, rfl⟩
    go_wp2_with fail
    refine (rnew_bad w n k HBAD.out).mono ?_
    rintro e w' ⟨rfl, rfl⟩
    go_wp2_with fail
    refine (awake_any w).mono ?_
    rintro e w' ⟨rfl, hB⟩
    go_wp2
    go_ret
    exact ⟨rfl, hB⟩
  have hk1 : 1 ≤ k := by omega
  have hkn : k ≤ n := by omega
  have hn255 : n ≤ 255 := by omega
  obtain ⟨n, rfl⟩ := Int.eq_ofNat_of_zero_le (show 0 ≤ n by omega)
  obtain ⟨k, rfl⟩ := Int.eq_ofNat_of_zero_le (show 0 ≤ k by omega)
  clear hbad
  have hk1' : 1 ≤ k := by omega
  have hkn' : k ≤ n := by omega
  have hn' : n ≤ 255 := by omega
  go_wp2_with fail
  refine (cnew_any w n k hk1' hkn' hn').mono ?_
  rintro e w1 ⟨bc, bf, vt, rfl, hc, hB1⟩
  have HC := Lib.hid hc
  have HB1 := Lib.hid hB1
  clear hc hB1
  go_wp2_with fail
  refine (rnew_any w1 n k hk1' hkn' hn').mono ?_
  rintro e w2 ⟨br, rfl, hrc, hB2⟩
  have HRC := Lib.hid hrc
  have HC2 := Lib.hid (HC.out.below hB2)
  have HB2 := Lib.hid (bb HB1.out hB2)
  have HV2 := Lib.hid (HV.out.below HB2.out)
  clear hrc hB2
  go_wp2_with fail
  refine (awake_any w2).mono ?_
  rintro e w' ⟨rfl, hB⟩
  have HB9 := Lib.hid (bb HB2.out hB)
  clear hB
  go_wp2
  go_ret
  exact ⟨rfl, HB9.out⟩
end -- EncB

section -- EncC
open Go.RowKit Go.Maps
set_option linter.unusedVariables false
set_option maxRecDepth 100000
set_option maxHeartbeats 8000000

theorem codeEnc_low (w : World) (n k : Int) (v : Value) (ls : List (List B)) (x : Int) (hv : RowsAt w v ls) (hl : ls.length ≤ 140737488355328) (hr : ∀ i, i < ls.length → (ls.getD i []).length ≤ 140737488355328) (hx1 : -9223372036854775808 ≤ x) (hx2 : x < 9223372036854775808) (hn0 : n ≤ 16) :
    Calls Tryz.prog 4 #[.int .i64 n, .int .i64 k, v, .int .i64 x] w fun e w' => e = .returned (.bool true) ∧ Below w.heap.size w w' := by
  have HV := Lib.hid hv
  have HR := Lib.hid hr
  obtain ⟨pv, cv, rfl⟩ := hv.shape
  clear hv hr
  go_enter Tryz.func4, Tryz.ntmps4
  go_wp2_with fail
  refine (size_any w _ ls HV.out hl HR.out).mono ?_
  rintro e w' ⟨z, rfl, hzb, hz9, rfl⟩
  by_cases hz : z ≤ 160
  rotate_left
  · have hz' : ¬ (z : Int) ≤ 160 := by omega
    have hz2 : (160 : Int) < z := by omega
    clear hzb
    go_wp2_with fail
    refine (awake_any w).mono ?_
    rintro e w' ⟨rfl, hB⟩
    go_wp2
    go_ret
    exact ⟨rfl, hB⟩
  obtain ⟨hll, hlr⟩ := hzb hz
  have hz' : (z : Int) ≤ 160 := by omega
  have HLR := Lib.hid (show ∀ i, i < ls.length → (ls.getD i []).length ≤ 1000 from fun i hi => by have := hlr i hi; omega)
  clear hzb hlr
  by_cases hbad : k < 1 ∨ n < k ∨ 255 < n
  · have HBAD := Lib.hid hbad
    clear hbad
    go_wp2_with fail
    refine (cnew_bad w n k HBAD.out).mono ?_
    rintro e w' ⟨rfl, rfl⟩
    go_wp2_with fail
    refine (rnew_bad w n k HBAD.out).mono ?_
    rintro e w' ⟨rfl, rfl⟩
    go_wp2_with fail
    refine (awake_any w).mono ?_
    rintro e w' ⟨rfl, hB⟩
    go_wp2
    go_ret
    exact ⟨rfl, hB⟩
  have hk1 : 1 ≤ k := by omega
  have hkn : k ≤ n := by omega
  have hn255 : n ≤ 255 := by omega
  obtain ⟨n, rfl⟩ := Int.eq_ofNat_of_zero_le (show 0 ≤ n by omega)
  obtain ⟨k, rfl⟩ := Int.eq_ofNat_of_zero_le (show 0 ≤ k by omega)
  clear hbad
  have hk1' : 1 ≤ k := by omega
  have hkn' : k ≤ n := by omega
  have hn' : n ≤ 255 := by omega
  go_wp2_with fail
  refine (cnew_any w n k hk1' hkn' hn').mono ?_
  rintro e w1 ⟨bc, bf, vt, rfl, hc, hB1⟩
  have HC := Lib.hid hc
  have HB1 := Lib.hid hB1
  clear hc hB1
  go_wp2_with fail
  refine (rnew_any w1 n k hk1' hkn' hn').mono ?_
  rintro e w2 ⟨br, rfl, hrc, hB2⟩
  have HRC := Lib.hid hrc
  have HC2 := Lib.hid (HC.out.below hB2)
  have HB2 := Lib.hid (bb HB1.out hB2)
  have HV2 := Lib.hid (HV.out.below HB2.out)
  clear hrc hB2
  have hn16 : n ≤ 16 := by omega
  go_wp2_with fail
  refine (lentR_any w2 _ ls HV2.out (by omega) (fun i hi => by have := HLR.out i hi; omega)).mono ?_
  rintro e w3 ⟨vin, rfl, hin, hB3⟩
  obtain ⟨us0, hu0, hg0⟩ := hin.lone.group (fun i hi => by have := HLR.out i hi; omega)
  have HIN := Lib.hid hin
  have HG0 := Lib.hid hg0
  have HU0 := Lib.hid hu0
  have HB3 := Lib.hid hB3
  have HC3 := Lib.hid (HC2.out.below hB3)
  have HRC3 := Lib.hid (HRC.out.below hB3)
  obtain ⟨pin, cin, rfl⟩ := hin.lone.rows.shape
  clear hin hg0 hu0 hB3
  go_wp2_with fail
  refine (encode_all w3 HC3.out _ ls HIN.out.lone.rows (by omega) HLR.out).mono ?_
  rintro e w4 ⟨va, rfl, ha, hB4⟩
  obtain ⟨us1, hu1, hg1⟩ := ha.group (fun i hi => by have := encR_wide hk1' HLR.out i hi; omega)
  have HA := Lib.hid ha
  have HG1 := Lib.hid hg1
  have HU1 := Lib.hid hu1
  have HB4 := Lib.hid hB4
  obtain ⟨pa, ca, rfl⟩ := ha.rows.shape
  have HRC4 := Lib.hid (HRC3.out.below hB4)
  have HC4 := Lib.hid (HC3.out.below hB4)
  have HV4 := Lib.hid (HV2.out.below (bb HB3.out hB4))
  clear ha hg1 hu1 hB4
  obtain ⟨E, hE⟩ : ∃ E, encE k ls = E := ⟨_, rfl⟩
  rw [hE]
  have HE := Lib.hid hE
  clear hE
  go_wp2_with fail
  refine (rencode_all w4 HRC4.out hk1' hkn' hn' _ ls HV4.out (by omega) HLR.out).mono ?_
  rintro e w5 ⟨vb, rfl, hb, hB5⟩
  have HBV := Lib.hid hb
  have HB5 := Lib.hid hB5
  obtain ⟨pb, cb, rfl⟩ := hb.shape
  have HC5 := Lib.hid (HC4.out.below hB5)
  have HRC5 := Lib.hid (HRC4.out.below hB5)
  have HI5 := Lib.hid (HIN.out.lone.rows.below (bb HB4.out hB5))
  have HV5 := Lib.hid (HV4.out.below hB5)
  clear hb hB5
  rw [HE.out]
  go_wp2_with fail
  refine (symbol_all w5 HC5.out _ ls x hx1 hx2 HI5.out (by omega) HLR.out).mono ?_
  rintro e w6 ⟨vx, rfl, hx, hB6⟩
  have HX := Lib.hid hx
  have HB6 := Lib.hid hB6
  obtain ⟨px, cx, rfl⟩ := hx.shape
  have HRC6 := Lib.hid (HRC5.out.below hB6)
  have HV6 := Lib.hid (HV5.out.below hB6)
  clear hx hB6
  obtain ⟨I, hI⟩ : ∃ I, symE n k ls x = I := ⟨_, rfl⟩
  rw [hI]
  have HI := Lib.hid hI
  clear hI
  go_wp2_with fail
  refine (rsymbol_all w6 HRC6.out hk1' hkn' hn' _ ls x HV6.out (by omega) HLR.out).mono ?_
  rintro e w7 ⟨vy, rfl, hy, hB7⟩
  have HY := Lib.hid hy
  have HB7 := Lib.hid hB7
  obtain ⟨py, cy, rfl⟩ := hy.shape
  clear hy hB7
  rw [HI.out]
  have HB57 := Lib.hid (bb HB6.out HB7.out)
  have HB47 := Lib.hid (bb HB5.out HB57.out)
  go_wp2_with fail
  refine (sameRows_any w7 _ _ (encR n k ls) (HA.out.rows.below HB47.out) (HBV.out.below HB57.out) (by have := encR_len (n := n) (k := k) (ls := ls); omega) (fun i hi => by have := encR_wide hk1' HLR.out i hi; omega)).mono ?_
  rintro e w8 ⟨rfl, q8, rfl⟩
  have HX8 := Lib.hid (show Own (w7.drewN q8) w5.heap.size (.slice px (symR n k ls x).length cx) (symR n k ls x) from HX.out.below (belowDr HB7.out q8))
  have HY8 := Lib.hid (show BytesAt (w7.drewN q8) (.slice py (symR n k ls x).length cy) (symR n k ls x) from HY.out)
  have HL8 := Lib.hid (show LentRowsAt (w7.drewN q8) w2.heap.size (.slice pin ls.length cin) ls from by
    have h := HIN.out
    have h7 : RowsLent w7 w2.heap.size (.slice pin ls.length cin) ls := h.below (bb HB4.out HB47.out)
    exact h7.at')
  have HV8 := Lib.hid (show RowsAt (w7.drewN q8) (.slice pv ls.length cv) ls from HV6.out.below (belowDr HB7.out q8))
  have HG08 := Lib.hid (show GroupAt (w7.drewN q8) w2.heap.size (.slice pin ls.length cin) us0 from by
    have h7 : GroupAt w7 w2.heap.size (.slice pin ls.length cin) us0 := HG0.out.below (bb HB4.out HB47.out)
    exact ⟨h7.outer, h7.rows, h7.inj, h7.ne, h7.lowv, h7.lowu⟩)
  have HG18 := Lib.hid (show GroupAt (w7.drewN q8) w3.heap.size (.slice pa (encR n k ls).length ca) us1 from by
    have h7 : GroupAt w7 w3.heap.size (.slice pa (encR n k ls).length ca) us1 := HG1.out.below HB47.out
    exact ⟨h7.outer, h7.rows, h7.inj, h7.ne, h7.lowv, h7.lowu⟩)
  have HS8 := Lib.hid (show w3.heap.size ≤ w4.heap.size ∧ w4.heap.size ≤ w5.heap.size ∧ w5.heap.size ≤ (w7.drewN q8).heap.size ∧ w2.heap.size ≤ w3.heap.size from ⟨HB4.out.size, HB5.out.size, HB57.out.size, HB3.out.size⟩)
  have HB8 := Lib.hid (show Below w.heap.size w (w7.drewN q8) from belowDr (bb (bb (bb HB2.out HB3.out) HB4.out) HB47.out) q8)
  have hsl := symR_len (n := n) (x := x) hk1' HLR.out
  go_wp2_with fail
  generalize w7.drewN q8 = w8 at *
  refine (sameBytes_any w8 _ _ (symR n k ls x) HX8.out.bytes HY8.out (by omega)).mono ?_
  rintro e w9 ⟨rfl, q9, rfl⟩
  have HL9 := Lib.hid (show LentRowsAt (w8.drewN q9) w2.heap.size (.slice pin ls.length cin) ls from HL8.out)
  have HV9 := Lib.hid (show RowsAt (w8.drewN q9) (.slice pv ls.length cv) ls from HV8.out)
  have HX9 := Lib.hid (show Own (w8.drewN q9) w5.heap.size (.slice px (symR n k ls x).length cx) (symR n k ls x) from HX8.out)
  have HG09 := Lib.hid (show GroupAt (w8.drewN q9) w2.heap.size (.slice pin ls.length cin) us0 from ⟨HG08.out.outer, HG08.out.rows, HG08.out.inj, HG08.out.ne, HG08.out.lowv, HG08.out.lowu⟩)
  have HG19 := Lib.hid (show GroupAt (w8.drewN q9) w3.heap.size (.slice pa (encR n k ls).length ca) us1 from ⟨HG18.out.outer, HG18.out.rows, HG18.out.inj, HG18.out.ne, HG18.out.lowv, HG18.out.lowu⟩)
  have HS9 := Lib.hid (show w5.heap.size ≤ (w8.drewN q9).heap.size from HS8.out.2.2.1)
  have HB9 := Lib.hid (belowDr HB8.out q9)
  go_wp2_with fail
  generalize w8.drewN q9 = w9 at *
  refine (keptR_any w9 _ _ ls w2.heap.size HL9.out HV9.out (by omega) (fun i hi => by have := HLR.out i hi; omega)).mono ?_
  rintro e w10 ⟨rfl, q10, rfl⟩
  have HX10 := Lib.hid (show Own (w9.drewN q10) w5.heap.size (.slice px (symR n k ls x).length cx) (symR n k ls x) from HX9.out)
  have HG010 := Lib.hid (show GroupAt (w9.drewN q10) w2.heap.size (.slice pin ls.length cin) us0 from ⟨HG09.out.outer, HG09.out.rows, HG09.out.inj, HG09.out.ne, HG09.out.lowv, HG09.out.lowu⟩)
  have HG110 := Lib.hid (show GroupAt (w9.drewN q10) w3.heap.size (.slice pa (encR n k ls).length ca) us1 from ⟨HG19.out.outer, HG19.out.rows, HG19.out.inj, HG19.out.ne, HG19.out.lowv, HG19.out.lowu⟩)
  have HS10 := Lib.hid (show w5.heap.size ≤ (w9.drewN q10).heap.size from HS9.out)
  have HB10 := Lib.hid (belowDr HB9.out q10)
  have HSZ := Lib.hid (show (w9.drewN q10).heap.size = w9.heap.size from rfl)
  go_wp2_with fail
  generalize w9.drewN q10 = w10 at *
  rw [← HSZ.out]
  have hel := encR_len (n := n) (k := k) (ls := ls)
  have hA1 := bal' w10 (.cells #[.slice px (symR n k ls x).length cx] 51)
  refine (apart3_any (w10.alloc (.cells #[.slice px (symR n k ls x).length cx] 51)) w2.heap.size w3.heap.size w5.heap.size w2.heap.size (w10.heap.size + 1) _ _ _ us0 us1 [.slice px (symR n k ls x).length cx] (HG010.out.below hA1) (HG110.out.below hA1) (one_group HX10.out (by omega) HS10.out)
    (fun b h1 h2 => by have := (HG0.out.top b h1).2; have := (HG110.out.top b h2).1; omega)
    (fun b h1 h2 => by
      have g1 := (HG0.out.top b h1).2
      have g2 := ((one_group HX10.out (by omega) HS10.out).top b h2).1
      have := HS8.out
      omega)
    (fun b h1 h2 => by
      have g1 := (HG1.out.top b h1).2
      have g2 := ((one_group HX10.out (by omega) HS10.out).top b h2).1
      have := HS8.out
      omega)
    (Nat.le_refl _) HS8.out.2.2.2 (by have := HS8.out; omega) (by have := HS8.out; have := HS10.out; have := hA1.size; omega) (by rw [HU0.out]; omega) (by rw [HU1.out]; omega) (by simp) (by simp)).mono ?_
  rintro e w11 ⟨rfl, hB11⟩
  have HB11 := Lib.hid (show Below w.heap.size w w11 from HB10.out.trans (⟨hA1.os, hA1.tape, hA1.output, hA1.size, fun i hi => hA1.block i (by have := HB10.out.size; omega)⟩ |> fun (h : Below w.heap.size w10 _) => h.trans ⟨hB11.os, hB11.tape, hB11.output, hB11.size, fun i hi => hB11.block i (by have := HB2.out.size; omega)⟩))
  clear hB11 hA1
  go_wp2_with fail
  refine (awake_any w11).mono ?_
  rintro e w12 ⟨rfl, hB12⟩
  have HB12 := Lib.hid (bb HB11.out hB12)
  clear hB12
  go_wp2
  go_ret
  exact ⟨rfl, HB12.out⟩

theorem codeEnc_any (w : World) (n k : Int) (v : Value) (ls : List (List B)) (x : Int) (hv : RowsAt w v ls) (hl : ls.length ≤ 140737488355328) (hr : ∀ i, i < ls.length → (ls.getD i []).length ≤ 140737488355328) (hx1 : -9223372036854775808 ≤ x) (hx2 : x < 9223372036854775808) :
    Calls Tryz.prog 4 #[.int .i64 n, .int .i64 k, v, .int .i64 x] w fun e w' => e = .returned (.bool true) ∧ Below w.heap.size w w' := by
  by_cases h1 : n ≤ 16
  · exact codeEnc_low w n k v ls x hv hl hr hx1 hx2 h1
  · by_cases h2 : 255 ≤ n
    · exact codeEnc_top w n k v ls x hv hl hr hx1 hx2 h2
    · exact codeEnc_far w n k v x (by omega) (by omega)
end -- EncC

end Go.Proofs.YtaaahbpeaamjgaaGreat
