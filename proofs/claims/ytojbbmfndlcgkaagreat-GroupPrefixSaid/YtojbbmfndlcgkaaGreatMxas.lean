/-
  Walks of layer 5 (code): there, right, Encode, Symbol.
-/
import Derived.Test.YtojbbmfndlcgkaaGreatMxal
import Derived.Test.YtojbbmfndlcgkaaGreatMxar
namespace Go.Proofs.YtojbbmfndlcgkaaGreat
open Go.RowKit Go.Maps
set_option linter.unusedVariables false
set_option maxRecDepth 100000
set_option maxHeartbeats 2000000

theorem there_yes (w : World) {bc n k bf : Nat} {vt : Value} (hc : CoderAt w bc n k bf vt) :
    Calls Tryz.prog 46 #[.pointer (some ⟨bc, 0, none⟩)] w fun e w' => e = .returned (.bool true) ∧ w = w' := by
  have d2 := hc.c2
  have k1 : (0 : Int) < k := by have := hc.k1; omega
  have k2 : 0 < k := by omega
  clear hc
  go_enter Tryz.func46, Tryz.ntmps46
  go_wp2
  go_ret
  exact ⟨rfl, rfl⟩

/-- Are rows as long as the first one? -/
def evenB (ls : List (List B)) : Bool := ls.all fun l => l.length == (ls.getD 0 []).length

theorem right1_any (w : World) (bx : Nat) (vl : Value) (ls : List (List B)) (h0 : 0 < ls.length) (hb : w.cell? ⟨bx, 0, none⟩ = some vl) (hl : RowsAt w vl ls) (p : Option Addr) (n c : Nat) :
    Calls Tryz.prog 59 #[.slice p n c, .pointer (some ⟨bx, 0, none⟩)] w fun e w' => e = .returned (.bool (n != (ls.getD 0 []).length)) ∧ w = w' := by
  obtain ⟨pl, cl, rfl, hh⟩ := hl
  obtain ⟨g, off, rfl, hc⟩ := hh h0
  obtain ⟨u, hu, hub⟩ := hc 0 h0
  obtain ⟨pu, cu, rfl⟩ := hub.shape
  rw [Nat.add_zero] at hu
  clear hh hc hub
  obtain ⟨m, hm⟩ : ∃ m, (ls.getD 0 []).length = m := ⟨_, rfl⟩
  rw [hm] at hu ⊢
  clear hm
  go_enter Tryz.func59, Tryz.ntmps59
  go_wp2
  go_ret
  refine ⟨?_, rfl⟩
  show Ending.returned (.bool ((n : Int) != (m : Int))) = _
  rw [bne_cast]

def SomeIdx (b : Bool) (w : World) (e : Ending) (w' : World) : Prop := ∃ r : Int, e = .returned (.int .i64 r) ∧ decide (0 ≤ r) = b ∧ w = w'

theorem indexRows_any (w : World) (bx : Nat) (vl : Value) (ls : List (List B)) (hb : w.cell? ⟨bx, 0, none⟩ = some vl) (hl : RowsAt w vl ls) (hlen : ls.length ≤ 1000000000) :
    Calls Tryz.prog 71 #[vl, .func (.func 59) #[] #[.pointer (some ⟨bx, 0, none⟩)]] w (SomeIdx (!evenB ls) w) := by
  have HL := Lib.hid hl
  obtain ⟨pl, cl, rfl, hh⟩ := hl
  have HH := Lib.hid hh
  have HB := Lib.hid hb
  clear hh hb
  go_enter Tryz.func71, Tryz.ntmps71
  go_wp2
  go_loop [5, 8, 9, 10, 11, 12, 13, 14, 15, 16] (fun _ i _ _ _ _ _ _ _ _ => ∃ k : Nat, k ≤ ls.length ∧ i = .int .i64 (k : Int) ∧ ∀ j, j < k → (ls.getD j []).length = (ls.getD 0 []).length) (fun _ i _ _ _ _ _ _ _ _ => ls.length - (intOf i).toNat)
  case atStart => exact ⟨0, Nat.zero_le _, rfl, fun j h => absurd h (by omega)⟩
  case round =>
    obtain ⟨k, hk, rfl, hno⟩ := hrel
    have HN := Lib.hid hno
    clear hno
    by_cases hlt : k < ls.length
    · obtain ⟨g, off, rfl, hc⟩ := HH.out (by omega)
      obtain ⟨u, hu, hub⟩ := hc k hlt
      obtain ⟨pu, cu, rfl⟩ := hub.shape
      obtain ⟨lk, hlk⟩ : ∃ lk, (ls.getD k []).length = lk := ⟨_, rfl⟩
      rw [hlk] at hu
      have HLK := Lib.hid hlk
      have HR := Lib.hid (right1_any w bx _ ls (by omega) HB.out HL.out pu lk cu)
      clear hc hub hlk
      by_cases e : lk = (ls.getD 0 []).length
      · have e1 : (lk != (ls.getD 0 []).length) = false := by simpa using e
        have HE := Lib.hid (HLK.out.trans e)
        rw [e1] at HR
        clear e e1
        go_wp2_with fail
        refine HR.out.mono ?_
        rintro e w' ⟨rfl, rfl⟩
        go_wp2
        go_round
        case rel =>
          refine ⟨k + 1, by omega, by go_num, fun j hj => ?_⟩
          by_cases q : j = k
          · subst q; exact HE.out
          · exact HN.out j (by omega)
        case measure => simp [intOf]; omega
      · have e1 : (lk != (ls.getD 0 []).length) = true := by simpa using e
        have HE := Lib.hid (show ¬ (ls.getD k []).length = (ls.getD 0 []).length by rw [HLK.out]; exact e)
        rw [e1] at HR
        clear e e1
        go_wp2_with fail
        refine HR.out.mono ?_
        rintro e w' ⟨rfl, rfl⟩
        go_wp2
        go_ret
        refine ⟨k, rfl, ?_, rfl⟩
        have : evenB ls = false := by
          unfold evenB
          rw [List.all_eq_false]
          refine ⟨ls.getD k [], ?_, by simpa using HE.out⟩
          rw [List.getD_eq_getElem?_getD, List.getElem?_eq_getElem hlt]
          exact List.getElem_mem hlt
        rw [this]
        exact decide_eq_true (by omega)
    · go_wp2
      go_ret
      refine ⟨-1, rfl, ?_, rfl⟩
      have : evenB ls = true := by
        unfold evenB
        rw [List.all_eq_true]
        intro l hl
        obtain ⟨j, hj, rfl⟩ := List.mem_iff_getElem.1 hl
        have := HN.out j (by omega)
        rw [List.getD_eq_getElem?_getD, List.getElem?_eq_getElem hj] at this
        simpa using this
      rw [this]; rfl

theorem containsRows_any (w : World) (bx : Nat) (vl : Value) (ls : List (List B)) (hb : w.cell? ⟨bx, 0, none⟩ = some vl) (hl : RowsAt w vl ls) (hlen : ls.length ≤ 1000000000) :
    Calls Tryz.prog 60 #[vl, .func (.func 59) #[] #[.pointer (some ⟨bx, 0, none⟩)]] w fun e w' => e = .returned (.bool (!evenB ls)) ∧ w = w' := by
  have KEY := Lib.hid (indexRows_any w bx vl ls hb hl hlen)
  clear hb hl
  go_enter Tryz.func60, Tryz.ntmps60
  go_wp2_with (go_at_call 71; refine KEY.out.mono ?_; rintro e w' ⟨r, rfl, hr, rfl⟩; have HR := Lib.hid hr; clear hr)
  go_ret
  exact ⟨by rw [← HR.out]; rfl, rfl⟩

theorem right_any (w : World) {bc n k bf : Nat} {vt : Value} (hc : CoderAt w bc n k bf vt) (vl : Value) (ls : List (List B)) (hl : RowsAt w vl ls) (hlen : ls.length ≤ 1000000000) :
    Calls Tryz.prog 47 #[.pointer (some ⟨bc, 0, none⟩), vl] w fun e w' => e = .returned (.bool (decide (ls.length = k) && evenB ls)) ∧ Below w.heap.size w w' := by
  have d2 := hc.c2
  have hlt := hc.lt
  have hB0 : Below w.heap.size w (w.alloc (.cells #[vl] 22)) := (Below.refl _ _).alloc (Nat.le_refl _) _
  have HL := Lib.hid (hl.below hB0)
  obtain ⟨pl, cl, rfl, _⟩ := hl
  clear hc
  by_cases hk : ls.length = k
  · subst hk
    go_enter Tryz.func47, Tryz.ntmps47
    go_wp2
    have e2 := (hB0.cell (p := ⟨bc, 2, none⟩) hlt).trans d2
    have e0 : (w.alloc (.cells #[.slice pl ls.length cl] 22)).cell? ⟨w.heap.size, 0, none⟩ = some (.slice pl ls.length cl) := World.cell?_alloc_new w _ _ 0
    have HB0 := Lib.hid hB0
    clear hB0 d2
    generalize (w.alloc (.cells #[.slice pl ls.length cl] 22)) = w1 at *
    go_quiet ((go_at_call 60; exact q_one_same (containsRows_any _ w.heap.size _ ls (by exact e0) (by exact HL.out) hlen)))
    go_wp2
    go_ret
    exact ⟨by simp, HB0.out.os, HB0.out.tape, HB0.out.output, HB0.out.size, HB0.out.block⟩
  · have h1 : (ls.length == k) = false := by simpa using hk
    have h2 : ¬ (ls.length : Int) = k := by omega
    have HK := Lib.hid hk
    clear hk
    go_enter Tryz.func47, Tryz.ntmps47
    go_wp2
    have e2 := (hB0.cell (p := ⟨bc, 2, none⟩) hlt).trans d2
    have e0 : (w.alloc (.cells #[.slice pl ls.length cl] 22)).cell? ⟨w.heap.size, 0, none⟩ = some (.slice pl ls.length cl) := World.cell?_alloc_new w _ _ 0
    have HB0 := Lib.hid hB0
    clear hB0 d2
    generalize (w.alloc (.cells #[.slice pl ls.length cl] 22)) = w1 at *
    go_quiet (fail)
    go_wp2
    go_ret
    exact ⟨by simp [HK.out], HB0.out.os, HB0.out.tape, HB0.out.output, HB0.out.size, HB0.out.block⟩

theorem encL_len (n k : Nat) (ls : List (List B)) (wide : Nat) : (encL n k ls wide).length = n := by simp [encL]
theorem encL_succ (n k : Nat) (ls : List (List B)) (wide : Nat) : encL (n + 1) k ls wide = encL n k ls wide ++ [mixL (wtsL (ptsL k) (ofB n)) ls wide] := by simp [encL, List.range_succ]
theorem evenB_of {ls : List (List B)} {wide : Nat} (h : ∀ i, i < ls.length → (ls.getD i []).length = wide) : evenB ls = true := by
  unfold evenB
  rw [List.all_eq_true]
  intro l hl
  obtain ⟨j, hj, rfl⟩ := List.mem_iff_getElem.1 hl
  have h1 := h j hj
  have h0 := h 0 (by omega)
  rw [List.getD_eq_getElem?_getD, List.getElem?_eq_getElem hj] at h1
  simp only [Option.getD_some] at h1
  simp only [beq_iff_eq]
  rw [h1, h0]

theorem encode_any (w : World) {bc n k bf : Nat} {vt : Value} (hc : CoderAt w bc n k bf vt) (vl : Value) (ls : List (List B)) (wide : Nat) (hl : RowsAt w vl ls) (hln : ls.length = k) (hwd : ∀ i, i < ls.length → (ls.getD i []).length = wide) (hwb : wide ≤ 1000000000) :
    Calls Tryz.prog 31 #[.pointer (some ⟨bc, 0, none⟩), vl] w fun e w' => ∃ v, e = .returned (.tuple #[v, .int .i64 0]) ∧ RowsLone w' w.heap.size v (encL n k ls wide) ∧ Below w.heap.size w w' := by
  have HC := Lib.hid hc
  have HL := Lib.hid hl
  have HWD := Lib.hid hwd
  have HEV := Lib.hid (evenB_of hwd)
  have HLN := Lib.hid hln
  have h1 := hc.k1
  have h2 := hc.kn
  have h3 := hc.n255
  obtain ⟨pl, cl, hvl⟩ := hl.shape
  subst hvl
  clear hc hl hwd hln
  go_enter Tryz.func31, Tryz.ntmps31
  go_wp2_with fail
  refine (there_yes w HC.out).mono ?_
  rintro e w' ⟨rfl, rfl⟩
  go_wp2_with fail
  refine (right_any w HC.out _ ls HL.out (by rw [HLN.out]; omega)).mono ?_
  rintro e w1 ⟨rfl, hB1⟩
  rw [show (decide (ls.length = k) && evenB ls) = true by rw [HLN.out, HEV.out]; simp]
  have HC1 := Lib.hid (HC.out.below hB1)
  have HL1 := Lib.hid (HL.out.below hB1)
  have c1 := HC1.out.c1
  have hlc := HC1.out.lt
  have HT := Lib.hid HC1.out.table
  obtain ⟨pt, ct, hvt, hh⟩ := HC1.out.table
  rw [tblL_len] at hvt hh
  subst hvt
  obtain ⟨gt, ot, rfl, hrows⟩ := hh (by omega)
  have HR := Lib.hid hrows
  have hlt0 := blt (hrows 0 (by omega)).choose_spec.1
  have hs1 := hB1.size
  clear hh hrows
  go_wp2
  go_loopw [4, 7, 22] (fun v _ i wr => ∃ m : Nat, m ≤ n ∧ i = .int .i64 (m : Int) ∧ RowsLone wr w1.heap.size v (encL m k ls wide) ∧ Below w1.heap.size w1 wr) (fun _ _ i _ => n - (intOf i).toNat)
  case atStart => exact ⟨0, Nat.zero_le _, rfl, RowsLone.nil _ _, Below.refl _ _⟩
  case round =>
    obtain ⟨m, hm, rfl, ho, hB⟩ := hrel
    have HO := Lib.hid ho
    clear ho
    have hsr := hB.size
    by_cases hlt : m < n
    · obtain ⟨u, hu, hub⟩ := HR.out m hlt
      have e1 := (hB.cell (p := ⟨gt, ot + m, none⟩) hlt0).trans hu
      rw [tblL_get hlt] at hub
      have HU := Lib.hid (hub.kept (Kept.below hB) (fun _ _ h => h))
      have HC2 := Lib.hid (HC1.out.below hB)
      have HL2 := Lib.hid (HL1.out.below hB)
      have HWL := Lib.hid (show (wtsL (ptsL k) (ofB m)).length = k by rw [wtsL_len, ptsL_len])
      obtain ⟨pu, cu, rfl⟩ := hub.shape
      rw [HWL.out] at e1 HU
      clear hu hub
      go_wp2_with fail
      refine (mix_any _ HC2.out _ _ (wtsL (ptsL k) (ofB m)) ls wide HU.out HL2.out (by rw [HLN.out]; omega) (by rw [HWL.out, HLN.out]; exact Nat.le_refl _) (by rw [HWL.out]; omega) HWD.out hwb).mono ?_
      rintro e w5 ⟨g, rfl, hrw, hgb, hB5⟩
      have hgl := hrw.lt
      have hs5 := hB5.size
      have HR5 := Lib.hid (HO.out.below hB5)
      have HLV := Lib.hid HO.out.lt
      have HB6 := Lib.hid (below_more hB hB5 hsr)
      have HBY := Lib.hid (show Own w5 wr.heap.size (.slice (some ⟨g, 0, none⟩) wide wide) (mixL (wtsL (ptsL k) (ofB m)) ls wide) by have := hrw.own hgb (by rw [mixL_len]; unfold maxLen; omega); rw [mixL_len] at this; exact this)
      have HB5 := Lib.hid hB5
      clear hrw hB5 hB
      go_wp2_with (at_builtin; refine app_lone rfl _ _ rfl w1.heap.size m _ _ (encL_len m k ls wide) wr HB5.out HO.out (.slice (some ⟨g, 0, none⟩) wide wide) _ HBY.out rfl rfl rfl (by omega) hsr ?_; intro g' c' w6 hR6 hk6 hs6 hg6)
      go_roundw
      case rel =>
        refine ⟨m + 1, by omega, by go_num, by rw [encL_succ]; exact hR6, HB6.out.trans (hk6.toBelow (by omega) (fun i h => (HLV.out i h).1))⟩
      case measure => simp [intOf]; omega
    · obtain rfl : m = n := by omega
      go_wp2
      go_ret2
      exact ⟨_, rfl, HO.out.weaken hs1, below_more hB1 hB hs1⟩

end Go.Proofs.YtojbbmfndlcgkaaGreat
