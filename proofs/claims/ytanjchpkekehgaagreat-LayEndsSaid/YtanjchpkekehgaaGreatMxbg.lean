/-
  RefJ: Walks of the reference, layer 5 (code): moved.
  RefK: Walks of the reference, layer 5 (code): Encode, Symbol; the program's Symbol of what is none.
  RefL: Walks of the reference, layer 5 (code): Symbol; the program's Symbol of what is none.
-/
import Derived.Test.YtanjchpkekehgaaGreatMxbf
import Derived.Test.YtanjchpkekehgaaGreatMxam
import Derived.Deep.RegionHeld3
namespace Go.Proofs.YtanjchpkekehgaaGreat

section -- RefJ
open Go.RowKit Go.Maps
set_option linter.unusedVariables false
set_option maxRecDepth 100000
set_option maxHeartbeats 4000000

/-- What is moved: place j of row r. -/
def movB (xs : List B) (ls : List (List B)) (ts : List B) (n : Nat) (r j : Nat) : B := sm n fun i => lag xs i (ts.getD r 0) * (ls.getD i []).getD j 0
def movL (xs : List B) (ls : List (List B)) (ts : List B) (n m wide : Nat) : List (List B) := (List.range m).map fun r => rowL wide (movB xs ls ts n r)
/-- .. as far as place p of row q. -/
def movP (xs : List B) (ls : List (List B)) (ts : List B) (n p q r j : Nat) : B := if j < p ∨ (j = p ∧ r < q) then movB xs ls ts n r j else 0

theorem BytesAt.cells {w : World} {p : Option Addr} {n c : Nat} {l : List B} (h : BytesAt w (.slice p n c) l) (hn : l.length = n) (h0 : 0 < n) : ∃ g off, p = some ⟨g, off, none⟩ ∧ ∀ i, i < n → w.cell? ⟨g, off + i, none⟩ = some (bv (l.getD i 0)) := by
  subst hn
  obtain ⟨p', c', e, hh⟩ := h
  simp only [Value.slice.injEq, true_and] at e
  obtain ⟨rfl, rfl⟩ := e
  exact hh h0

theorem GridAt.lone {w : World} {base n wide : Nat} {v : Value} {g : Nat → Nat} {M : Nat → Nat → B} (h : GridAt w base v n wide g M) (hw : wide ≤ maxLen) : RowsLone w base v ((List.range n).map fun r => rowL wide (M r)) := by
  have key : ∀ i u, ((List.range n).map (gridV wide g))[i]? = some u → i < n ∧ u = gridV wide g i := fun i u hu => by
    have hi : i < n := by
      have := (List.getElem?_eq_some_iff.1 hu).1
      simpa using this
    exact ⟨hi, by simpa [hi] using hu.symm⟩
  refine ⟨(List.range n).map (gridV wide g), by simpa using h.outer, fun i u hu => ?_, fun i j u z b hu hz hb hd => ?_⟩
  · obtain ⟨hi, rfl⟩ := key i u hu
    rw [getD_range _ _ hi]
    refine ⟨?_, fun b hb => ?_⟩
    · have := (h.row i hi).owns (base := base) (h.low i hi) (by rw [rowL_len]; exact hw)
      rw [rowL_len] at this
      unfold Own
      rw [rowL_len]
      exact this
    · have e : g i = b := by simpa [gridV, Value.ownBlock] using hb
      rw [← e]
      exact h.ne i hi
  · obtain ⟨hi, rfl⟩ := key i u hu
    obtain ⟨hj, rfl⟩ := key j z hz
    have e1 : g i = b := by simpa [gridV, Value.ownBlock] using hb
    have e2 : g j = b := by simpa [gridV, Value.ownBlock] using hd
    exact h.inj i j hi hj (e1.trans e2.symm)

theorem rmoved_lone (w : World) (vf vl vt : Value) (xs : List B) (ls : List (List B)) (ts : List B) (n m wide : Nat) (hf : BytesAt w vf xs) (hl : RowsAt w vl ls) (ht : BytesAt w vt ts) (hlx : xs.length = n) (hll : ls.length = n) (hlt : ts.length = m)
    (hn : xs.Nodup) (h1 : 1 ≤ n) (hs : n ≤ 255) (hm : m ≤ 255) (hwd : ∀ i, i < n → (ls.getD i []).length = wide) (hw : wide ≤ 1000000) :
    Calls Tryz.prog 52 #[vf, vl, vt] w fun e w' => ∃ v, e = .returned v ∧ RowsLone w' w.heap.size v (movL xs ls ts n m wide) ∧ Below w.heap.size w w' := by
  have HF := Lib.hid hf
  have HL := Lib.hid hl
  have HT := Lib.hid ht
  have HLX := Lib.hid hlx
  have HLL := Lib.hid hll
  have HLT := Lib.hid hlt
  have HN := Lib.hid hn
  have HWD := Lib.hid hwd
  obtain ⟨pf, cf, rfl⟩ := hf.shape
  obtain ⟨pt, ct, rfl⟩ := ht.shape
  obtain ⟨pl, cl, rfl, hh⟩ := hl
  rw [hlx] at HF ⊢
  rw [hlt] at HT ⊢
  rw [hll] at hh HL ⊢
  obtain ⟨gl, ol, rfl, hc⟩ := hh (by omega)
  have HC := Lib.hid hc
  have z0 := (hc 0 (by omega)).choose_spec
  obtain ⟨u0, z1, z2⟩ := hc 0 (by omega)
  rw [Nat.add_zero] at z1
  obtain ⟨p0, c0, rfl⟩ := z2.shape
  rw [hwd 0 (by omega)] at z1
  have lgl := blt z1
  clear hf ht hh hc z0 z2 hlx hll hlt hn hwd
  go_enter Tryz.func52, Tryz.ntmps52
  go_wp2_with fail
  refine (rrows_any w m wide hm hw).mono ?_
  rintro e w1 ⟨vg, g, rfl, hG, hB1⟩
  obtain ⟨pg, cg, rfl⟩ := hG.shape
  have HG := Lib.hid (hG.congr (M' := movP xs ls ts n 0 0) (fun r j _ _ => by unfold movP; rw [if_neg (by omega)]))
  have HB1 := Lib.hid hB1
  clear hG hB1
  go_wp2
  go_loopw [8, 9, 10, 11, 12, 13] (fun i _ _ _ _ _ wr => ∃ p : Nat, p ≤ wide ∧ i = .int .i64 (p : Int) ∧ GridAt wr w.heap.size (.slice pg m cg) m wide g (movP xs ls ts n p 0) ∧ Below w.heap.size w wr) (fun i _ _ _ _ _ _ => wide - (intOf i).toNat)
  case atStart => exact ⟨0, Nat.zero_le _, rfl, HG.out, HB1.out⟩
  case round =>
    obtain ⟨w0, rfl⟩ : ∃ w0, w0 = wr := ⟨_, rfl⟩
    obtain ⟨p, hp, rfl, hG, hB⟩ := hrel
    have HG0 := Lib.hid hG
    have HB0 := Lib.hid hB
    have hsz := hB.size
    have d0 := (hB.cell (p := ⟨gl, ol, none⟩) lgl).trans z1
    have HCW := Lib.hid (fun i (hi : i < n) => (show ∃ pu cu, w0.cell? ⟨gl, ol + i, none⟩ = some (.slice pu wide cu) ∧ BytesAt w0 (.slice pu wide cu) (ls.getD i []) from by
      obtain ⟨u, x1, x2⟩ := HC.out i hi
      obtain ⟨pu, cu, rfl⟩ := x2.shape
      rw [HWD.out i hi] at x1 x2
      exact ⟨pu, cu, (hB.cell (p := ⟨gl, ol + i, none⟩) (blt x1)).trans x1, x2.below hB⟩))
    have HFW := Lib.hid (HF.out.below hB)
    have HTW := Lib.hid (HT.out.below hB)
    clear hG hB
    by_cases hlt : p < wide
    · go_wp2
      go_loopw [9, 10] (fun v i wr => ∃ k : Nat, k ≤ n ∧ i = .int .i64 (k : Int) ∧ Own wr w0.heap.size v (rowL k fun i => (ls.getD i []).getD p 0) ∧ Below w0.heap.size w0 wr) (fun _ i _ => n - (intOf i).toNat)
      case atStart => exact ⟨0, Nat.zero_le _, rfl, Own.nil _ _, Below.refl _ _⟩
      case round =>
        obtain ⟨k, hk, rfl, ho, hB⟩ := hrel
        obtain ⟨pv, cv, rfl⟩ := ho.shape
        rw [rowL_len] at ho ⊢
        have HOV := Lib.hid ho
        have HBR := Lib.hid hB
        have hsr := hB.size
        clear ho
        by_cases hlt2 : k < n
        · obtain ⟨pu, cu, x1, x2⟩ := HCW.out k hlt2
          obtain ⟨gu, ou, rfl, hxx⟩ := x2.cells (HWD.out k hlt2) (by omega)
          have y := hxx p (by omega)
          have d1 := (hB.cell (p := ⟨gl, ol + k, none⟩) (blt x1)).trans x1
          have d2 := (hB.cell (p := ⟨gu, ou + p, none⟩) (blt y)).trans y
          have HS := Lib.hid (show rowL k (fun i => (ls.getD i []).getD p 0) ++ [(ls.getD k []).getD p 0] = rowL (k + 1) (fun i => (ls.getD i []).getD p 0) by simp [rowL, List.range_succ])
          obtain ⟨b, hb⟩ : ∃ b, (ls.getD k []).getD p 0 = b := ⟨_, rfl⟩
          rw [hb] at d2 HS
          clear hxx y x1 x2 hB hb
          go_wp2_with (at_builtin; refine app_own rfl _ _ rfl w0.heap.size k _ _ b (rowL_len _ _) HOV.out rfl rfl (by omega) hsr ?_; intro g' c' w6 hR6 hk6 hs6 hg6)
          go_roundw
          case rel =>
            refine ⟨k + 1, by omega, by go_num, by rw [← HS.out]; exact hR6, HBR.out.trans (hk6.toBelow hsr (fun i hi => (HOV.out.blk i hi).1))⟩
          case measure => simp [intOf]; omega
        · obtain rfl : k = n := by omega
          have HFR := Lib.hid (HFW.out.below hB)
          have HTR := Lib.hid (HTW.out.below hB)
          clear hB
          go_wp2_with fail
          refine (rvalues_any _ _ _ _ xs (rowL k fun i => (ls.getD i []).getD p 0) ts k m HFR.out HOV.out.bytes HTR.out HLX.out (rowL_len _ _) HLT.out HN.out (by omega) (by omega)).mono ?_
          rintro e w5 ⟨v5, rfl, hv5, hB5⟩
          obtain ⟨p5, c5, rfl⟩ := hv5.shape
          have hv5' := hv5
          rw [rowL_congr (g := fun j => movB xs ls ts k j p) (fun j hj => by
            unfold movB
            exact sm_congr (fun i hi => by rw [rowL_get _ hi]))] at hv5'
          rw [rowL_len] at hv5' ⊢
          have HV5 := Lib.hid hv5'
          have HB5 := Lib.hid (below_more HBR.out hB5 hsr)
          have HB50 := Lib.hid (below_more HB0.out HB5.out hsz)
          have HG5 := Lib.hid (HG0.out.below HB5.out)
          have HGL := Lib.hid (fun r (hr : r < m) => (HG0.out.row r hr).lt)
          have hs5 := HB5.out.size
          have hwv : ∀ b, (Value.slice p5 m c5).ownBlock = some b → w0.heap.size ≤ b := fun b hb => Nat.le_trans hsr (HV5.out.blk b hb).1
          have HWV := Lib.hid hwv
          clear hv5 hv5' hB5 hwv
          go_wp2
          go_loopw [13] (fun i wr => ∃ q : Nat, q ≤ m ∧ i = .int .i64 (q : Int) ∧ GridAt wr w.heap.size (.slice pg m cg) m wide g (movP xs ls ts k p q) ∧ Kept (fun b => ∃ r, r < m ∧ g r = b) w5 wr) (fun i _ => m - (intOf i).toNat)
          case atStart => exact ⟨0, Nat.zero_le _, rfl, HG5.out, Kept.refl _ _⟩
          case round =>
            obtain ⟨q, hq, rfl, hG, hK⟩ := hrel
            have HGR := Lib.hid hG
            have HKR := Lib.hid hK
            clear hG
            by_cases hlt3 : q < m
            · obtain ⟨bg, cg', e, hbg1, hbg2, hbg3⟩ := HGR.out.at' (by omega)
              cases e
              have d1 := hbg3 q hlt3
              unfold gridV at d1
              obtain ⟨g5, c5', e, hg5, hr5⟩ := HV5.out.row (by rw [rowL_len]; omega)
              rw [rowL_len] at e
              simp only [Value.slice.injEq, true_and] at e
              obtain ⟨rfl, rfl⟩ := e
              have y := hr5.cell (i := q) (by rw [rowL_len]; exact hlt3)
              rw [rowL_get _ hlt3] at y
              have hg50 : w0.heap.size ≤ g5 := HWV.out g5 rfl
              have d2 := (hK.cell (p := ⟨g5, q, none⟩) (blt y) (fun ⟨r, hr, e⟩ => by
                have := HGL.out r hr
                have e' : g r = g5 := e
                omega)).trans y
              have d3 := (HGR.out.row q hlt3).cell (i := p) (by rw [rowL_len]; exact hlt)
              rw [rowL_get _ hlt] at d3
              have d4 := (HGR.out.row q hlt3).fz p
              have HSet := Lib.hid (fun (W : World) (h : GridAt W w.heap.size (.slice (some ⟨bg, 0, none⟩) m cg) m wide g (movP xs ls ts k p q)) => (show GridAt (W.setCell ⟨g q, p, none⟩ (bv (movB xs ls ts k q p))) w.heap.size (.slice (some ⟨bg, 0, none⟩) m cg) m wide g (movP xs ls ts k p (q + 1)) from (h.set hlt3 hlt (movB xs ls ts k q p)).congr (fun r j hr hj => by
                show (if r = q ∧ j = p then movB xs ls ts k q p else movP xs ls ts k p q r j) = movP xs ls ts k p (q + 1) r j
                unfold movP
                by_cases e1 : r = q ∧ j = p
                · rw [if_pos e1, if_pos (by omega), e1.1, e1.2]
                · rw [if_neg e1]
                  by_cases e2 : j < p ∨ (j = p ∧ r < q)
                  · rw [if_pos e2, if_pos (by omega)]
                  · rw [if_neg e2, if_neg (by omega)])))
              obtain ⟨b, hb⟩ : ∃ b, movB xs ls ts k q p = b := ⟨_, rfl⟩
              rw [hb] at d2 HSet
              obtain ⟨b0, hb0⟩ : ∃ b0, movP xs ls ts k p q q p = b0 := ⟨_, rfl⟩
              rw [hb0] at d3
              have HQ := Lib.hid (show ∃ r, r < m ∧ g r = g q from ⟨q, hlt3, rfl⟩)
              clear hbg3 hr5 y hb hb0 hK
              go_wp2_with fail
              refine wp_quiet_store 10 (by kernel_rfl) (by kernel_rfl) ?_
              simp only [List.take_succ_cons, List.take_zero, List.drop_succ_cons, List.drop_zero]
              repeat (quiet_step (fail))
              refine wpQuiet_nil ?_
              rintro w7 ⟨nq, rfl⟩
              go_wp2
              refine calmQ.normal ?_
              go_wp2
              go_roundw
              case rel =>
                exact ⟨q + 1, by omega, by go_num, HSet.out _ (HGR.out.dr nq), (HKR.out.drewN nq).setCell' (p := ⟨g q, p, none⟩) HQ.out _⟩
              case measure => simp [intOf]; omega
            · obtain rfl : q = m := by omega
              have HG9 := Lib.hid (HGR.out.congr (M' := movP xs ls ts k (p + 1) 0) (fun r j hr hj => by
                unfold movP
                by_cases e2 : j < p ∨ (j = p ∧ r < q)
                · rw [if_pos e2, if_pos (by omega)]
                · rw [if_neg e2, if_neg (by omega)]))
              have HB9 := Lib.hid (HB50.out.trans (hK.toBelow (by have := HB50.out.size; omega) (fun i ⟨r, hr, e⟩ => by rw [← e]; exact HGR.out.low r hr)))
              clear hK
              go_wp2
              go_roundw
              case rel => exact ⟨p + 1, by omega, by go_num, HG9.out, HB9.out⟩
              case measure => simp [intOf]; omega
    · obtain rfl : p = wide := by omega
      have HR := Lib.hid (show RowsLone w0 w.heap.size (.slice pg m cg) (movL xs ls ts n m p) from by
        have := (HG0.out.congr (M' := movB xs ls ts n) (fun r j hr hj => by unfold movP; rw [if_pos (by omega)])).lone (by unfold maxLen; omega)
        exact this)
      go_wp2
      go_ret
      exact ⟨_, rfl, HR.out, HB0.out⟩

theorem rmoved_any (w : World) (vf vl vt : Value) (xs : List B) (ls : List (List B)) (ts : List B) (n m wide : Nat) (hf : BytesAt w vf xs) (hl : RowsAt w vl ls) (ht : BytesAt w vt ts) (hlx : xs.length = n) (hll : ls.length = n) (hlt : ts.length = m)
    (hn : xs.Nodup) (h1 : 1 ≤ n) (hs : n ≤ 255) (hm : m ≤ 255) (hwd : ∀ i, i < n → (ls.getD i []).length = wide) (hw : wide ≤ 1000000) :
    Calls Tryz.prog 52 #[vf, vl, vt] w fun e w' => ∃ v, e = .returned v ∧ RowsAt w' v (movL xs ls ts n m wide) ∧ Below w.heap.size w w' := by
  refine (rmoved_lone w vf vl vt xs ls ts n m wide hf hl ht hlx hll hlt hn h1 hs hm hwd hw).mono ?_
  rintro e w' ⟨v, rfl, h, hB⟩
  exact ⟨v, rfl, h.rows, hB⟩
end -- RefJ

section -- RefK
open Go.RowKit Go.Maps
set_option linter.unusedVariables false
set_option maxRecDepth 100000
set_option maxHeartbeats 4000000

theorem belowDrew {B : Nat} {a w : World} (h : Below B a w) : Below B a w.drew := ⟨h.os, h.tape, h.output, h.size, h.block⟩
theorem mov_row {xs ts : List B} {ls : List (List B)} {n wide r : Nat} {x : B} (hx : xs.length = n) (ht : ts.getD r 0 = x) : rowL wide (movB xs ls ts n r) = mixL (wtsL xs x) ls wide := by
  subst hx
  subst ht
  unfold rowL mixL
  refine List.map_congr_left (fun j _ => ?_)
  unfold movB
  rw [wtsL_len]
  exact sm_congr (fun i hi => by rw [wtsL_get hi]; grind)
theorem mov_enc {ls : List (List B)} {n k wide : Nat} : movL (ptsL k) ls (ptsL n) k n wide = encL n k ls wide :=
  List.map_congr_left (fun r hr => mov_row (ptsL_len k) (ptsL_get (List.mem_range.1 hr)))

theorem rencode_bad (w : World) {b n k : Nat} (hc : RCoderAt w b n k) (hk : 1 ≤ k) (hk2 : k ≤ 255) (vl : Value) (ls : List (List B)) (hl : RowsAt w vl ls) (hlen : ls.length ≤ 1000000000) (hb : (decide (ls.length = k) && evenB ls) = false) :
    Calls Tryz.prog 32 #[.pointer (some ⟨b, 0, none⟩), vl] w fun e w' => e = .returned (.tuple #[.slice none 0 0, .int .i64 2]) ∧ Below w.heap.size w w' := by
  have HS := Lib.hid (rsource_any w hc hk hk2 vl ls hl hlen)
  rw [hb] at HS
  obtain ⟨pl, cl, rfl⟩ := hl.shape
  clear hc hl hb
  go_enter Tryz.func32, Tryz.ntmps32
  go_wp2_with fail
  refine HS.out.mono ?_
  rintro e w' ⟨rfl, nq, rfl⟩
  go_wp2
  go_ret2
  exact ⟨rfl, belowDr (Below.refl _ _) nq⟩

theorem rencode_lone (w : World) {b n k : Nat} (hc : RCoderAt w b n k) (hk : 1 ≤ k) (hkn : k ≤ n) (hn : n ≤ 255) (vl : Value) (ls : List (List B)) (wide : Nat) (hl : RowsAt w vl ls) (hln : ls.length = k) (hwd : ∀ i, i < ls.length → (ls.getD i []).length = wide) (hwb : wide ≤ 1000000) :
    Calls Tryz.prog 32 #[.pointer (some ⟨b, 0, none⟩), vl] w fun e w' => ∃ v, e = .returned (.tuple #[v, .int .i64 0]) ∧ RowsLone w' w.heap.size v (encL n k ls wide) ∧ Below w.heap.size w w' := by
  have HS := Lib.hid (rsource_any w hc hk (by omega) vl ls hl (by omega))
  rw [show (decide (ls.length = k) && evenB ls) = true by rw [hln, evenB_of hwd]; simp] at HS
  have HC := Lib.hid hc
  have HL := Lib.hid hl
  have HLN := Lib.hid hln
  have HWD := Lib.hid (show ∀ i, i < k → (ls.getD i []).length = wide by rw [← hln]; exact hwd)
  obtain ⟨pl, cl, rfl⟩ := hl.shape
  rw [hln] at HS HL ⊢
  clear hc hl hln hwd
  go_enter Tryz.func32, Tryz.ntmps32
  go_wp2_with fail
  refine HS.out.mono ?_
  rintro e w' ⟨rfl, nq, rfl⟩
  have HC1 := Lib.hid (show RCoderAt (w.drewN nq) b n k from HC.out)
  have HL1 := Lib.hid (show RowsAt (w.drewN nq) (.slice pl k cl) ls from HL.out)
  have HB1 := Lib.hid (belowDr (Below.refl w.heap.size w) nq)
  go_wp2_with fail
  generalize w.drewN nq = w1 at *
  have d0 : w1.drew.cell? ⟨b, 0, none⟩ = some (.int .i64 (n : Int)) := HC1.out.c0
  have d1 : w1.drew.cell? ⟨b, 1, none⟩ = some (.int .i64 (k : Int)) := HC1.out.c1
  have hbl : b < w1.drew.heap.size := HC1.out.lt
  go_region_held3 (fun w' => w'.cell? ⟨b, 0, none⟩ = some (.int .i64 (n : Int)) ∧ w'.cell? ⟨b, 1, none⟩ = some (.int .i64 (k : Int)))
    (first | with_reducible exact ⟨d0, d1⟩ | with_reducible exact ⟨y0, y1⟩ | with_reducible exact ⟨z0, z1⟩ | with_reducible exact ⟨x0, x1⟩)
    ((first
      | (go_at_call_of 53 (Value.int .i64 (k : Int)); refine (rpoints_any _ k (by omega)).mono ?_; rintro e w5 ⟨v5, rfl, ho5, hB5⟩; have HO5 := Lib.hid ho5; have hb5 := below_more (belowDrew HB1.out) hB5 HB1.out.size; have y0 := (hB5.cell (p := ⟨b, 0, none⟩) hbl).trans d0; have y1 := (hB5.cell (p := ⟨b, 1, none⟩) hbl).trans d1; have HL5 := Lib.hid (RowsAt.below (w := w1.drew) HL1.out hB5); have HB5 := Lib.hid hb5; have hs5 := hB5.size; obtain ⟨p5, c5, rfl⟩ := ho5.shape; clear ho5 hB5 hb5)
      | (go_at_call_of 53 (Value.int .i64 (n : Int)); refine (rpoints_any _ n (by omega)).mono ?_; rintro e w6 ⟨v6, rfl, ho6, hB6⟩; have HO6 := Lib.hid ho6; have hb6 := below_more HB5.out hB6 HB5.out.size; have z0 := (hB6.cell (p := ⟨b, 0, none⟩) (Nat.lt_of_lt_of_le hbl hs5)).trans y0; have z1 := (hB6.cell (p := ⟨b, 1, none⟩) (Nat.lt_of_lt_of_le hbl hs5)).trans y1; have HL6 := Lib.hid (HL5.out.below hB6); have HO56 := Lib.hid (HO5.out.below hB6); have HB6 := Lib.hid hb6; have hs6 := hB6.size; obtain ⟨p6, c6, rfl⟩ := ho6.shape; clear ho6 hB6 hb6)
      | (go_at_call 52; refine (rmoved_lone _ _ _ _ (ptsL k) ls (ptsL n) k n wide (by exact HO56.out.bytes) (by exact HL6.out) (by exact HO6.out.bytes) (ptsL_len k) HLN.out (ptsL_len n) (ptsL_nodup (by omega)) hk (by omega) hn HWD.out hwb).mono ?_; rintro e w7 ⟨v7, rfl, hr7, hB7⟩; have x0 := (hB7.cell (p := ⟨b, 0, none⟩) (Nat.lt_of_lt_of_le (Nat.lt_of_lt_of_le hbl hs5) hs6)).trans z0; have x1 := (hB7.cell (p := ⟨b, 1, none⟩) (Nat.lt_of_lt_of_le (Nat.lt_of_lt_of_le hbl hs5) hs6)).trans z1; have HR7 := Lib.hid hr7; have HB7 := Lib.hid (below_more HB6.out hB7 HB6.out.size); clear hr7 hB7)))
  go_wp2
  go_ret2
  exact ⟨_, rfl, by rw [← mov_enc]; exact RowsLone.weaken HR7.out (by have := HB6.out.size; omega), HB7.out⟩

theorem rencode_any (w : World) {b n k : Nat} (hc : RCoderAt w b n k) (hk : 1 ≤ k) (hkn : k ≤ n) (hn : n ≤ 255) (vl : Value) (ls : List (List B)) (wide : Nat) (hl : RowsAt w vl ls) (hln : ls.length = k) (hwd : ∀ i, i < ls.length → (ls.getD i []).length = wide) (hwb : wide ≤ 1000000) :
    Calls Tryz.prog 32 #[.pointer (some ⟨b, 0, none⟩), vl] w fun e w' => ∃ v, e = .returned (.tuple #[v, .int .i64 0]) ∧ RowsAt w' v (encL n k ls wide) ∧ Below w.heap.size w w' := by
  refine (rencode_lone w hc hk hkn hn vl ls wide hl hln hwd hwb).mono ?_
  rintro e w' ⟨v, rfl, h, hB⟩
  exact ⟨v, rfl, h.rows, hB⟩
end -- RefK

section -- RefL
open Go.RowKit Go.Maps
set_option linter.unusedVariables false
set_option maxRecDepth 100000
set_option maxHeartbeats 4000000
end -- RefL

end Go.Proofs.YtanjchpkekehgaaGreat
