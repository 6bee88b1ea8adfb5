/-
  LayMore: the walk.
-/
import Derived.Test.YtanjchpkekehgaaLayZa
import Derived.Test.YtanjchpkekehgaaLayYb
namespace Go.Proofs.Ytanjchpkekehgaa
open Go.RowKit Go.Maps
set_option linter.unusedVariables false
set_option linter.unusedSimpArgs false
set_option maxRecDepth 100000
set_option maxHeartbeats 4000000

theorem more_any (w : World) (n k : Int) (vl vk vb : Value) (ls : List (List B)) (ks : List Int) (last : List B) (hl : RowsAt w vl ls) (hk : IntsAt w vk ks) (hb : BytesAt w vb last) (hll : ls.length ≤ 140737488355328) (hlr : ∀ i, i < ls.length → (ls.getD i []).length ≤ 140737488355328) (hkl : ks.length ≤ 140737488355328) (hbl : last.length ≤ 140737488355328) :
    Calls Try.prog 5 #[.int .i64 n, vl, vk, vb, .int .i64 k] w fun e w' => e = .returned (.bool true) ∧ Below w.heap.size w w' := by
  have HL := Lib.hid hl
  have HK := Lib.hid hk
  have HLA := Lib.hid hb
  have HLR := Lib.hid hlr
  clear hl hk hb hlr
  obtain ⟨pl, cl, hv⟩ := HL.out.shape
  subst hv
  obtain ⟨pk, ck, hv, hkc, hkh⟩ := HK.out
  subst hv
  obtain ⟨pa, ca, hv⟩ := HLA.out.shape
  subst hv
  have HKH := Lib.hid hkh
  obtain ⟨M, hM⟩ : ∃ M, ks.length = M := ⟨_, rfl⟩
  have HM := Lib.hid hM
  rw [hM] at HKH hkl hkc HK ⊢
  obtain ⟨R, hR⟩ : ∃ R, ls.length = R := ⟨_, rfl⟩
  have HR := Lib.hid hR
  rw [hR] at HL hll ⊢
  obtain ⟨Z, hZ⟩ : ∃ Z, last.length = Z := ⟨_, rfl⟩
  have HZ := Lib.hid hZ
  rw [hZ] at HLA hbl ⊢
  clear hkh hM hR hZ
  go_enter Try.func5, Try.ntmps5
  go_wp2_with fail
  refine (lawake_any w).mono ?_
  rintro e w1 ⟨rfl, hB1⟩
  have HB1 := Lib.hid hB1
  have HL1 := Lib.hid (HL.out.below hB1)
  have HK1 := Lib.hid (HK.out.below hB1)
  clear hB1
  go_wp2_with fail
  refine (size_any _ _ ls (by exact HL1.out) (by rw [HR.out]; omega) HLR.out).mono ?_
  rintro e w2' ⟨y, rfl, hy, hyb, rfl⟩
  have HY := Lib.hid hy
  clear hy
  have hsum : wrap64 ((y : Int) + (M : Int)) = (y : Int) + (M : Int) := by unfold wrap64; omega
  have hsum2 : wrap64 ((y : Int) + (M : Int) + (Z : Int)) = (y : Int) + (M : Int) + (Z : Int) := by unfold wrap64; omega
  by_cases hy : (300 : Int) < (y : Int) + (M : Int) + (Z : Int)
  · go_wp2
    go_ret
    exact ⟨rfl, HB1.out⟩
  obtain ⟨hls, hlw⟩ := HY.out (by omega)
  rw [HR.out] at hls
  have HLW := Lib.hid hlw
  have hM3 : M ≤ 300 := by omega
  have hZ3 : Z ≤ 300 := by omega
  clear hlw
  go_wp2_with fail
  refine (bodies_any _ n _ _ ls ks HL1.out HK1.out (by rw [HM.out]; omega) (fun i hi => by have := HLW.out i hi; omega)).mono ?_
  rintro e w2 ⟨v, rfl, hok, hno, hB2⟩
  have HB2 := Lib.hid (below_more HB1.out hB2 HB1.out.size)
  have HOK := Lib.hid hok
  obtain ⟨E1, hE1⟩ : ∃ x, bodE n ls ks = x := ⟨_, rfl⟩
  have HE1 := Lib.hid hE1
  rw [hE1] at HOK ⊢
  clear hok hno hB2 hE1
  have HO2 := Lib.hid (lit_none w2 37 1 w2.heap.size w2.heap.size rfl (Nat.le_refl _))
  have hA := Lib.hid (balT w2 (.cells #[] 37))
  have hsA : w2.heap.size ≤ (w2.alloc (.cells #[] 37)).heap.size := by simp
  have HHD := Lib.hid (show 0 < R → ∃ g off, pl = some ⟨g, off, none⟩ ∧ ∀ i u, (match pl with | some a => hdrs w a.block a.off R | none => [])[i]? = some u → (w2.alloc (.cells #[] 37)).cell? ⟨g, off + i, none⟩ = some u from fun h0 => by
    obtain ⟨_, _, e, hh⟩ := HL.out
    have e1 := (Value.slice.inj e).1
    subst e1
    rw [HR.out] at hh
    obtain ⟨g, off, rfl, hc⟩ := hh h0
    refine ⟨g, off, rfl, fun i u hu => ?_⟩
    have hi : i < R := by have := (List.getElem?_eq_some_iff.1 hu).1; rw [hdrs_len] at this; exact this
    obtain ⟨z, hz, _⟩ := hc i hi
    rw [hdrs_get hz hu]
    exact (hA.out.cell (p := ⟨g, off + i, none⟩) (by have h1 := blt hz; have h2 := HB2.out.size; show g < _; omega)).trans ((HB2.out.cell (p := ⟨g, off + i, none⟩) (blt hz)).trans hz))
  obtain ⟨us, hus⟩ : ∃ us, (match pl with | some a => hdrs w a.block a.off R | none => []) = us := ⟨_, rfl⟩
  have HUL := Lib.hid (show us.length = R from by
    rw [← hus]
    obtain ⟨_, _, e, hh⟩ := HL.out
    have e1 := (Value.slice.inj e).1
    subst e1
    rw [HR.out] at hh
    by_cases h0 : 0 < R
    · obtain ⟨g, off, rfl, hc⟩ := hh h0
      exact hdrs_len _ _ _ _
    · have : R = 0 := by omega
      subst this
      cases pl <;> simp [hdrs])
  have HUB := Lib.hid (show ∀ i u, us[i]? = some u → BytesAt w u (ls.getD i []) from fun i u hu => by
    have hi : i < R := by have := (List.getElem?_eq_some_iff.1 hu).1; rw [HUL.out] at this; exact this
    rw [← hus] at hu
    obtain ⟨_, _, e, hh⟩ := HL.out
    have e1 := (Value.slice.inj e).1
    subst e1
    rw [HR.out] at hh
    obtain ⟨g, off, rfl, hc⟩ := hh (by omega)
    obtain ⟨z, hz, hb⟩ := hc i hi
    rw [hdrs_get hz hu]
    exact hb)
  rw [hus] at HHD
  clear hus
  have HU1 := Lib.hid (show ∀ u ∈ us, u.oneCell' = true from fun u hu => by
    obtain ⟨i, hi, rfl⟩ := List.getElem_of_mem hu
    obtain ⟨p, c, e⟩ := (HUB.out i _ (List.getElem?_eq_getElem hi)).shape
    rw [e]; rfl)
  have HKZ := Lib.hid (show ∀ (W : World), Below w2.heap.size w2 W → 0 < M → ∃ g off, pk = some ⟨g, off, none⟩ ∧ ∀ i, i < M → W.cell? ⟨g, off + i, none⟩ = some (.int .i64 (ks.getD i 0)) from fun W hW h0 => by
    obtain ⟨g, off, rfl, hc⟩ := HKH.out h0
    exact ⟨g, off, rfl, fun i hi => ((below_more HB2.out hW HB2.out.size).cell (p := ⟨g, off + i, none⟩) (blt (hc i hi))).trans (hc i hi)⟩)
  go_wp2_with (first
    | (at_builtin; refine app_rows0 rfl _ _ rfl w2.heap.size R _ us HUL.out HO2.out _ _ HHD.out HU1.out rfl rfl (by omega) hsA ?_; intro p1 c1 w3 oA kA; have HOA := Lib.hid oA; have BA := Lib.hid (hA.out.trans (kA.toBelow hsA (fun i hi => (HO2.out.lt i hi).1))); have bA := BA.out.size; clear oA kA)
    | (at_builtin; refine app_head rfl _ _ rfl w2.heap.size R _ us rfl HOA.out _ rfl rfl (by omega) bA ?_; intro g2 c2 w4 oB kB sB gB; have HOB := Lib.hid oB; have BB := Lib.hid (BA.out.trans (kB.toBelow bA (fun i hi => (HOA.out.lt i hi).1))); have bB := BB.out.size; have BC := Lib.hid (BB.out.alloc bB (.cells #[] 3)); have bC := BC.out.size; have HO3 := Lib.hid (lit_none w4 3 1 w4.heap.size w4.heap.size rfl (Nat.le_refl _)); have HKY := Lib.hid (HKZ.out _ BC.out); have bC2 : w4.heap.size ≤ (w4.alloc (.cells #[] 3)).heap.size := (by simp); clear oB kB gB)
    | (at_builtin; refine app_ints0 rfl _ _ rfl w4.heap.size M _ ks HM.out HO3.out _ _ HKY.out rfl rfl (by omega) bC2 ?_; intro p3 c3 w5 oC kC; have HOC := Lib.hid oC; have BD := Lib.hid (kC.toBelow bC2 (fun i hi => (HO3.out.lt i hi).1)); have BE := Lib.hid (show Below w4.heap.size w4 w5 from (balT w4 _).trans BD.out); have bE := BE.out.size; clear oC kC)
    | (at_builtin; refine app_el 33 3 1 8 (.int .i64 0) Try.underlying33 infoI rfl (by decide) rfl _ _ rfl w4.heap.size M _ _ rfl HOC.out [.int .i64 k] rfl (by simp [Value.oneCell']) rfl (by omega) bE ?_; intro g4 c4 w6 oD kD sD gD; have HOD := Lib.hid oD; have BF := Lib.hid (BE.out.trans (kD.toBelow bE (fun i hi => (HOC.out.lt i hi).1))); clear oD kD gD))
  have B26 := Lib.hid (BB.out.trans (BF.out.mono bB))
  have BA6 := Lib.hid (below_more HB2.out B26.out HB2.out.size)
  have HNS := Lib.hid (show ∀ i (hi : i < (ls ++ [last]).length), ((ls ++ [last]).getD i []).length ≤ 1000000000 from fun i hi => by
    rw [List.length_append, HR.out] at hi
    simp at hi
    by_cases e : i < R
    · rw [getD_snoc_lt (by rw [HR.out]; exact e)]
      have := HLW.out i (by rw [HR.out]; exact e)
      omega
    · have : i = ls.length := by rw [HR.out]; omega
      subst this
      rw [getD_snoc_last, HZ.out]
      omega)
  have HNR := Lib.hid (show RowsAt w6 (.slice (some ⟨g2, 0, none⟩) (R + 1) c2) (ls ++ [last]) from by
    refine RowsAt.below (w := w4) ?_ BF.out
    refine RowsAt.of_owns (us := us ++ [.slice pa Z ca]) (by rw [List.length_append, HR.out]; exact HOB.out) (fun i u hu => ?_)
    by_cases e : i < us.length
    · rw [List.getElem?_append_left e] at hu
      rw [getD_snoc_lt (by rw [HR.out, ← HUL.out]; exact e)]
      exact ((HUB.out i u hu).below HB2.out).below BB.out
    · have hi' : i = us.length := by
        have := (List.getElem?_eq_some_iff.1 hu).1
        simp at this; omega
      subst hi'
      have e2 : u = .slice pa Z ca := by simpa using hu.symm
      subst e2
      rw [HUL.out, ← HR.out, getD_snoc_last]
      exact (HLA.out.below HB2.out).below BB.out)
  have HNI := Lib.hid (show IntsAt w6 (.slice (some ⟨g4, 0, none⟩) (M + 1) c4) (ks ++ [k]) from
    IntsAt.of_owns (base := w4.heap.size) (by rw [List.length_append, HM.out, List.map_append]; exact HOD.out))
  refine (bodies_any _ n _ _ (ls ++ [last]) (ks ++ [k]) HNR.out HNI.out (by rw [List.length_append, HM.out]; simp; omega) HNS.out).mono ?_
  rintro e w7 ⟨v2, rfl, hok2, _, hB7⟩
  have HOK2 := Lib.hid hok2
  obtain ⟨E2, hE2⟩ : ∃ x, bodE n (ls ++ [last]) (ks ++ [k]) = x := ⟨_, rfl⟩
  have HE2 := Lib.hid hE2
  rw [hE2] at HOK2 ⊢
  have B27 := Lib.hid (below_more B26.out hB7 B26.out.size)
  have BA7 := Lib.hid (below_more BA6.out hB7 BA6.out.size)
  clear hok2 hB7 hE2
  by_cases he1 : E1 = 0
  rotate_left
  · go_wp2
    go_ret
    exact ⟨rfl, BA7.out⟩
  by_cases he2 : E2 = 0
  rotate_left
  · go_wp2
    go_ret
    exact ⟨rfl, BA7.out⟩
  subst he1 he2
  have hlo := HOK.out rfl
  have hlo2 := HOK2.out rfl
  have htb : ls.length = ks.length ∧ TableOk n (tabL ls ks) := by
    have he := HE1.out
    unfold bodE at he
    split at he
    · assumption
    · omega
  obtain ⟨hlk, htab⟩ := htb
  have HLK := Lib.hid hlk
  rw [HR.out, HM.out] at hlk
  subst hlk
  obtain ⟨N, rfl⟩ : ∃ N : Nat, n = (N : Int) := ⟨n.toNat, by have := htab.1; omega⟩
  have hN1 : 1 ≤ N := by have := htab.1; omega
  have hN2 : N ≤ 255 := by have := htab.2.1; omega
  have HTAB := Lib.hid htab
  have HTLEN := Lib.hid (show (tabL ls ks).length = R by rw [tabL_len, HM.out])
  have hM8 : R ≤ 8 := by have := htab.2.2.2.1; rw [HTLEN.out] at this; exact this
  have hM1 : 1 ≤ R := by have := htab.2.2.1; rw [HTLEN.out] at this; exact this
  rw [show (N : Int).toNat = N from Int.toNat_natCast N, HM.out] at hlo
  rw [show (N : Int).toNat = N from Int.toNat_natCast N, List.length_append, HM.out] at hlo2
  have HLO := Lib.hid hlo
  have hrw := hlo.rows
  have HLO2 := Lib.hid hlo2
  have hrw2 := hlo2.rows
  clear hyb hkl hll hbl hsum hsum2 bA bB bC bC2 bE hsA hrw hrw2
  have hrw := HLO.out.rows
  have hrw2 := HLO2.out.rows
  rw [show [k].length = 1 from rfl] at HLO2 hrw2
  obtain ⟨LL, hLL⟩ : ∃ x, bodiesL N ls ks R = x := ⟨_, rfl⟩
  rw [hLL] at HLO hrw
  obtain ⟨L2, hL2⟩ : ∃ x, bodiesL N (ls ++ [last]) (ks ++ [k]) (R + 1) = x := ⟨_, rfl⟩
  rw [hL2] at HLO2 hrw2
  have HLLN := Lib.hid (show LL.length = N by rw [← hLL, bodiesL_len])
  have HL2N := Lib.hid (show L2.length = N by rw [← hL2, bodiesL_len])
  have HLLG := Lib.hid (show ∀ i, i < N → LL.getD i [] = bodyL N ls ks i R from fun i hi => by rw [← hLL, bodiesL_get hi])
  have HL2G := Lib.hid (show ∀ i, i < N → L2.getD i [] = bodyL N (ls ++ [last]) (ks ++ [k]) i (R + 1) from fun i hi => by rw [← hL2, bodiesL_get hi])
  have HLLE := Lib.hid hLL
  obtain ⟨long, hlong⟩ : ∃ x, atT (tabL ls ks) R = x := ⟨_, rfl⟩
  obtain ⟨long2, hlong2⟩ : ∃ x, atT (tabL (ls ++ [last]) (ks ++ [k])) (R + 1) = x := ⟨_, rfl⟩
  have HLLW := Lib.hid (show ∀ i, i < N → (LL.getD i []).length = long from fun i hi => by rw [HLLG.out i hi, bodyL_length hi (by rw [HM.out]; exact Nat.le_refl _), hlong])
  have HL2W := Lib.hid (show ∀ i, i < N → (L2.getD i []).length = long2 from fun i hi => by rw [HL2G.out i hi, bodyL_length hi (by rw [List.length_append, HM.out]; exact Nat.le_refl _), hlong2])
  have hll2 : long ≤ long2 := by
    have h := bodyL_longer (n := N) (i := 0) (b := last) (k := k) HLK.out HM.out
    rw [← HLLG.out 0 (by omega), ← HL2G.out 0 (by omega), HLLW.out 0 (by omega), HL2W.out 0 (by omega)] at h
    exact h
  have HTK := Lib.hid (show ∀ i, i < N → (L2.getD i []).take long = LL.getD i [] from fun i hi => by
    rw [← HLLW.out i hi, HL2G.out i hi, HLLG.out i hi]
    exact bodyL_take HLK.out HM.out)
  have hlow := atT_low htab.2.2.2.2 (i := R) (by rw [HTLEN.out]; exact Nat.le_refl _)
  rw [hlong] at hlow
  have hlg : long ≤ 1000000 := by omega
  clear hLL hL2 hlow hlong hlong2 htab hlo hlo2
  obtain ⟨pb, cb, rfl, hbh⟩ := hrw
  obtain ⟨pb2, cb2, rfl, hbh2⟩ := hrw2
  rw [HLLN.out] at hbh HLO ⊢
  rw [HL2N.out] at hbh2 HLO2 ⊢
  obtain ⟨gb, ob, rfl, hbc⟩ := hbh (by omega)
  obtain ⟨gb2, ob2, rfl, hbc2⟩ := hbh2 (by omega)
  have hob : ob = 0 := by
    obtain ⟨us, h1, _⟩ := HLO.out
    rcases h1.2 with ⟨e2, _⟩ | ⟨g2, cap, cur, e2, _⟩
    · exact absurd (Value.slice.inj e2).1 (by simp)
    · have := (Value.slice.inj e2).1
      simp at this
      exact this.2
  have hob2 : ob2 = 0 := by
    obtain ⟨us, h1, _⟩ := HLO2.out
    rcases h1.2 with ⟨e2, _⟩ | ⟨g2, cap, cur, e2, _⟩
    · exact absurd (Value.slice.inj e2).1 (by simp)
    · have := (Value.slice.inj e2).1
      simp at this
      exact this.2
  subst hob hob2
  have HBC := Lib.hid (show ∀ i, i < N → ∃ p c, w7.cell? ⟨gb, i, none⟩ = some (.slice p long c) ∧ long ≤ c ∧ BytesAt w7 (.slice p long c) (LL.getD i []) from fun i hi => by
    obtain ⟨u, h1, h2⟩ := hbc i hi
    obtain ⟨p, c, rfl⟩ := h2.shape
    rw [HLLW.out i hi] at h1 h2
    rw [Nat.zero_add] at h1
    exact ⟨p, c, (B27.out.cell (p := ⟨gb, i, none⟩) (blt h1)).trans h1, HLO.out.cap (by rw [HLLN.out]; exact hi) h1, h2.below B27.out⟩)
  have HBC2 := Lib.hid (show ∀ i, i < N → ∃ p c, w7.cell? ⟨gb2, i, none⟩ = some (.slice p long2 c) ∧ long2 ≤ c ∧ BytesAt w7 (.slice p long2 c) (L2.getD i []) from fun i hi => by
    obtain ⟨u, h1, h2⟩ := hbc2 i hi
    obtain ⟨p, c, rfl⟩ := h2.shape
    rw [HL2W.out i hi] at h1 h2
    rw [Nat.zero_add] at h1
    exact ⟨p, c, h1, HLO2.out.cap (by rw [HL2N.out]; exact hi) h1, h2⟩)
  have HTS := Lib.hid (fun (j : Nat) (h : j < R) => tabL_snoc (ls := ls) (ks := ks) (by rw [HM.out]; exact h))
  have HTF := Lib.hid (show (tabL ls ks).take R = tabL ls ks from List.take_of_length_le (by rw [HTLEN.out]; exact Nat.le_refl _))
  clear hbh hbc hbh2 hbc2
  obtain ⟨gk, ok, rfl, hkc2⟩ := HKH.out (by omega)
  obtain ⟨pl2, cl2, hv, hlc⟩ := HL.out
  have e1 := (Value.slice.inj hv).1
  subst e1
  rw [HR.out] at hlc
  obtain ⟨gl, ol, rfl, hlcc⟩ := hlc (by omega)
  have HKC := Lib.hid hkc2
  have HLC := Lib.hid hlcc
  clear hv hlc hkc2 hlcc
  go_wp2_with fail
  go_loopw [15, 16] (fun v i wr => ∃ j : Nat, j ≤ R ∧ i = .int .i64 (j : Int) ∧ wr.ownsRow w7.heap.size 39 2 v j (tc ((tabL ls ks).take j)) ∧ Below w7.heap.size w7 wr) (fun _ i _ => R - (intOf i).toNat)
  case atStart => exact ⟨0, Nat.zero_le _, rfl, by rw [List.take_zero]; exact World.ownsRow_nil _ _ _ _, Below.refl _ _⟩
  case round =>
    obtain ⟨wo, rfl⟩ : ∃ wo, wo = wr := ⟨_, rfl⟩
    obtain ⟨j, hj, rfl, ho, hB⟩ := hrel
    obtain ⟨pt, ct, rfl⟩ := own_shapeL ho
    have HO := Lib.hid ho
    have HB := Lib.hid hB
    have hsr := hB.size
    have HBA := Lib.hid (below_more BA7.out hB BA7.out.size)
    by_cases hlt : j < R
    · have d0 := HKC.out j hlt
      have d0 := (HBA.out.cell (p := ⟨gk, ok + j, none⟩) (blt d0)).trans d0
      obtain ⟨u, d1, hub⟩ := HLC.out j hlt
      have f1 := (BA7.out.cell (p := ⟨gl, ol + j, none⟩) (blt d1)).trans d1
      have d1 := (HBA.out.cell (p := ⟨gl, ol + j, none⟩) (blt d1)).trans d1
      obtain ⟨pu, cu, rfl⟩ := hub.shape
      have hsn := HTS.out j hlt
      obtain ⟨kk, hkk⟩ : ∃ x, ks.getD j 0 = x := ⟨_, rfl⟩
      obtain ⟨lll, hll⟩ : ∃ x, (ls.getD j []).length = x := ⟨_, rfl⟩
      rw [hkk] at d0 hsn
      rw [hll] at d1 f1 hsn
      have HSN := Lib.hid (show tc ((tabL ls ks).take j) ++ [.int .i64 kk, .int .i64 (lll : Int)] = tc ((tabL ls ks).take (j + 1)) by rw [hsn, tc_app]; rfl)
      have HOD := Lib.hid (show wo.drew.ownsRow w7.heap.size 39 2 (.slice pt j ct) j (tc ((tabL ls ks).take j)) from ownsRow_keptS ho (Kept.below (balD wo 1)) (fun _ _ h => h))
      have hsd : w7.heap.size ≤ wo.drew.heap.size := hsr
      have HBD := Lib.hid (show Below w7.heap.size w7 wo.drew from below_more hB (balD wo 1) hsr)
      have f0 := (BA7.out.cell (p := ⟨gk, ok + j, none⟩) (blt (HKC.out j hlt))).trans (HKC.out j hlt)
      rw [hkk] at f0
      have HBX := Lib.hid (show Below w7.heap.size w7 (wo.drew.alloc (.cells #[.int .i64 kk, .int .i64 (lll : Int)] 39)) from HBD.out.alloc hsd _)
      have hsx : w7.heap.size ≤ (wo.drew.alloc (.cells #[.int .i64 kk, .int .i64 (lll : Int)] 39)).heap.size := by simp; omega
      have HOX := Lib.hid (show (wo.drew.alloc (.cells #[.int .i64 kk, .int .i64 (lll : Int)] 39)).ownsRow w7.heap.size 39 2 (.slice pt j ct) j (tc ((tabL ls ks).take j)) from ownsRow_keptS HOD.out (Kept.below (balT wo.drew _)) (fun _ _ h => h))
      clear hub hkk hll hsn ho hB
      go_wp2_with fail
      refine s_start 14 (fun W => Below w7.heap.size w7 W) (by as_aux_lemma => kernel_rfl) (by as_aux_lemma => kernel_rfl) HBD.out ?_
      refine s_take 0 (by as_aux_lemma => kernel_rfl) (by as_aux_lemma => kernel_rfl) (by as_aux_lemma => kernel_rfl) (by as_aux_lemma => kernel_rfl) HBD.out (fun oi ho => ?_)
      simp only [List.getElem?_toArray, List.getElem?_cons_succ, List.getElem?_cons_zero, Option.some.injEq] at ho
      subst ho
      refine ⟨?_, Or.inl ⟨by rfl, fun w _ => ?_⟩, ?_⟩
      rotate_left
      · (go_simp <;> with_reducible rfl)
      try simp only [Act.put, List.setIfInBounds_toArray, List.set_cons_zero, List.set_cons_succ]
      refine s_take 1 (by as_aux_lemma => kernel_rfl) (by as_aux_lemma => kernel_rfl) (by as_aux_lemma => kernel_rfl) (by as_aux_lemma => kernel_rfl) HBD.out (fun oi ho => ?_)
      simp only [List.getElem?_toArray, List.getElem?_cons_succ, List.getElem?_cons_zero, Option.some.injEq] at ho
      subst ho
      refine ⟨?_, Or.inl ⟨by rfl, fun w _ => ?_⟩, ?_⟩
      rotate_left
      · (go_simp <;> with_reducible rfl)
      try simp only [Act.put, List.setIfInBounds_toArray, List.set_cons_zero, List.set_cons_succ]
      refine s_take 2 (by as_aux_lemma => kernel_rfl) (by as_aux_lemma => kernel_rfl) (by as_aux_lemma => kernel_rfl) (by as_aux_lemma => kernel_rfl) HBD.out (fun oi ho => ?_)
      simp only [List.getElem?_toArray, List.getElem?_cons_succ, List.getElem?_cons_zero, Option.some.injEq] at ho
      subst ho
      refine ⟨?_, Or.inl ⟨by rfl, fun w _ => ?_⟩, ?_⟩
      rotate_left
      · (go_simp <;> with_reducible rfl)
      try simp only [Act.put, List.setIfInBounds_toArray, List.set_cons_zero, List.set_cons_succ]
      refine s_take 3 (by as_aux_lemma => kernel_rfl) (by as_aux_lemma => kernel_rfl) (by as_aux_lemma => kernel_rfl) (by as_aux_lemma => kernel_rfl) HBD.out (fun oi ho => ?_)
      simp only [List.getElem?_toArray, List.getElem?_cons_succ, List.getElem?_cons_zero, Option.some.injEq] at ho
      subst ho
      refine ⟨?_, Or.inl ⟨by rfl, fun w _ => ?_⟩, ?_⟩
      rotate_left
      · (go_simp <;> with_reducible rfl)
      try simp only [Act.put, List.setIfInBounds_toArray, List.set_cons_zero, List.set_cons_succ]
      refine s_take 4 (by as_aux_lemma => kernel_rfl) (by as_aux_lemma => kernel_rfl) (by as_aux_lemma => kernel_rfl) (by as_aux_lemma => kernel_rfl) HBD.out (fun oi ho => ?_)
      simp only [List.getElem?_toArray, List.getElem?_cons_succ, List.getElem?_cons_zero, Option.some.injEq] at ho
      subst ho
      refine ⟨.int .i64 kk, Or.inl ⟨by rfl, fun w' hS' => ?_⟩, ?_⟩
      · have z := (hS'.cell (p := ⟨gk, ok + j, none⟩) (blt f0)).trans f0
        clear d0 d1 f0 f1
        (go_simp <;> with_reducible rfl)
      try simp only [Act.put, List.setIfInBounds_toArray, List.set_cons_zero, List.set_cons_succ]
      refine s_take 5 (by as_aux_lemma => kernel_rfl) (by as_aux_lemma => kernel_rfl) (by as_aux_lemma => kernel_rfl) (by as_aux_lemma => kernel_rfl) HBD.out (fun oi ho => ?_)
      simp only [List.getElem?_toArray, List.getElem?_cons_succ, List.getElem?_cons_zero, Option.some.injEq] at ho
      subst ho
      refine ⟨?_, Or.inl ⟨by rfl, fun w _ => ?_⟩, ?_⟩
      rotate_left
      · (go_simp <;> with_reducible rfl)
      try simp only [Act.put, List.setIfInBounds_toArray, List.set_cons_zero, List.set_cons_succ]
      refine s_take 6 (by as_aux_lemma => kernel_rfl) (by as_aux_lemma => kernel_rfl) (by as_aux_lemma => kernel_rfl) (by as_aux_lemma => kernel_rfl) HBD.out (fun oi ho => ?_)
      simp only [List.getElem?_toArray, List.getElem?_cons_succ, List.getElem?_cons_zero, Option.some.injEq] at ho
      subst ho
      refine ⟨?_, Or.inl ⟨by rfl, fun w _ => ?_⟩, ?_⟩
      rotate_left
      · (go_simp <;> with_reducible rfl)
      try simp only [Act.put, List.setIfInBounds_toArray, List.set_cons_zero, List.set_cons_succ]
      refine s_take 7 (by as_aux_lemma => kernel_rfl) (by as_aux_lemma => kernel_rfl) (by as_aux_lemma => kernel_rfl) (by as_aux_lemma => kernel_rfl) HBD.out (fun oi ho => ?_)
      simp only [List.getElem?_toArray, List.getElem?_cons_succ, List.getElem?_cons_zero, Option.some.injEq] at ho
      subst ho
      refine ⟨?_, Or.inl ⟨by rfl, fun w _ => ?_⟩, ?_⟩
      rotate_left
      · (go_simp <;> with_reducible rfl)
      try simp only [Act.put, List.setIfInBounds_toArray, List.set_cons_zero, List.set_cons_succ]
      refine s_take 8 (by as_aux_lemma => kernel_rfl) (by as_aux_lemma => kernel_rfl) (by as_aux_lemma => kernel_rfl) (by as_aux_lemma => kernel_rfl) HBD.out (fun oi ho => ?_)
      simp only [List.getElem?_toArray, List.getElem?_cons_succ, List.getElem?_cons_zero, Option.some.injEq] at ho
      subst ho
      refine ⟨.slice pu lll cu, Or.inl ⟨by rfl, fun w' hS' => ?_⟩, ?_⟩
      · have z := (hS'.cell (p := ⟨gl, ol + j, none⟩) (blt f1)).trans f1
        clear d0 d1 f0 f1
        (go_simp <;> with_reducible rfl)
      try simp only [Act.put, List.setIfInBounds_toArray, List.set_cons_zero, List.set_cons_succ]
      refine s_take 9 (by as_aux_lemma => kernel_rfl) (by as_aux_lemma => kernel_rfl) (by as_aux_lemma => kernel_rfl) (by as_aux_lemma => kernel_rfl) HBD.out (fun oi ho => ?_)
      simp only [List.getElem?_toArray, List.getElem?_cons_succ, List.getElem?_cons_zero, Option.some.injEq] at ho
      subst ho
      refine ⟨?_, Or.inl ⟨by rfl, fun w _ => ?_⟩, ?_⟩
      rotate_left
      · (go_simp <;> with_reducible rfl)
      try simp only [Act.put, List.setIfInBounds_toArray, List.set_cons_zero, List.set_cons_succ]
      refine s_take 10 (by as_aux_lemma => kernel_rfl) (by as_aux_lemma => kernel_rfl) (by as_aux_lemma => kernel_rfl) (by as_aux_lemma => kernel_rfl) HBD.out (fun oi ho => ?_)
      simp only [List.getElem?_toArray, List.getElem?_cons_succ, List.getElem?_cons_zero, Option.some.injEq] at ho
      subst ho
      refine ⟨?_, Or.inl ⟨by rfl, fun w _ => ?_⟩, ?_⟩
      rotate_left
      · (go_simp <;> with_reducible rfl)
      try simp only [Act.put, List.setIfInBounds_toArray, List.set_cons_zero, List.set_cons_succ]
      refine s_all (rs := [11]) (by as_aux_lemma => kernel_rfl) (by simp) ?_
      refine s_step 11 (by as_aux_lemma => kernel_rfl) (fun o ho K hK => ?_) AllReadyH.nil
      simp only [List.getElem?_toArray, List.getElem?_cons_succ, List.getElem?_cons_zero, Option.some.injEq] at ho
      subst ho
      go_simp
      refine hK.out _ _ HBX.out ?_
      clear hK K
      try simp only [Act.put, List.setIfInBounds_toArray, List.set_cons_zero, List.set_cons_succ]
      refine s_all (rs := [12]) (by as_aux_lemma => kernel_rfl) (by simp) ?_
      refine s_step 12 (by as_aux_lemma => kernel_rfl) (fun o ho K hK => ?_) AllReadyH.nil
      simp only [List.getElem?_toArray, List.getElem?_cons_succ, List.getElem?_cons_zero, Option.some.injEq] at ho
      subst ho
      refine step_appN 22 39 2 16 _ Try.underlying22 infoT rfl (by decide) (by rfl) _ _ rfl w7.heap.size j (.slice pt j ct) _ rfl HOX.out wo.drew.heap.size [.int .i64 kk, .int .i64 (lll : Int)] rfl (by simp [Value.oneCell']) rfl (lit_twoI wo.drew _ _ _) (by omega) hsx ?_
      intro g' c' w6 hR6 hk6 hg6
      have HR6 := Lib.hid hR6
      have HB6 := Lib.hid (HBX.out.trans (hk6.toBelow hsx (fun i hi => (HOX.out.lt i hi).1)))
      clear hR6 hk6 hg6
      refine hK.out _ _ HB6.out ?_
      clear hK K
      try simp only [Act.put, List.setIfInBounds_toArray, List.set_cons_zero, List.set_cons_succ]
      refine s_take 13 (by as_aux_lemma => kernel_rfl) (by as_aux_lemma => kernel_rfl) (by as_aux_lemma => kernel_rfl) (by as_aux_lemma => kernel_rfl) HB6.out (fun oi ho => ?_)
      simp only [List.getElem?_toArray, List.getElem?_cons_succ, List.getElem?_cons_zero, Option.some.injEq] at ho
      subst ho
      refine ⟨?_, Or.inl ⟨by rfl, fun w _ => ?_⟩, ?_⟩
      rotate_left
      · (go_simp <;> with_reducible rfl)
      try simp only [Act.put, List.setIfInBounds_toArray, List.set_cons_zero, List.set_cons_succ]
      refine s_done (by as_aux_lemma => kernel_rfl) ?_
      skip
      go_wp2
      go_roundw
      case rel => exact ⟨j + 1, by omega, by go_num, by rw [← HSN.out]; exact HR6.out, HB6.out⟩
      case measure => simp [intOf]; omega
    · obtain rfl : j = R := by omega
      have hoT := ho
      rw [HTF.out] at hoT
      have HTA := Lib.hid (TableAt.of_owns (t := tabL ls ks) (by rw [HTLEN.out]; exact hoT))
      clear ho hoT hB
      have HWO := Lib.hid HB.out
      have HBCO := Lib.hid (show ∀ i, i < N → ∃ p c, wo.cell? ⟨gb, i, none⟩ = some (.slice p long c) ∧ long ≤ c ∧ BytesAt w7 (.slice p long c) (LL.getD i []) from fun i hi => by
        obtain ⟨p, c, h1, h2, h3⟩ := HBC.out i hi
        exact ⟨p, c, (HB.out.cell (p := ⟨gb, i, none⟩) (blt h1)).trans h1, h2, h3⟩)
      have HBCP := Lib.hid (show ∀ i, i < N → ∃ p c, wo.cell? ⟨gb2, i, none⟩ = some (.slice p long2 c) ∧ long2 ≤ c ∧ BytesAt w7 (.slice p long2 c) (L2.getD i []) from fun i hi => by
        obtain ⟨p, c, h1, h2, h3⟩ := HBC2.out i hi
        exact ⟨p, c, (HB.out.cell (p := ⟨gb2, i, none⟩) (blt h1)).trans h1, h2, h3⟩)
      have HMO := Lib.hid (fun (t : Nat) => readyT_mono HTAB.out (a := (t : Int)) (b := ((t + 1 : Nat) : Int)) (by omega))
      have HM0 := Lib.hid (readyT_none HTAB.out)
      have HHE := Lib.hid (show ∀ t, t < N → heldE N (atT (tabL ls ks) (tabL ls ks).length) (hsOf LL (List.range (t + 1))) = 0 from fun t ht => by
        rw [← HLLE.out, ← HM.out]; exact held_is List.nodup_range (fun x hx => by have := List.mem_range.1 hx; omega))
      have HHL := Lib.hid (fun (t : Nat) => (hsOf_len LL (List.range t)).trans List.length_range)
      have HSN := Lib.hid (show ∀ t, hsOf LL (List.range t) ++ [((t : Int), LL.getD t [])] = hsOf LL (List.range (t + 1)) from fun t => by rw [List.range_succ, hsOf_snoc])
      obtain ⟨tab, htab⟩ : ∃ x, tabL ls ks = x := ⟨_, rfl⟩
      rw [htab] at HTA HMO HM0 HHE HTAB HTLEN
      clear htab
      go_wp2_with fail
      go_loopw [17, 18, 19, 20, 21] (fun vh was i _ _ wr => ∃ t : Nat, t ≤ N ∧ i = .int .i64 (t : Int) ∧ was = .int .i64 ((readyT tab (t : Int) : Nat) : Int) ∧ HeldL w7 wr wo.heap.size vh (hsOf LL (List.range t)) ∧ Below wo.heap.size wo wr) (fun _ _ i _ _ _ => N - (intOf i).toNat)
      case atStart => exact ⟨0, Nat.zero_le _, rfl, by rw [show ((0 : Nat) : Int) = 0 from rfl, HM0.out]; rfl, HeldL.nil _ _ _, Below.refl _ _⟩
      case round =>
        obtain ⟨wv, rfl⟩ : ∃ x, x = wr := ⟨_, rfl⟩
        obtain ⟨t, ht, rfl, rfl, hh, hB⟩ := hrel
        obtain ⟨us2, ow, h2⟩ := hh
        rw [HHL.out] at ow
        obtain ⟨ph, ch, rfl⟩ := own_shapeL ow
        have HOW := Lib.hid ow
        have HUS := Lib.hid h2
        have HB := Lib.hid hB
        clear ow h2 hB
        obtain ⟨was, hwas⟩ : ∃ x, readyT tab (t : Int) = x := ⟨_, rfl⟩
        have HWAS := Lib.hid hwas
        rw [hwas]
        clear hwas
        by_cases hlt : t < N
        · by_cases h40 : t < 40
          · obtain ⟨p1, c1, d1, hc1, b1⟩ := HBCO.out t hlt
            obtain ⟨p2, c2', d2, hc2, b2⟩ := HBCP.out t hlt
            have hq : long ≤ c2' := by omega
            have hq' : (long : Int) ≤ (c2' : Int) := by omega
            have hnl : ¬ (long2 : Int) < (long : Int) := by omega
            have hnl' : ¬ long2 < long := by omega
            have HD := Lib.hid (show Below wo.heap.size wo wv.drew from below_more HB.out (balD wv 1) HB.out.size)
            have HB1' := Lib.hid b1
            have HSB := Lib.hid (fun W (h : Below wo.heap.size wo W) => sameBytes_any W (.slice p2 long c2') (.slice p1 long c1) (LL.getD t []) (by
              have := (b2.below (below_more HWO.out h HWO.out.size)).takeB (m := long) (by rw [HL2W.out t hlt]; omega)
              rw [HTK.out t hlt] at this
              exact this) (b1.below (below_more HWO.out h HWO.out.size)) (by rw [HLLW.out t hlt]; omega))
            clear b1 b2
            go_wp2_with fail
            refine s_start 29 (fun W => Below wo.heap.size wo W) (by as_aux_lemma => kernel_rfl) (by as_aux_lemma => kernel_rfl) HD.out ?_
            refine s_take 0 (by as_aux_lemma => kernel_rfl) (by as_aux_lemma => kernel_rfl) (by as_aux_lemma => kernel_rfl) (by as_aux_lemma => kernel_rfl) HD.out (fun oi ho => ?_)
            simp only [List.getElem?_toArray, List.getElem?_cons_succ, List.getElem?_cons_zero, Option.some.injEq] at ho
            subst ho
            refine ⟨?_, Or.inl ⟨by rfl, fun w _ => ?_⟩, ?_⟩
            rotate_left
            · (go_simp <;> with_reducible rfl)
            try simp only [Act.put, List.setIfInBounds_toArray, List.set_cons_zero, List.set_cons_succ]
            refine s_take 1 (by as_aux_lemma => kernel_rfl) (by as_aux_lemma => kernel_rfl) (by as_aux_lemma => kernel_rfl) (by as_aux_lemma => kernel_rfl) HD.out (fun oi ho => ?_)
            simp only [List.getElem?_toArray, List.getElem?_cons_succ, List.getElem?_cons_zero, Option.some.injEq] at ho
            subst ho
            refine ⟨?_, Or.inl ⟨by rfl, fun w _ => ?_⟩, ?_⟩
            rotate_left
            · (go_simp <;> with_reducible rfl)
            try simp only [Act.put, List.setIfInBounds_toArray, List.set_cons_zero, List.set_cons_succ]
            refine s_take 2 (by as_aux_lemma => kernel_rfl) (by as_aux_lemma => kernel_rfl) (by as_aux_lemma => kernel_rfl) (by as_aux_lemma => kernel_rfl) HD.out (fun oi ho => ?_)
            simp only [List.getElem?_toArray, List.getElem?_cons_succ, List.getElem?_cons_zero, Option.some.injEq] at ho
            subst ho
            refine ⟨?_, Or.inl ⟨by rfl, fun w _ => ?_⟩, ?_⟩
            rotate_left
            · (go_simp <;> with_reducible rfl)
            try simp only [Act.put, List.setIfInBounds_toArray, List.set_cons_zero, List.set_cons_succ]
            refine s_take 3 (by as_aux_lemma => kernel_rfl) (by as_aux_lemma => kernel_rfl) (by as_aux_lemma => kernel_rfl) (by as_aux_lemma => kernel_rfl) HD.out (fun oi ho => ?_)
            simp only [List.getElem?_toArray, List.getElem?_cons_succ, List.getElem?_cons_zero, Option.some.injEq] at ho
            subst ho
            refine ⟨.slice p2 long2 c2', Or.inl ⟨by rfl, fun w' hS' => ?_⟩, ?_⟩
            · have z := (hS'.cell (p := ⟨gb2, t, none⟩) (blt d2)).trans d2
              clear d1 d2
              (go_simp <;> with_reducible rfl)
            try simp only [Act.put, List.setIfInBounds_toArray, List.set_cons_zero, List.set_cons_succ]
            refine s_take 4 (by as_aux_lemma => kernel_rfl) (by as_aux_lemma => kernel_rfl) (by as_aux_lemma => kernel_rfl) (by as_aux_lemma => kernel_rfl) HD.out (fun oi ho => ?_)
            simp only [List.getElem?_toArray, List.getElem?_cons_succ, List.getElem?_cons_zero, Option.some.injEq] at ho
            subst ho
            refine ⟨?_, Or.inl ⟨by rfl, fun w _ => ?_⟩, ?_⟩
            rotate_left
            · (go_simp <;> with_reducible rfl)
            try simp only [Act.put, List.setIfInBounds_toArray, List.set_cons_zero, List.set_cons_succ]
            refine s_take 5 (by as_aux_lemma => kernel_rfl) (by as_aux_lemma => kernel_rfl) (by as_aux_lemma => kernel_rfl) (by as_aux_lemma => kernel_rfl) HD.out (fun oi ho => ?_)
            simp only [List.getElem?_toArray, List.getElem?_cons_succ, List.getElem?_cons_zero, Option.some.injEq] at ho
            subst ho
            refine ⟨?_, Or.inl ⟨by rfl, fun w _ => ?_⟩, ?_⟩
            rotate_left
            · (go_simp <;> with_reducible rfl)
            try simp only [Act.put, List.setIfInBounds_toArray, List.set_cons_zero, List.set_cons_succ]
            refine s_take 6 (by as_aux_lemma => kernel_rfl) (by as_aux_lemma => kernel_rfl) (by as_aux_lemma => kernel_rfl) (by as_aux_lemma => kernel_rfl) HD.out (fun oi ho => ?_)
            simp only [List.getElem?_toArray, List.getElem?_cons_succ, List.getElem?_cons_zero, Option.some.injEq] at ho
            subst ho
            refine ⟨?_, Or.inl ⟨by rfl, fun w _ => ?_⟩, ?_⟩
            rotate_left
            · (go_simp <;> with_reducible rfl)
            try simp only [Act.put, List.setIfInBounds_toArray, List.set_cons_zero, List.set_cons_succ]
            refine s_take 7 (by as_aux_lemma => kernel_rfl) (by as_aux_lemma => kernel_rfl) (by as_aux_lemma => kernel_rfl) (by as_aux_lemma => kernel_rfl) HD.out (fun oi ho => ?_)
            simp only [List.getElem?_toArray, List.getElem?_cons_succ, List.getElem?_cons_zero, Option.some.injEq] at ho
            subst ho
            refine ⟨?_, Or.inl ⟨by rfl, fun w _ => ?_⟩, ?_⟩
            rotate_left
            · (go_simp <;> with_reducible rfl)
            try simp only [Act.put, List.setIfInBounds_toArray, List.set_cons_zero, List.set_cons_succ]
            refine s_take 8 (by as_aux_lemma => kernel_rfl) (by as_aux_lemma => kernel_rfl) (by as_aux_lemma => kernel_rfl) (by as_aux_lemma => kernel_rfl) HD.out (fun oi ho => ?_)
            simp only [List.getElem?_toArray, List.getElem?_cons_succ, List.getElem?_cons_zero, Option.some.injEq] at ho
            subst ho
            refine ⟨.slice p1 long c1, Or.inl ⟨by rfl, fun w' hS' => ?_⟩, ?_⟩
            · have z := (hS'.cell (p := ⟨gb, t, none⟩) (blt d1)).trans d1
              clear d1 d2
              (go_simp <;> with_reducible rfl)
            try simp only [Act.put, List.setIfInBounds_toArray, List.set_cons_zero, List.set_cons_succ]
            refine s_take 9 (by as_aux_lemma => kernel_rfl) (by as_aux_lemma => kernel_rfl) (by as_aux_lemma => kernel_rfl) (by as_aux_lemma => kernel_rfl) HD.out (fun oi ho => ?_)
            simp only [List.getElem?_toArray, List.getElem?_cons_succ, List.getElem?_cons_zero, Option.some.injEq] at ho
            subst ho
            refine ⟨?_, Or.inl ⟨by rfl, fun w _ => ?_⟩, ?_⟩
            rotate_left
            · (go_simp <;> with_reducible rfl)
            try simp only [Act.put, List.setIfInBounds_toArray, List.set_cons_zero, List.set_cons_succ]
            refine s_take 10 (by as_aux_lemma => kernel_rfl) (by as_aux_lemma => kernel_rfl) (by as_aux_lemma => kernel_rfl) (by as_aux_lemma => kernel_rfl) HD.out (fun oi ho => ?_)
            simp only [List.getElem?_toArray, List.getElem?_cons_succ, List.getElem?_cons_zero, Option.some.injEq] at ho
            subst ho
            refine ⟨.bool false, Or.inl ⟨by rfl, fun w' hS' => ?_⟩, ?_⟩
            · clear d1 d2
              (go_simp <;> first | with_reducible rfl | simp [hnl'])
            try simp only [Act.put, List.setIfInBounds_toArray, List.set_cons_zero, List.set_cons_succ]
            refine s_take 11 (by as_aux_lemma => kernel_rfl) (by as_aux_lemma => kernel_rfl) (by as_aux_lemma => kernel_rfl) (by as_aux_lemma => kernel_rfl) HD.out (fun oi ho => ?_)
            simp only [List.getElem?_toArray, List.getElem?_cons_succ, List.getElem?_cons_zero, Option.some.injEq] at ho
            subst ho
            refine ⟨?_, Or.inl ⟨by rfl, fun w _ => ?_⟩, ?_⟩
            rotate_left
            · (go_simp <;> with_reducible rfl)
            try simp only [Act.put, List.setIfInBounds_toArray, List.set_cons_zero, List.set_cons_succ]
            refine s_take 12 (by as_aux_lemma => kernel_rfl) (by as_aux_lemma => kernel_rfl) (by as_aux_lemma => kernel_rfl) (by as_aux_lemma => kernel_rfl) HD.out (fun oi ho => ?_)
            simp only [List.getElem?_toArray, List.getElem?_cons_succ, List.getElem?_cons_zero, Option.some.injEq] at ho
            subst ho
            refine ⟨?_, Or.inl ⟨by rfl, fun w _ => ?_⟩, ?_⟩
            rotate_left
            · (go_simp <;> with_reducible rfl)
            try simp only [Act.put, List.setIfInBounds_toArray, List.set_cons_zero, List.set_cons_succ]
            refine s_take 13 (by as_aux_lemma => kernel_rfl) (by as_aux_lemma => kernel_rfl) (by as_aux_lemma => kernel_rfl) (by as_aux_lemma => kernel_rfl) HD.out (fun oi ho => ?_)
            simp only [List.getElem?_toArray, List.getElem?_cons_succ, List.getElem?_cons_zero, Option.some.injEq] at ho
            subst ho
            refine ⟨?_, Or.inl ⟨by rfl, fun w _ => ?_⟩, ?_⟩
            rotate_left
            · (go_simp <;> with_reducible rfl)
            try simp only [Act.put, List.setIfInBounds_toArray, List.set_cons_zero, List.set_cons_succ]
            refine s_take 14 (by as_aux_lemma => kernel_rfl) (by as_aux_lemma => kernel_rfl) (by as_aux_lemma => kernel_rfl) (by as_aux_lemma => kernel_rfl) HD.out (fun oi ho => ?_)
            simp only [List.getElem?_toArray, List.getElem?_cons_succ, List.getElem?_cons_zero, Option.some.injEq] at ho
            subst ho
            refine ⟨?_, Or.inl ⟨by rfl, fun w _ => ?_⟩, ?_⟩
            rotate_left
            · (go_simp <;> with_reducible rfl)
            try simp only [Act.put, List.setIfInBounds_toArray, List.set_cons_zero, List.set_cons_succ]
            refine s_take 15 (by as_aux_lemma => kernel_rfl) (by as_aux_lemma => kernel_rfl) (by as_aux_lemma => kernel_rfl) (by as_aux_lemma => kernel_rfl) HD.out (fun oi ho => ?_)
            simp only [List.getElem?_toArray, List.getElem?_cons_succ, List.getElem?_cons_zero, Option.some.injEq] at ho
            subst ho
            refine ⟨.slice p2 long2 c2', Or.inl ⟨by rfl, fun w' hS' => ?_⟩, ?_⟩
            · have z := (hS'.cell (p := ⟨gb2, t, none⟩) (blt d2)).trans d2
              clear d1 d2
              (go_simp <;> with_reducible rfl)
            try simp only [Act.put, List.setIfInBounds_toArray, List.set_cons_zero, List.set_cons_succ]
            refine s_take 16 (by as_aux_lemma => kernel_rfl) (by as_aux_lemma => kernel_rfl) (by as_aux_lemma => kernel_rfl) (by as_aux_lemma => kernel_rfl) HD.out (fun oi ho => ?_)
            simp only [List.getElem?_toArray, List.getElem?_cons_succ, List.getElem?_cons_zero, Option.some.injEq] at ho
            subst ho
            refine ⟨?_, Or.inl ⟨by rfl, fun w _ => ?_⟩, ?_⟩
            rotate_left
            · (go_simp <;> with_reducible rfl)
            try simp only [Act.put, List.setIfInBounds_toArray, List.set_cons_zero, List.set_cons_succ]
            refine s_take 17 (by as_aux_lemma => kernel_rfl) (by as_aux_lemma => kernel_rfl) (by as_aux_lemma => kernel_rfl) (by as_aux_lemma => kernel_rfl) HD.out (fun oi ho => ?_)
            simp only [List.getElem?_toArray, List.getElem?_cons_succ, List.getElem?_cons_zero, Option.some.injEq] at ho
            subst ho
            refine ⟨?_, Or.inl ⟨by rfl, fun w _ => ?_⟩, ?_⟩
            rotate_left
            · (go_simp <;> with_reducible rfl)
            try simp only [Act.put, List.setIfInBounds_toArray, List.set_cons_zero, List.set_cons_succ]
            refine s_take 18 (by as_aux_lemma => kernel_rfl) (by as_aux_lemma => kernel_rfl) (by as_aux_lemma => kernel_rfl) (by as_aux_lemma => kernel_rfl) HD.out (fun oi ho => ?_)
            simp only [List.getElem?_toArray, List.getElem?_cons_succ, List.getElem?_cons_zero, Option.some.injEq] at ho
            subst ho
            refine ⟨?_, Or.inl ⟨by rfl, fun w _ => ?_⟩, ?_⟩
            rotate_left
            · (go_simp <;> with_reducible rfl)
            try simp only [Act.put, List.setIfInBounds_toArray, List.set_cons_zero, List.set_cons_succ]
            refine s_take 19 (by as_aux_lemma => kernel_rfl) (by as_aux_lemma => kernel_rfl) (by as_aux_lemma => kernel_rfl) (by as_aux_lemma => kernel_rfl) HD.out (fun oi ho => ?_)
            simp only [List.getElem?_toArray, List.getElem?_cons_succ, List.getElem?_cons_zero, Option.some.injEq] at ho
            subst ho
            refine ⟨.slice p1 long c1, Or.inl ⟨by rfl, fun w' hS' => ?_⟩, ?_⟩
            · have z := (hS'.cell (p := ⟨gb, t, none⟩) (blt d1)).trans d1
              clear d1 d2
              (go_simp <;> with_reducible rfl)
            try simp only [Act.put, List.setIfInBounds_toArray, List.set_cons_zero, List.set_cons_succ]
            refine s_take 20 (by as_aux_lemma => kernel_rfl) (by as_aux_lemma => kernel_rfl) (by as_aux_lemma => kernel_rfl) (by as_aux_lemma => kernel_rfl) HD.out (fun oi ho => ?_)
            simp only [List.getElem?_toArray, List.getElem?_cons_succ, List.getElem?_cons_zero, Option.some.injEq] at ho
            subst ho
            refine ⟨?_, Or.inl ⟨by rfl, fun w _ => ?_⟩, ?_⟩
            rotate_left
            · (go_simp <;> with_reducible rfl)
            try simp only [Act.put, List.setIfInBounds_toArray, List.set_cons_zero, List.set_cons_succ]
            refine s_take 21 (by as_aux_lemma => kernel_rfl) (by as_aux_lemma => kernel_rfl) (by as_aux_lemma => kernel_rfl) (by as_aux_lemma => kernel_rfl) HD.out (fun oi ho => ?_)
            simp only [List.getElem?_toArray, List.getElem?_cons_succ, List.getElem?_cons_zero, Option.some.injEq] at ho
            subst ho
            refine ⟨.slice p2 long c2', Or.inl ⟨by rfl, fun w' hS' => ?_⟩, ?_⟩
            · clear d1 d2
              cases p2 <;> (go_simp <;> with_reducible rfl)
            try simp only [Act.put, List.setIfInBounds_toArray, List.set_cons_zero, List.set_cons_succ]
            refine s_take 22 (by as_aux_lemma => kernel_rfl) (by as_aux_lemma => kernel_rfl) (by as_aux_lemma => kernel_rfl) (by as_aux_lemma => kernel_rfl) HD.out (fun oi ho => ?_)
            simp only [List.getElem?_toArray, List.getElem?_cons_succ, List.getElem?_cons_zero, Option.some.injEq] at ho
            subst ho
            refine ⟨?_, Or.inl ⟨by rfl, fun w _ => ?_⟩, ?_⟩
            rotate_left
            · (go_simp <;> with_reducible rfl)
            try simp only [Act.put, List.setIfInBounds_toArray, List.set_cons_zero, List.set_cons_succ]
            refine s_take 23 (by as_aux_lemma => kernel_rfl) (by as_aux_lemma => kernel_rfl) (by as_aux_lemma => kernel_rfl) (by as_aux_lemma => kernel_rfl) HD.out (fun oi ho => ?_)
            simp only [List.getElem?_toArray, List.getElem?_cons_succ, List.getElem?_cons_zero, Option.some.injEq] at ho
            subst ho
            refine ⟨?_, Or.inl ⟨by rfl, fun w _ => ?_⟩, ?_⟩
            rotate_left
            · (go_simp <;> with_reducible rfl)
            try simp only [Act.put, List.setIfInBounds_toArray, List.set_cons_zero, List.set_cons_succ]
            refine s_take 24 (by as_aux_lemma => kernel_rfl) (by as_aux_lemma => kernel_rfl) (by as_aux_lemma => kernel_rfl) (by as_aux_lemma => kernel_rfl) HD.out (fun oi ho => ?_)
            simp only [List.getElem?_toArray, List.getElem?_cons_succ, List.getElem?_cons_zero, Option.some.injEq] at ho
            subst ho
            refine ⟨?_, Or.inl ⟨by rfl, fun w _ => ?_⟩, ?_⟩
            rotate_left
            · (go_simp <;> with_reducible rfl)
            try simp only [Act.put, List.setIfInBounds_toArray, List.set_cons_zero, List.set_cons_succ]
            refine s_take 25 (by as_aux_lemma => kernel_rfl) (by as_aux_lemma => kernel_rfl) (by as_aux_lemma => kernel_rfl) (by as_aux_lemma => kernel_rfl) HD.out (fun oi ho => ?_)
            simp only [List.getElem?_toArray, List.getElem?_cons_succ, List.getElem?_cons_zero, Option.some.injEq] at ho
            subst ho
            refine ⟨.slice p1 long c1, Or.inl ⟨by rfl, fun w' hS' => ?_⟩, ?_⟩
            · have z := (hS'.cell (p := ⟨gb, t, none⟩) (blt d1)).trans d1
              clear d1 d2
              (go_simp <;> with_reducible rfl)
            try simp only [Act.put, List.setIfInBounds_toArray, List.set_cons_zero, List.set_cons_succ]
            refine s_all (rs := [26]) (by as_aux_lemma => kernel_rfl) (by simp) ?_
            refine s_step 26 (by as_aux_lemma => kernel_rfl) (fun o ho K hK => ?_) AllReadyH.nil
            simp only [List.getElem?_toArray, List.getElem?_cons_succ, List.getElem?_cons_zero, Option.some.injEq] at ho
            subst ho
            go_simp
            refine (HSB.out _ HD.out).mono ?_
            rintro e w9 ⟨rfl, q9, rfl⟩
            have HB9 := Lib.hid (show Below wo.heap.size wo (wv.drewN (1 + q9)) from below_more HB.out (balD wv (1 + q9)) HB.out.size)
            go_wp2_with fail
            refine hK.out _ _ HB9.out ?_
            clear hK K
            try simp only [Act.put, List.setIfInBounds_toArray, List.set_cons_zero, List.set_cons_succ]
            refine s_take 27 (by as_aux_lemma => kernel_rfl) (by as_aux_lemma => kernel_rfl) (by as_aux_lemma => kernel_rfl) (by as_aux_lemma => kernel_rfl) HB9.out (fun oi ho => ?_)
            simp only [List.getElem?_toArray, List.getElem?_cons_succ, List.getElem?_cons_zero, Option.some.injEq] at ho
            subst ho
            refine ⟨?_, Or.inl ⟨by rfl, fun w _ => ?_⟩, ?_⟩
            rotate_left
            · (go_simp <;> with_reducible rfl)
            try simp only [Act.put, List.setIfInBounds_toArray, List.set_cons_zero, List.set_cons_succ]
            refine s_take 28 (by as_aux_lemma => kernel_rfl) (by as_aux_lemma => kernel_rfl) (by as_aux_lemma => kernel_rfl) (by as_aux_lemma => kernel_rfl) HB9.out (fun oi ho => ?_)
            simp only [List.getElem?_toArray, List.getElem?_cons_succ, List.getElem?_cons_zero, Option.some.injEq] at ho
            subst ho
            refine ⟨?_, Or.inl ⟨by rfl, fun w _ => ?_⟩, ?_⟩
            rotate_left
            · (go_simp <;> with_reducible rfl)
            try simp only [Act.put, List.setIfInBounds_toArray, List.set_cons_zero, List.set_cons_succ]
            refine s_done (by as_aux_lemma => kernel_rfl) ?_
            skip
            have HOW9 := Lib.hid (show (wv.drewN (1 + q9)).ownsRow wo.heap.size 43 2 (.slice ph t ch) t us2 from ownsRow_keptS HOW.out (Kept.below (balD wv (1 + q9))) (fun _ _ h => h))
            have hd1 : (wv.drewN (1 + q9)).cell? ⟨gb, t, none⟩ = some (.slice p1 long c1) := (HB9.out.cell (p := ⟨gb, t, none⟩) (blt d1)).trans d1
            have hb9 := HB9.out.size
            generalize wv.drewN (1 + q9) = w9 at *
            clear d1 d2
            go_wp2_with (at_builtin; refine app_el 40 43 2 32 (.agg #[.int .i64 0, .slice none 0 0]) Try.underlying40 infoHd rfl (by decide) rfl _ _ rfl wo.heap.size t _ us2 rfl HOW9.out [.int .i64 (t : Int), .slice p1 long c1] rfl (by simp [Value.oneCell']) rfl (by omega) hb9 ?_; intro g1 c1' w10 oA kA sA gA)
            have HB10 := Lib.hid (HB9.out.trans (kA.toBelow hb9 (fun i hi => (HOW9.out.lt i hi).1)))
            have HH10 := Lib.hid (show HeldL w7 w10 wo.heap.size (.slice (some ⟨g1, 0, none⟩) (t + 1) c1') (hsOf LL (List.range (t + 1))) from by
              rw [← HSN.out]
              exact HeldL.snoc (HHL.out t) (by have := HOW9.out.1; omega) HUS.out (HLLW.out t hlt) hc1 HB1'.out oA)
            have B710 := Lib.hid (below_more HWO.out HB10.out HWO.out.size)
            have HHA := Lib.hid (HH10.out.toAt B710.out)
            have HHC := Lib.hid HH10.out.cap
            have HTT := Lib.hid (HTA.out.below HB10.out)
            clear oA kA sA gA
            refine (gather_ok w10 N _ _ tab (hsOf LL (List.range (t + 1))) HTT.out HHA.out (by rw [HHL.out]; omega) ?hcap HTAB.out (HHE.out t hlt)).mono ?_
            case hcap => exact HHC.out
            rw [HHL.out]
            rintro e w11 ⟨va, rfl, hra, hB11⟩
            obtain ⟨pz, cz, hz⟩ := hra.rows.shape
            rw [layersL_len] at hz
            subst hz
            have HB11 := Lib.hid (below_more HB10.out hB11 HB10.out.size)
            have HH11 := Lib.hid (HH10.out.kept (Kept.below hB11) (fun _ _ h => h))
            have hmo := HMO.out t
            rw [HWAS.out] at hmo
            obtain ⟨now, hnow⟩ : ∃ x, readyT tab ((t + 1 : Nat) : Int) = x := ⟨_, rfl⟩
            have HNOW := Lib.hid hnow
            rw [hnow] at hmo ⊢
            have hnn : ¬ (now : Int) < (was : Int) := by omega
            clear hra hB11 hnow
            go_wp2
            go_roundw
            case rel => exact ⟨t + 1, by omega, by go_num, by rw [HNOW.out], HH11.out, HB11.out⟩
            case measure => simp [intOf]; omega
          · have h40' : ¬ (t : Int) < 40 := by omega
            have HBF := Lib.hid (below_more BA7.out (below_more HWO.out HB.out HWO.out.size) BA7.out.size)
            go_wp2
            go_ret
            exact ⟨rfl, HBF.out⟩
        · have HBF := Lib.hid (below_more BA7.out (below_more HWO.out HB.out HWO.out.size) BA7.out.size)
          go_wp2
          go_ret
          exact ⟨rfl, HBF.out⟩
end Go.Proofs.Ytanjchpkekehgaa
