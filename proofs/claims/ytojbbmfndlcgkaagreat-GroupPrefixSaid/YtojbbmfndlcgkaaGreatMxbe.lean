/-
  Layer 10, walks: Bodies.
-/
import Derived.Test.YtojbbmfndlcgkaaGreatMxbd
namespace Go.Proofs.YtojbbmfndlcgkaaGreat
open Go.RowKit Go.Maps
set_option linter.unusedVariables false
set_option linter.unusedSimpArgs false
set_option maxRecDepth 100000
set_option maxHeartbeats 4000000

def bodE (n : Int) (ls : List (List B)) (ks : List Int) : Int := if ls.length = ks.length ∧ TableOk n (tabL ls ks) then 0 else 2
theorem tabL_snoc {ls : List (List B)} {ks : List Int} {j : Nat} (h : j < ks.length) : (tabL ls ks).take (j + 1) = (tabL ls ks).take j ++ [(ks.getD j 0, ((ls.getD j []).length : Int))] := by
  rw [List.take_add_one, List.getElem?_eq_getElem (by rw [tabL_len]; exact h)]
  congr 1
  have := tabL_get (ls := ls) h
  rw [List.getD_eq_getElem?_getD, List.getElem?_eq_getElem (by rw [tabL_len]; exact h)] at this
  simpa using this

theorem bodies_any (w : World) (n : Int) (vl vk : Value) (ls : List (List B)) (ks : List Int) (hl : RowsAt w vl ls) (hk : IntsAt w vk ks) (hks : ks.length ≤ 1000000) (hlw : ∀ i, i < ls.length → (ls.getD i []).length ≤ 1000000000) :
    Calls Tryz.prog 6 #[.int .i64 n, vl, vk] w fun e w' => ∃ v, e = .returned (.tuple #[v, .int .i64 (bodE n ls ks)]) ∧ (bodE n ls ks = 0 → RowsLone w' w.heap.size v (bodiesL n.toNat ls ks ks.length)) ∧ (bodE n ls ks ≠ 0 → v = .slice none 0 0) ∧ Below w.heap.size w w' := by
  obtain ⟨pl, cl, rfl, hlh⟩ := hl
  obtain ⟨pk, ck, rfl, hkc, hkh⟩ := hk
  by_cases hlen : ls.length = ks.length
  · have HLH := Lib.hid hlh
    have HKH := Lib.hid hkh
    have HLW := Lib.hid hlw
    have HE := Lib.hid (show bodE n ls ks = if TableOk n (tabL ls ks) then 0 else 2 from by unfold bodE; simp [hlen])
    have HTS := Lib.hid (fun (j : Nat) (h : j < ks.length) => tabL_snoc (ls := ls) h)
    have HTL := Lib.hid (tabL_len ls ks)
    have HTF := Lib.hid (show (tabL ls ks).take ks.length = tabL ls ks from List.take_of_length_le (by rw [tabL_len]; exact Nat.le_refl _))
    have HTG := Lib.hid (fun (j : Nat) (h : j < ks.length) => tabL_get (ls := ls) h)
    rw [hlen] at HLH HLW ⊢
    obtain ⟨M, hM⟩ : ∃ M, ks.length = M := ⟨_, rfl⟩
    rw [hM] at HLH HKH HLW HTS HTL HTF HTG hks hkc ⊢
    clear hlh hkh hlw hlen hM
    go_enter Tryz.func6, Tryz.ntmps6
    go_wp2
    go_loopw [8, 9, 10, 23] (fun v _ _ i wr => ∃ j : Nat, j ≤ M ∧ i = .int .i64 (j : Int) ∧ wr.ownsRow w.heap.size 46 2 v j (tc ((tabL ls ks).take j)) ∧ Below w.heap.size w wr) (fun _ _ _ i _ => M - (intOf i).toNat)
    case atStart => exact ⟨0, Nat.zero_le _, rfl, by rw [List.take_zero]; exact World.ownsRow_nil _ _ _ _, Below.refl _ _⟩
    case round =>
      obtain ⟨wo, rfl⟩ : ∃ wo, wo = wr := ⟨_, rfl⟩
      obtain ⟨j, hj, rfl, ho, hB⟩ := hrel
      have HO := Lib.hid ho
      have HB := Lib.hid hB
      have hsr := hB.size
      by_cases hlt : j < M
      · obtain ⟨g, off, rfl, hc⟩ := HKH.out (by omega)
        obtain ⟨gl, ol, rfl, hcl⟩ := HLH.out (by omega)
        have d0 := hc j hlt
        have d0 := (hB.cell (p := ⟨g, off + j, none⟩) (blt d0)).trans d0
        obtain ⟨u, d1, hub⟩ := hcl j hlt
        have d1 := (hB.cell (p := ⟨gl, ol + j, none⟩) (blt d1)).trans d1
        obtain ⟨pu, cu, rfl⟩ := hub.shape
        have hsn := HTS.out j hlt
        obtain ⟨kk, hkk⟩ : ∃ x, ks.getD j 0 = x := ⟨_, rfl⟩
        obtain ⟨ll, hll⟩ : ∃ x, (ls.getD j []).length = x := ⟨_, rfl⟩
        rw [hkk] at d0 hsn
        rw [hll] at d1 hsn
        have HSN := Lib.hid (show tc ((tabL ls ks).take j) ++ [.int .i64 kk, .int .i64 (ll : Int)] = tc ((tabL ls ks).take (j + 1)) by rw [hsn, tc_app]; rfl)
        clear hc hcl hub hkk hll hsn ho hB
        go_wp2_with (at_builtin; refine app_el 29 46 2 16 _ Tryz.underlying29 infoT rfl (by decide) rfl _ _ rfl w.heap.size j _ _ rfl HO.out [.int .i64 kk, .int .i64 (ll : Int)] rfl (by simp [Value.oneCell']) rfl (by omega) hsr ?_; intro g' c' w6 hR6 hk6 hs6 hg6)
        go_roundw
        case rel => exact ⟨j + 1, by omega, by go_num, by rw [← HSN.out]; exact hR6, HB.out.trans (hk6.toBelow hsr (fun i hi => (HO.out.lt i hi).1))⟩
        case measure => simp [intOf]; omega
      · obtain rfl : j = M := by omega
        have hoT := ho
        rw [HTF.out] at hoT
        have HTA := Lib.hid (TableAt.of_owns (t := tabL ls ks) (by rw [HTL.out]; exact hoT))
        have HR := Lib.hid (tright_any wo n _ _ HTA.out)
        clear ho hoT hB
        go_wp2_with fail
        refine HR.out.mono ?_
        rintro e w2 ⟨rfl, hB2⟩
        have HB2 := Lib.hid (below_more HB.out hB2 HB.out.size)
        clear hB2
        by_cases hd : TableOk n (tabL ls ks)
        · have HE2 := Lib.hid (show bodE n ls ks = 0 by rw [HE.out, if_pos hd])
          rw [decide_eq_true hd]
          obtain ⟨N, rfl⟩ : ∃ N : Nat, n = (N : Int) := ⟨n.toNat, by have := hd.1; omega⟩
          have hN1 : 1 ≤ N := by have := hd.1; omega
          have hN2 : N ≤ 255 := by have := hd.2.1; omega
          have HD := Lib.hid hd
          have hj8 : j ≤ 8 := by have := hd.2.2.2.1; rw [HTL.out] at this; exact this
          have hmk := run_make_one (w := w2) 22 39 (.slice none 0 0) 24 Tryz.underlying22 infoR rfl (by omega) N (by omega)
          have hs2 := HB2.out.size
          have HB3 := Lib.hid (show Below w.heap.size w (w2.alloc (.cells (Array.replicate N (.slice none 0 0)) 39)) from HB2.out.alloc hs2 _)
          have HO3 := Lib.hid (show OutAt (w2.alloc (.cells (Array.replicate N (.slice none 0 0)) 39)) w.heap.size w2.heap.size N (fun _ => .slice none 0 0) (fun i => bodyL N ls ks i 0) from
            ⟨⟨_, heap_alloc_new w2 _, by simp, fun i hi => by simp [hi]⟩, fun i hi => Own.nil _ _, fun i hi b e => by simp [Value.ownBlock] at e, fun i j b hi hj e => by simp [Value.ownBlock] at e, hs2⟩)
          clear hd hs2
          go_wp2
          clear hmk
          obtain ⟨bo, hbo⟩ : ∃ x, w2.heap.size = x := ⟨_, rfl⟩
          rw [hbo] at HO3
          rw [hbo]
          clear hbo
          generalize w2.alloc (.cells (Array.replicate N (.slice none 0 0)) 39) = w3 at *
          go_loopw [12, 13, 14, 15, 47] (fun _ _ _ _ i wr => ∃ (m : Nat) (V : Nat → Value), m ≤ j ∧ i = .int .i64 (m : Int) ∧ OutAt wr w.heap.size bo N V (fun i => bodyL N ls ks i m) ∧ Below w.heap.size w wr) (fun _ _ _ _ i _ => j - (intOf i).toNat)
          case atStart => exact ⟨0, _, Nat.zero_le _, rfl, HO3.out, HB3.out⟩
          case round =>
            obtain ⟨w4, rfl⟩ : ∃ x, x = wr := ⟨_, rfl⟩
            obtain ⟨m, V, hm, rfl, hO, hB⟩ := hrel
            have HO4 := Lib.hid hO
            have HB4 := Lib.hid hB
            clear hO
            by_cases hlt : m < j
            · obtain ⟨g, off, rfl, hc⟩ := HKH.out (by omega)
              obtain ⟨gl, ol, rfl, hcl⟩ := HLH.out (by omega)
              have d0 := hc m hlt
              have d0 := (hB.cell (p := ⟨g, off + m, none⟩) (blt d0)).trans d0
              obtain ⟨u, d1, hub⟩ := hcl m hlt
              have d1 := (hB.cell (p := ⟨gl, ol + m, none⟩) (blt d1)).trans d1
              have hub4 := hub.below hB
              have hrow := HD.out.2.2.2.2 m (by rw [HTL.out]; exact hlt)
              have hge := (HD.out.2.2.2.2.ge m (by rw [HTL.out]; exact hlt)).1
              have hlow := atT_low HD.out.2.2.2.2 (i := m) (by rw [HTL.out]; omega)
              rw [HTG.out m hlt] at hrow hge
              obtain ⟨k, hkk⟩ : ∃ k : Nat, ks.getD m 0 = (k : Int) := ⟨(ks.getD m 0).toNat, by have : 1 ≤ ks.getD m 0 := hge; omega⟩
              obtain ⟨_, hr1, _, hr2⟩ := hrow
              have hr1 : ks.getD m 0 ≤ (N : Int) := hr1
              have hr2 : ((ls.getD m []).length : Int) ≤ 65535 := hr2
              have hge : 1 ≤ ks.getD m 0 := hge
              rw [hkk] at hr1 hge d0
              have hsy : encL N k (cutL (ls.getD m []) k (wdN (ls.getD m []).length k)) (wdN (ls.getD m []).length k) = symT N ((tabL ls ks).getD m (0, 0)) (ls.getD m []) := by rw [HTG.out m hlt, hkk]; rfl
              have hsw : ∀ i, i < N → ((symT N ((tabL ls ks).getD m (0, 0)) (ls.getD m [])).getD i []).length ≤ 65535 := fun i hi => by
                rw [symT_wide hi, HTG.out m hlt]
                have := wdN_le (long := (ls.getD m []).length) (k := k) (by omega)
                show wdN ((ls.getD m []).length : Int).toNat (ks.getD m 0).toNat ≤ 65535
                rw [hkk]
                show wdN (ls.getD m []).length k ≤ 65535
                omega
              have HBS := Lib.hid (fun (i : Nat) => show bodyL N ls ks i (m + 1) = bodyL N ls ks i m ++ (symT N ((tabL ls ks).getD m (0, 0)) (ls.getD m [])).getD i [] from rfl)
              have HBL := Lib.hid (fun (i : Nat) (hi : i < N) => show (bodyL N ls ks i m).length ≤ 1000000 from by
                rw [bodyL_length hi (by have := HTL.out; rw [tabL_len] at this; omega)]
                omega)
              have HSY := Lib.hid (symbols_any w4 N k u (ls.getD m []) hub4 (by omega) (by omega) hN2 (by omega))
              rw [hsy] at HSY
              obtain ⟨SY, hSY⟩ : ∃ x, symT N ((tabL ls ks).getD m (0, 0)) (ls.getD m []) = x := ⟨_, rfl⟩
              have HSL := Lib.hid (show SY.length = N by rw [← hSY]; exact symT_len _ _ _)
              rw [hSY] at HSY HBS hsw
              have HSW := Lib.hid hsw
              obtain ⟨pu, cu, rfl⟩ := hub.shape
              clear hc hcl hub hub4 hkk hsy hSY hsw hB hlow hr2
              go_wp2_with fail
              refine HSY.out.mono ?_
              rintro e w5 ⟨vs, rfl, hs, hB5⟩
              obtain ⟨ps, cs, rfl⟩ := hs.rows.shape
              have HS5 := Lib.hid hs
              have HO5 := Lib.hid (HO4.out.below hB5)
              have HFAR := Lib.hid (show ∀ i, i < N → ∀ b, (V i).ownBlock = some b → b < w4.heap.size ∨ w5.heap.size ≤ b from fun i hi b e => .inl ((HO4.out.rows i hi).blk b e).2)
              have HBO := Lib.hid (show bo < w4.heap.size from HO4.out.lt)
              have HB5 := Lib.hid (below_more HB4.out hB5 HB4.out.size)
              have HS45 := Lib.hid hB5.size
              have hsl := HSL.out
              rw [hsl] at HS5
              rw [hsl]
              clear hs hB5 hsl
              go_wp2
              go_loopw [14, 15, 60] (fun _ _ i wr => ∃ (r : Nat) (V' : Nat → Value), r ≤ N ∧ i = .int .i64 (r : Int) ∧ OutAt wr w.heap.size bo N V' (fun i => if i < r then bodyL N ls ks i (m + 1) else bodyL N ls ks i m) ∧ (∀ i, i < N → ∀ b, (V' i).ownBlock = some b → b < w4.heap.size ∨ w5.heap.size ≤ b) ∧ Kept (fun b => b < w4.heap.size ∨ w5.heap.size ≤ b) w5 wr ∧ Below w.heap.size w wr) (fun _ _ i _ => N - (intOf i).toNat)
              case atStart => exact ⟨0, V, Nat.zero_le _, rfl, HO5.out.congr (fun i hi => by rw [if_neg (by omega)]), HFAR.out, Kept.refl _ _, HB5.out⟩
              case round =>
                obtain ⟨w6, rfl⟩ : ∃ x, x = wr := ⟨_, rfl⟩
                obtain ⟨r, V', hr, rfl, hO, hF, hK, hB⟩ := hrel
                have HO6 := Lib.hid hO
                have HF6 := Lib.hid hF
                have HK6 := Lib.hid hK
                have HB6 := Lib.hid hB
                have hsr := hB.size
                by_cases hlr : r < N
                · have c1 := hO.cell hlr
                  have hown := hO.rows r hlr
                  simp only [Nat.lt_irrefl, if_false] at hown
                  have hs6 := (HS5.out.kept hK (fun k hk1 hk2 h => by omega)).rows
                  obtain ⟨ps', cs', es, hsh⟩ := hs6
                  rw [HSL.out] at es hsh
                  obtain ⟨e1, e2, e3⟩ := Value.slice.inj es
                  obtain ⟨gs, os, e4, hsc⟩ := hsh (by omega)
                  have e5 : ps = some ⟨gs, os, none⟩ := e1.trans e4
                  obtain ⟨us, c2, hbs⟩ := hsc r hlr
                  have hswr := HSW.out r hlr
                  have hbl := HBL.out r hlr
                  have HBS2 := Lib.hid (HBS.out r)
                  obtain ⟨rowS, hrowS⟩ : ∃ x, SY.getD r [] = x := ⟨_, rfl⟩
                  rw [hrowS] at hbs hswr HBS2
                  obtain ⟨pq, cq, rfl, hbq⟩ := hbs
                  obtain ⟨pv, cv, hv⟩ := hown.shape
                  obtain ⟨lr, hlr2⟩ : ∃ x, rowS.length = x := ⟨_, rfl⟩
                  obtain ⟨lb, hlb⟩ : ∃ x, (bodyL N ls ks r m).length = x := ⟨_, rfl⟩
                  have HLB := Lib.hid hlb
                  have HLR := Lib.hid hlr2
                  rw [hlr2] at c2 hbq hswr
                  rw [hlb] at hv hbl
                  have HBQ := Lib.hid hbq
                  have HOW := Lib.hid hown
                  have HV := Lib.hid hv
                  rw [hv] at c1 HOW
                  have HMIX := Lib.hid (show ∀ i, i < N → (if i = r then bodyL N ls ks r m ++ rowS else if i < r then bodyL N ls ks i (m + 1) else bodyL N ls ks i m) = if i < r + 1 then bodyL N ls ks i (m + 1) else bodyL N ls ks i m from fun i hi => by
                    by_cases q : i = r
                    · subst q
                      rw [if_pos rfl, if_pos (by omega), HBS2.out]
                    · rw [if_neg q]
                      by_cases q2 : i < r
                      · rw [if_pos q2, if_pos (by omega)]
                      · rw [if_neg q2, if_neg (by omega)])
                  have hbo6 := hO.lt
                  have HNB := Lib.hid (show ¬ (Value.slice pv lb cv).ownBlock = some bo from fun e => hO.ne r hlr bo (by rw [hv]; exact e) rfl)
                  obtain ⟨C, hC, _, _⟩ := hO.cells
                  have HC := Lib.hid hC
                  have HBO6 := Lib.hid hbo6
                  clear hC hbo6
                  subst e5
                  clear hown hbq hv hlr2 hlb hrowS hsh hsc es e1 e2 e3 e4 hO hF hK hB
                  go_wp2_with (at_builtin; refine app_own_many rfl _ _ rfl w.heap.size lb lr _ _ _ HLB.out HLR.out HOW.out pq cq HBQ.out rfl rfl (by omega) hsr ?_; intro p7 c7 w7 hR7 hk7 hg7; have f1 := (hk7.cell (p := ⟨bo, r, none⟩) HBO6.out HNB.out).trans c1; have f2 := fz_of ((hk7.block bo HBO6.out HNB.out).trans HC.out) r)
                  have HO7 := Lib.hid ((HO6.out.put (u' := .slice p7 (lb + lr) c7) hlr (by rw [HV.out]; exact hk7) hR7 (fun b e => by rw [HV.out]; exact hg7 b e)).congr HMIX.out)
                  have HF7 := Lib.hid (show ∀ i, i < N → ∀ b, ((fun j => if j = r then Value.slice p7 (lb + lr) c7 else V' j) i).ownBlock = some b → b < w4.heap.size ∨ w5.heap.size ≤ b from fun i hi b e => by
                    by_cases q : i = r
                    · subst q
                      simp only [if_pos] at e
                      rcases hg7 b e with x | x
                      · exact HF6.out i hi b (by rw [HV.out]; exact x)
                      · exact .inr (Nat.le_trans HK6.out.size x)
                    · simp only [if_neg q] at e
                      exact HF6.out i hi b e)
                  have HK7 := Lib.hid ((HK6.out.trans (hk7.mono (S' := fun b => b < w4.heap.size ∨ w5.heap.size ≤ b) (fun b _ e => HF6.out r hlr b (by rw [HV.out]; exact e))) (fun _ _ h => h)).trans ((Kept.set1 w7 bo r (.slice p7 (lb + lr) c7)).mono (S' := fun b => b < w4.heap.size ∨ w5.heap.size ≤ b) (fun b _ e => by subst e; exact .inl HBO.out)) (fun _ _ h => h))
                  have HB7 := Lib.hid ((HB6.out.trans (hk7.toBelow hsr (fun i hi => (HOW.out.blk i hi).1))).setCell (p := ⟨bo, r, none⟩) HO6.out.low (.slice p7 (lb + lr) c7))
                  clear hR7 hk7 hg7 f1 f2
                  go_roundw
                  case rel => exact ⟨r + 1, _, by omega, by go_num, HO7.out, HF7.out, HK7.out, HB7.out⟩
                  case measure => simp [intOf]; omega
                · obtain rfl : r = N := by omega
                  have HO7 := Lib.hid (HO6.out.congr (L' := fun i => bodyL r ls ks i (m + 1)) (fun i hi => by rw [if_pos hi]))
                  clear hO hF hK hB
                  go_wp2
                  go_roundw
                  case rel => exact ⟨m + 1, V', by omega, by go_num, HO7.out, HB6.out⟩
                  case measure => simp [intOf]; omega
            · obtain rfl : m = j := by omega
              have HLO := Lib.hid (HO4.out.lone (by omega))
              clear hB
              go_wp2
              go_ret2
              rw [HE2.out]
              exact ⟨_, rfl, fun _ => HLO.out, fun h => absurd rfl h, HB4.out⟩
        · have HE2 := Lib.hid (show bodE n ls ks = 2 by rw [HE.out, if_neg hd])
          rw [decide_eq_false hd]
          clear hd
          go_wp2
          go_ret2
          rw [HE2.out]
          exact ⟨_, rfl, fun h => absurd h (by omega), fun _ => rfl, HB2.out⟩
  · have HE := Lib.hid (show bodE n ls ks = 2 from by unfold bodE; rw [if_neg (fun h => hlen h.1)])
    have hne : ¬ (ls.length : Int) = (ks.length : Int) := by omega
    clear hlh hkh hlw
    obtain ⟨a, ha⟩ : ∃ a, ls.length = a := ⟨_, rfl⟩
    obtain ⟨b, hb⟩ : ∃ b, ks.length = b := ⟨_, rfl⟩
    rw [ha, hb] at hne
    rw [ha, hb]
    rw [HE.out]
    clear ha hb hlen
    go_enter Tryz.func6, Tryz.ntmps6
    go_wp2
    go_ret2
    exact ⟨_, rfl, fun h => absurd h (by omega), fun _ => rfl, Below.refl _ _⟩
end Go.Proofs.YtojbbmfndlcgkaaGreat
