/-
  RefO: Walks of the reference, layer 5 (code): Decode.
  KitF: Walks of the kit: LentInts.
-/
import Derived.Test.YtanjchpkekehgaaGreatMxbl
import Derived.Test.YtanjchpkekehgaaGreatMxba
namespace Go.Proofs.YtanjchpkekehgaaGreat

section -- RefO
open Go.RowKit Go.Maps
set_option linter.unusedVariables false
set_option maxRecDepth 100000
set_option maxHeartbeats 4000000

theorem hIdx_len (hs : List (Int × List B)) : (hIdx hs).length = hs.length := by simp [hIdx]
theorem hRow_len (hs : List (Int × List B)) : (hRow hs).length = hs.length := by simp [hRow]
theorem hIdx_get {hs : List (Int × List B)} {i : Nat} (h : i < hs.length) : (hIdx hs).getD i 0 = (hs.getD i (0, [])).1 := by
  simp [hIdx, List.getD_eq_getElem?_getD, List.getElem?_eq_getElem h]
theorem hRow_get {hs : List (Int × List B)} {i : Nat} (h : i < hs.length) : (hRow hs).getD i [] = (hs.getD i (0, [])).2 := by
  simp [hRow, List.getD_eq_getElem?_getD, List.getElem?_eq_getElem h]
theorem getD_take {α : Type} {l : List α} {k i : Nat} {d : α} (h : i < k) : (l.take k).getD i d = l.getD i d := by
  rw [List.getD_eq_getElem?_getD, List.getD_eq_getElem?_getD, List.getElem?_take, if_pos h]
theorem mixL_take {ws : List B} {l : List (List B)} {k wide : Nat} (h : ws.length = k) : mixL ws (l.take k) wide = mixL ws l wide := by
  unfold mixL
  refine List.map_congr_left (fun j _ => sm_congr (fun i hi => ?_))
  rw [getD_take (by omega)]
theorem mov_dec {ys : List B} {l : List (List B)} {k wide : Nat} (hy : ys.length = k) : movL ys (l.take k) (ptsL k) k k wide = decL k ys l wide := by
  rw [decL_eq]
  unfold movL decP
  refine List.map_congr_left (fun r hr => ?_)
  rw [mov_row hy (ptsL_get (List.mem_range.1 hr)), mixL_take (by rw [wtsL_len]; exact hy)]
theorem one_int (x : Int) : ∀ u ∈ [Value.int .i64 x], u.oneCell' = true := by simp [Value.oneCell']

theorem rdecode_any (w : World) {b n k : Nat} (hc : RCoderAt w b n k) (hk : 1 ≤ k) (hkn : k ≤ n) (hn : n ≤ 255) (v : Value) (hs : List (Int × List B)) (wide : Nat) (hv : HeldAt w v hs) (hl : hs.length ≤ 1000000) (hw0 : (hs.getD 0 (0, [])).2.length = wide) (hwb : wide ≤ 1000000) :
    Calls Tryz.prog 44 #[.pointer (some ⟨b, 0, none⟩), v] w fun e w' => ∃ v, e = .returned (.tuple #[v, .int .i64 (decE n k hs)]) ∧ (decE n k hs = 0 → RowsAt w' v (decL k (idxB ((hIdx hs).take k)) (hRow hs) wide)) ∧ (decE n k hs ≠ 0 → v = .slice none 0 0) ∧ Below w.heap.size w w' := by
  have HC := Lib.hid hc
  have HW0 := Lib.hid hw0
  obtain ⟨r, hr⟩ : ∃ r, decE n k hs = r := ⟨_, rfl⟩
  rw [hr]
  have HR := Lib.hid hr
  obtain ⟨L, hL⟩ : ∃ L, hs.length = L := ⟨_, rfl⟩
  obtain ⟨p, cap, rfl, hcap, hh⟩ := hv
  rw [hL] at hh hcap hl ⊢
  have HL := Lib.hid hL
  have HHH := Lib.hid hh
  clear hc hh hw0 hr hL
  go_enter Tryz.func44, Tryz.ntmps44
  go_wp2
  go_loopw [6, 7] (fun vi i wr => ∃ m : Nat, m ≤ L ∧ i = .int .i64 (m : Int) ∧ wr.ownsRow w.heap.size 3 1 vi m ((hIdx (hs.take m)).map (Value.int .i64)) ∧ Below w.heap.size w wr) (fun _ i _ => L - (intOf i).toNat)
  case atStart => exact ⟨0, Nat.zero_le _, rfl, World.ownsRow_nil _ _ _ _, Below.refl _ _⟩
  case round =>
    obtain ⟨w1, rfl⟩ : ∃ w1, w1 = wr := ⟨_, rfl⟩
    obtain ⟨m, hm, rfl, ho, hB⟩ := hrel
    have HI := Lib.hid ho
    have HB := Lib.hid hB
    have hsr := hB.size
    clear ho
    by_cases hlt : m < L
    · obtain ⟨gh, oh, rfl, hhc⟩ := HHH.out (by omega)
      have x1 := (hhc m hlt).1
      have y1 := (hB.cell (p := ⟨gh, oh + m * 2, none⟩) (blt x1)).trans x1
      have HS1 := Lib.hid (hIdx_snoc (hs := hs) (m := m) (by rw [HL.out]; exact hlt))
      obtain ⟨ix, hix⟩ : ∃ ix, (hs.getD m (0, [])).1 = ix := ⟨_, rfl⟩
      rw [hix] at y1 HS1
      clear hhc x1 hix hB
      go_wp2_with (at_builtin; refine app_el 23 3 1 8 (.int .i64 0) Tryz.underlying23 infoI rfl (by decide) rfl _ _ rfl w.heap.size m u6 _ rfl HI.out [.int .i64 ix] rfl (one_int ix) rfl (by omega) hsr ?_; intro g' c' w6 hR6 hk6 hs6 hg6)
      go_roundw
      case rel =>
        refine ⟨m + 1, by omega, by go_num, by rw [← HS1.out, List.map_append]; exact hR6, HB.out.trans (hk6.toBelow hsr (fun i hi => (HI.out.lt i hi).1))⟩
      case measure => simp [intOf]; omega
    · obtain rfl : m = L := by omega
      have HTK := Lib.hid (show hs.take m = hs by rw [← HL.out, List.take_length])
      rw [HTK.out] at HI
      have HIA := Lib.hid (IntsAt.of_owns (w := w1) (base := w.heap.size) (v := u6) (xs := hIdx hs) (by rw [hIdx_len, HL.out]; exact HI.out))
      have HC1 := Lib.hid (HC.out.below hB)
      have HAS := Lib.hid (rasked_any w1 HC1.out _ (hIdx hs) HIA.out (by rw [hIdx_len, HL.out]; exact hl))
      obtain ⟨a, ha⟩ : ∃ a, askE n k (hIdx hs) = a := ⟨_, rfl⟩
      rw [ha] at HAS
      have HA := Lib.hid ha
      clear hB ha
      go_wp2_with fail
      refine HAS.out.mono ?_
      rintro e w2 ⟨rfl, q, rfl⟩
      have HB2 := Lib.hid (show Below w.heap.size w (w1.drewN q) from belowDr HB.out q)
      have HC2 := Lib.hid (show RCoderAt (w1.drewN q) b n k from HC1.out)
      have hcell : 0 < m → ∃ g off, p = some ⟨g, off, none⟩ ∧ ∀ i, i < m → (w1.drewN q).cell? ⟨g, off + i * 2, none⟩ = some (.int .i64 (hs.getD i (0, [])).1) ∧ ∃ u, (w1.drewN q).cell? ⟨g, off + i * 2 + 1, none⟩ = some u ∧ BytesAt (w1.drewN q) u (hs.getD i (0, [])).2 := by
        intro h0
        obtain ⟨g, off, e, hc⟩ := HHH.out h0
        refine ⟨g, off, e, fun i hi => ?_⟩
        obtain ⟨x, u, y, z⟩ := hc i hi
        exact ⟨(HB2.out.cell (p := ⟨g, off + i * 2, none⟩) (blt x)).trans x, u, (HB2.out.cell (p := ⟨g, off + i * 2 + 1, none⟩) (blt y)).trans y, z.below HB2.out⟩
      have HCL := Lib.hid hcell
      clear HHH hcell
      go_wp2
      generalize w1.drewN q = w2 at *
      go_loopw [8, 9] (fun e i wr => ∃ (j q : Nat) (x : Int), j ≤ m ∧ i = .int .i64 (j : Int) ∧ e = .int .i64 x ∧ ((∀ t, t < j → (hs.getD t (0, [])).2.length = wide) → x = a) ∧ (¬ (∀ t, t < j → (hs.getD t (0, [])).2.length = wide) → x = 2) ∧ wr = w2.drewN q) (fun _ i _ => m - (intOf i).toNat)
      case atStart => exact ⟨0, 0, a, Nat.zero_le _, rfl, rfl, fun _ => rfl, fun h => absurd (fun t ht => absurd ht (by omega)) h, rfl⟩
      case round =>
        obtain ⟨j, q2, x, hj, rfl, rfl, hx1, hx2, rfl⟩ := hrel
        have HX1 := Lib.hid hx1
        have HX2 := Lib.hid hx2
        clear hx1 hx2
        by_cases hlt2 : j < m
        · obtain ⟨g, off, rfl, hc⟩ := HCL.out (by omega)
          obtain ⟨_, u, y1, y2⟩ := hc j hlt2
          obtain ⟨_, u0, z1, z2⟩ := hc 0 (by omega)
          rw [Nat.zero_mul, Nat.add_zero] at z1
          obtain ⟨pu, cu, rfl⟩ := y2.shape
          obtain ⟨p0, c0, rfl⟩ := z2.shape
          rw [HW0.out] at z1
          obtain ⟨lj, hlj⟩ : ∃ lj, (hs.getD j (0, [])).2.length = lj := ⟨_, rfl⟩
          rw [hlj] at y1
          have HLJ := Lib.hid hlj
          clear hc y2 z2 hlj
          by_cases he : lj = wide
          · subst he
            go_wp2_with fail
            go_quiet (fail)
            go_wp2
            go_roundw
            case rel => exact ⟨j + 1, _, x, by omega, by go_num, rfl, fun h => HX1.out (fun t ht => h t (by omega)), fun h => HX2.out (fun h2 => h (fun t ht => by
              by_cases e : t = j
              · rw [e]; exact HLJ.out
              · exact h2 t (by omega))), by first | rfl | rw [World.drewN_drewN]⟩
            case measure => simp [intOf]; omega
          · have he1 : ¬ (lj : Int) = wide := by omega
            have he2 : (lj == wide) = false := by simpa using he
            have HE := Lib.hid he
            clear he
            go_wp2_with fail
            go_quiet (fail)
            go_wp2
            go_roundw
            case rel => exact ⟨j + 1, _, 2, by omega, by go_num, rfl, fun h => absurd (HLJ.out.symm.trans (h j (by omega))) HE.out, fun _ => rfl, by first | rfl | rw [World.drewN_drewN]⟩
            case measure => simp [intOf]; omega
        · obtain rfl : j = m := by omega
          have HXR := Lib.hid (show x = r by
            rw [← HR.out]
            unfold decE
            by_cases hev : ∀ t, t < j → (hs.getD t (0, [])).2.length = wide
            · rw [HX1.out hev, if_pos ((evenH_iff hs).2 (fun i hi => by rw [hev i (by rw [← HL.out]; exact hi), HW0.out])), HA.out]
            · rw [HX2.out hev, if_neg (fun h => hev (fun t ht => by rw [(evenH_iff hs).1 h t (by rw [HL.out]; exact ht), HW0.out]))])
          have HB3 := Lib.hid (show Below w.heap.size w (w2.drewN q2) from belowDr HB2.out q2)
          by_cases hx0 : x = 0
          rotate_left
          · have hx1 : (x == 0) = false := by simpa using hx0
            have HX0 := Lib.hid hx0
            clear hx0
            go_wp2
            go_ret2
            exact ⟨_, by rw [← HXR.out]; rfl, fun h => absurd (HXR.out.trans h) HX0.out, fun _ => rfl, HB3.out⟩
          · subst hx0
            have HEV := Lib.hid (show ∀ t, t < j → (hs.getD t (0, [])).2.length = wide by
              by_cases hev : ∀ t, t < j → (hs.getD t (0, [])).2.length = wide
              · exact hev
              · have := HX2.out hev; omega)
            have HO := Lib.hid (askE_zero (n := n) (k := k) (xs := hIdx hs) (by rw [HA.out, ← HX1.out HEV.out]))
            have hkl := HO.out.len
            rw [hIdx_len, HL.out] at hkl
            have HC3 := Lib.hid (show RCoderAt (w2.drewN q2) b n k from HC2.out)
            have HCL3 := Lib.hid (show 0 < j → ∃ g off, p = some ⟨g, off, none⟩ ∧ ∀ i, i < j → (w2.drewN q2).cell? ⟨g, off + i * 2, none⟩ = some (.int .i64 (hs.getD i (0, [])).1) ∧ ∃ u, (w2.drewN q2).cell? ⟨g, off + i * 2 + 1, none⟩ = some u ∧ BytesAt (w2.drewN q2) u (hs.getD i (0, [])).2 from HCL.out)
            have HSZ3 := Lib.hid (show (w2.drewN q2).heap.size = w2.heap.size from rfl)
            clear HCL
            go_wp2
            generalize w2.drewN q2 = w3 at *
            have d1 := HC3.out.c1
            have hbl := HC3.out.lt
            obtain ⟨g, off, rfl, hc⟩ := HCL3.out (by omega)
            have HCC := Lib.hid hc
            clear hc
            go_loopw [10, 11, 12] (fun vf vl i wr => ∃ m : Nat, m ≤ k ∧ i = .int .i64 (m : Int) ∧ Own wr w3.heap.size vf (idxB ((hIdx hs).take m)) ∧ RowsIn w3 wr vl ((hRow hs).take m) ∧ (∀ b, vf.ownBlock = some b → vl.ownBlock ≠ some b) ∧ Below w3.heap.size w3 wr) (fun _ _ i _ => k - (intOf i).toNat)
            case atStart => exact ⟨0, Nat.zero_le _, rfl, Own.nil _ _, ⟨[], World.ownsRow_nil _ _ _ _, fun i z h => by simp at h⟩, (fun b h => by cases h), Below.refl _ _⟩
            case round =>
              obtain ⟨m, hm2, rfl, ho, hri, hne, hB⟩ := hrel
              have hol : (idxB ((hIdx hs).take m)).length = m := by rw [idxB_len, List.length_take, hIdx_len, HL.out]; omega
              have hrl : ((hRow hs).take m).length = m := by rw [List.length_take, hRow_len, HL.out]; omega
              obtain ⟨pv, cv, rfl⟩ := ho.shape
              rw [hol] at ho hne ⊢
              obtain ⟨us, hu1, hu2⟩ := hri
              rw [hrl] at hu1
              have hul : us.length = m := by have := hu1.1; omega
              have HOL := Lib.hid hol
              have HRL := Lib.hid hrl
              have HUL := Lib.hid hul
              have HOV := Lib.hid ho
              have HU1 := Lib.hid hu1
              have HU2 := Lib.hid hu2
              have HNE := Lib.hid hne
              have HBR := Lib.hid hB
              have hsr3 := hB.size
              have d1r := (hB.cell (p := ⟨b, 1, none⟩) hbl).trans d1
              clear ho hol hrl hu1 hu2 hul hne
              by_cases hlt3 : m < k
              · obtain ⟨y1, u, y2, y3⟩ := HCC.out m (by omega)
                obtain ⟨pu, cu, rfl⟩ := y3.shape
                rw [HEV.out m (by omega)] at y2 y3
                have lg := blt y1
                have lgr : g < wr.heap.size := by omega
                have x1 := (hB.cell (p := ⟨g, off + m * 2, none⟩) lg).trans y1
                have x2 := (hB.cell (p := ⟨g, off + m * 2 + 1, none⟩) lg).trans y2
                have hx := HO.out.getD (m := m) (by rw [hIdx_len, HL.out]; omega)
                have HS := Lib.hid (idxB_snoc (xs := hIdx hs) (m := m) (by rw [hIdx_len, HL.out]; omega))
                have HS2 := Lib.hid (show (hRow hs).take m ++ [(hs.getD m (0, [])).2] = (hRow hs).take (m + 1) by
                  have h := hRow_snoc (hs := hs) (m := m) (by rw [HL.out]; omega)
                  simp only [hRow, List.map_take] at h ⊢
                  exact h)
                rw [hIdx_get (by rw [HL.out]; omega)] at hx HS
                obtain ⟨x, hxx⟩ : ∃ x, (hs.getD m (0, [])).1 = x := ⟨_, rfl⟩
                rw [hxx] at x1 hx HS
                obtain ⟨y, rfl⟩ := Int.eq_ofNat_of_zero_le hx.1
                have hy2 : y < 256 := by omega
                have HY := Lib.hid (show (⟨y, hy2⟩ : B) = ofB (Int.toNat (y : Int)) by rw [ofB_mk]; rfl)
                have HY3 := Lib.hid y3
                clear y1 y2 y3 hB hxx
                go_wp2_with (at_builtin; first
                  | (refine app_own rfl _ _ rfl w3.heap.size m _ _ ⟨y, hy2⟩ HOL.out HOV.out rfl rfl (by omega) hsr3 ?_; intro g' c' w6 hR6 hk6 hs6 hg6; have z2 := (hk6.cell (p := ⟨g, off + m * 2 + 1, none⟩) lgr (fun hb => by have := (HOV.out.blk g hb).1; omega)).trans x2; have HO6 := Lib.hid (ownsRow_keptS HU1.out hk6 (fun b hb e => HNE.out b e hb)))
                  | (refine app_head rfl _ _ rfl w3.heap.size m u11 us rfl HO6.out (.slice pu wide cu) rfl rfl (by omega) (by omega) ?_; intro g8 c8 w8 hR8 hk8 hs8 hg8))
                go_roundw
                case rel =>
                  have hv : ∀ b, (Value.slice pv m cv).ownBlock = some b → b < wr.heap.size := fun b hb => (HOV.out.blk b hb).2
                  have hl8 : ∀ b, u11.ownBlock = some b → b < wr.heap.size := fun b hb => (HU1.out.lt b hb).2
                  have hvg : u11.ownBlock ≠ some g' := fun e => by
                    rcases hg6 with q | q
                    · exact HNE.out g' q e
                    · have := hl8 _ e; omega
                  refine ⟨m + 1, by omega, by go_num, ?_, ?_, ?_, HBR.out.trans ((hk6.toBelow hsr3 (fun i hi => (HOV.out.blk i hi).1)).trans (hk8.toBelow (by omega) (fun i hi => (HU1.out.lt i hi).1)))⟩
                  · rw [← HS.out, ← HY.out]
                    exact hR6.kept hk8 (fun b hb e => by
                      have e2 : g' = b := by simpa [Value.ownBlock] using hb
                      subst e2
                      exact hvg e)
                  · rw [← HS2.out]
                    exact rowsIn_snoc HRL.out HUL.out HU2.out HY3.out hR8
                  · intro b h1 h2
                    have e1 : g' = b := by simpa [Value.ownBlock] using h1
                    have e2 : g8 = b := by simpa [Value.ownBlock] using h2
                    subst e1
                    rcases hg8 with q | q
                    · exact hvg (by rw [q, e2])
                    · rcases hg6 with z | z
                      · have := hv _ z; omega
                      · have := (hR6.blk g' (by simp [Value.ownBlock])).2; omega
                case measure => simp [intOf]; omega
              · obtain rfl : m = k := by omega
                have HRA := Lib.hid (RowsIn.rows (w := w3) (W := wr) (v := u11) (ls := (hRow hs).take m) ⟨us, by rw [HRL.out]; exact HU1.out, HU2.out⟩ hB)
                obtain ⟨pr, cr, hvr⟩ := HRA.out.shape
                rw [HRL.out] at hvr
                subst hvr
                have HND := Lib.hid (idxB_nodup HO.out hn m)
                have HWD := Lib.hid (show ∀ i, i < m → (((hRow hs).take m).getD i []).length = wide from fun i hi => by
                  rw [getD_take hi, hRow_get (by rw [HL.out]; omega)]
                  exact HEV.out i (by omega))
                have HB4 := Lib.hid (below_more HB3.out hB HB3.out.size)
                clear hB
                go_wp2_with fail
                refine (rpoints_any _ m (by omega)).mono ?_
                rintro e w5 ⟨v5, rfl, ho5, hB5⟩
                have HO5 := Lib.hid ho5.bytes
                have HOV5 := Lib.hid (HOV.out.below hB5)
                have HR5 := Lib.hid (HRA.out.below hB5)
                have HB5 := Lib.hid (below_more HB4.out hB5 HB4.out.size)
                obtain ⟨p5, c5, rfl⟩ := ho5.shape
                clear ho5 hB5
                go_wp2_with fail
                refine (rmoved_any _ _ _ _ (idxB ((hIdx hs).take m)) ((hRow hs).take m) (ptsL m) m m wide (by exact HOV5.out.bytes) (by exact HR5.out) (by exact HO5.out) HOL.out HRL.out (ptsL_len m) HND.out hk (by omega) (by omega) HWD.out hwb).mono ?_
                rintro e w7 ⟨v7, rfl, hr7, hB7⟩
                have hfin : RowsAt w7 v7 (decL m (idxB ((hIdx hs).take m)) (hRow hs) wide) := by rw [← mov_dec HOL.out]; exact hr7
                have HF := Lib.hid hfin
                have HB7 := Lib.hid (below_more HB5.out hB7 HB5.out.size)
                clear hr7 hB7 hfin
                go_wp2
                go_ret2
                exact ⟨_, by rw [← HXR.out]; rfl, fun _ => HF.out, fun h => absurd HXR.out.symm h, HB7.out⟩
end -- RefO

section -- KitF
open Go.RowKit Go.Maps
set_option linter.unusedVariables false
set_option maxRecDepth 100000
set_option maxHeartbeats 2000000

/-- Append of numbers, however many. -/
theorem app_int_many {ops : Array Oper} {rest : List Oper} {o : Oper} {a : Act} {Q : Exit → Act → World → Prop} {W : World}
    (hgd : o.guard = none) (s x : Operand) (ho : o.op = .call { callee := .builtin .append, args := #[s, x], argTypes := #[23, 23] })
    (base n m : Nat) (v : Value) (l1 l2 : List Int) (hn : l1.length = n) (hm : l2.length = m) (hown : W.ownsRow base 3 1 v n (l1.map (Value.int .i64))) (p : Option Addr) (c : Nat) (hc : 0 < m → ∃ g off, p = some ⟨g, off, none⟩ ∧ ∀ i, i < m → W.cell? ⟨g, off + i, none⟩ = some (.int .i64 (l2.getD i 0)))
    (hs : a.eval s = v) (hx : a.eval x = .slice p m c) (hnm : n + m < 1000000000000) (hbase : base ≤ W.heap.size)
    (h : ∀ p' c' w', w'.ownsRow base 3 1 (.slice p' (n + m) c') (n + m) ((l1 ++ l2).map (Value.int .i64)) → Kept (fun k => v.ownBlock = some k) W w' → (∀ b, (Value.slice p' (n + m) c').ownBlock = some b → v.ownBlock = some b ∨ W.heap.size ≤ b) →
      wpList Tryz.prog ops Q rest (a.put o.dst (.slice p' (n + m) c')) w') : wpList Tryz.prog ops Q (o :: rest) a W := by
  by_cases h0 : m = 0
  · subst h0
    obtain rfl : l2 = [] := List.eq_nil_of_length_eq_zero hm
    have hv : ∃ p' c', v = .slice p' n c' := by
      rcases hown.2 with ⟨rfl, hz⟩ | ⟨g, cap, cur, rfl, _⟩
      · exact ⟨none, 0, by rw [hz]⟩
      · exact ⟨_, cap, rfl⟩
    obtain ⟨p', c', rfl⟩ := hv
    have h1 := h p' c' W (by rw [List.append_nil, Nat.add_zero]; exact hown) (Kept.refl _ _) (fun b hb => .inl hb)
    refine app_none 23 3 1 8 (.int .i64 0) Tryz.underlying23 infoI hgd s x ho base n (.slice p' n c') (l1.map (Value.int .i64)) hs hown p c hx ?_
    exact h1
  · obtain ⟨g, off, rfl, hcc⟩ := hc (by omega)
    obtain ⟨i, hi, hz, hsize, hbytes⟩ := info_parts infoI
    have hown' : W.ownsRow base 3 i.size v n (l1.map (Value.int .i64)) := by rw [hsize]; exact hown
    obtain ⟨g', c', w', hr, h2, h3, h4⟩ := run_app (P := Tryz.prog) (w := W) base 23 o.type 3 i (.int .i64 0) Tryz.underlying23 hi hz (by rw [hsize]; rfl) v n (l1.map (Value.int .i64)) hown' g off m c (l2.map (Value.int .i64)) (by simp [hsize, hm]) (by omega) (fun j u hj => by
        have hjm : j < l2.length := by
          have := (List.getElem?_eq_some_iff.1 hj).1
          simpa using this
        rw [add_off, hcc j (by omega)]
        rw [List.getElem?_map, List.getElem?_eq_getElem hjm] at hj
        rw [getI hjm]
        exact hj) (fun v hv => by obtain ⟨x, _, rfl⟩ := List.mem_map.1 hv; rfl) (by omega) (by rw [hbytes]; omega) hbase
    rw [hsize, ← List.map_append] at h2
    refine wpList_plain hgd fun K hK => ?_
    have h5 := h _ c' w' h2 h3 (fun b hb => by
      have e : g' = b := own_is hb
      subst e
      exact h4)
    unfold Oper.wp execOp
    simp only [ho, resolve, invoke, builtin, Sem.run_bind, Sem.run_pure, Result.andThen_ok, List.map_toArray, List.map_cons, List.map_nil, hs, hx, hr]
    exact hK _ _ h5

/-- The marks behind numbers that are lent. -/
def behindI (m : Nat) : List Int := (List.range m).map fun i => ((mkN 1 i : Nat) : Int)
theorem behindI_len (m : Nat) : (behindI m).length = m := by simp [behindI]
theorem behindI_succ (m : Nat) : behindI (m + 1) = behindI m ++ [((mkN 1 m : Nat) : Int)] := by simp [behindI, List.range_succ]

def IntLentAt (w : World) (base : Nat) (v : Value) (xs : List Int) : Prop := ∃ g c, v = .slice (some ⟨g, 0, none⟩) xs.length c ∧ w.ownsRow base 3 1 (.slice (some ⟨g, 0, none⟩) (xs.length + 12) c) (xs.length + 12) ((xs ++ behindI 12).map (Value.int .i64))
section
variable {w w' : World} {base : Nat} {v : Value} {xs : List Int}
theorem IntLentAt.cells (h : IntLentAt w base v xs) : ∃ g c, v = .slice (some ⟨g, 0, none⟩) xs.length c ∧ xs.length + 12 ≤ c ∧ g < w.heap.size ∧ ∀ i, i < xs.length + 12 → w.cell? ⟨g, i, none⟩ = some (.int .i64 ((xs ++ behindI 12).getD i 0)) := by
  obtain ⟨g, c, rfl, h0, h1⟩ := h
  rcases h1 with ⟨e, hz⟩ | ⟨g', cap, cur, e, h2, h3, h4, h5, h6, h7⟩
  · cases e
  · simp only [Value.slice.injEq, Option.some.injEq, Addr.mk.injEq, true_and] at e
    obtain ⟨⟨rfl, _⟩, rfl⟩ := e
    refine ⟨g, c, rfl, h4, (Array.getElem?_eq_some_iff.1 h3).1, fun i hi => ?_⟩
    have hl : i < (xs ++ behindI 12).length := by rw [List.length_append, behindI_len]; exact hi
    have : ((xs ++ behindI 12).map (Value.int .i64))[i]? = some (.int .i64 ((xs ++ behindI 12).getD i 0)) := by
      rw [List.getElem?_map, List.getElem?_eq_getElem hl, getI hl]; rfl
    rw [← h7, List.getElem?_take, if_pos (by omega), Array.getElem?_toList] at this
    rw [cell_of h3, this]
theorem IntLentAt.blk (h : IntLentAt w base v xs) : ∀ b, v.ownBlock = some b → base ≤ b ∧ b < w.heap.size := by
  obtain ⟨g, c, rfl, ho⟩ := h
  exact fun b hb => ho.lt b (by rw [← hb]; rfl)
theorem IntLentAt.kept {S : Nat → Prop} (h : IntLentAt w base v xs) (hk : Kept S w w') (hS : ∀ b, v.ownBlock = some b → ¬ S b) : IntLentAt w' base v xs := by
  obtain ⟨g, c, rfl, ho⟩ := h
  exact ⟨g, c, rfl, ownsRow_keptS ho hk (fun b hb => hS b (by rw [← hb]; rfl))⟩
theorem IntLentAt.below (h : IntLentAt w base v xs) (hb : Below w.heap.size w w') : IntLentAt w' base v xs := h.kept (Kept.below hb) (fun _ _ h => h)
theorem IntLentAt.ints (h : IntLentAt w base v xs) : IntsAt w v xs := by
  obtain ⟨g, c, rfl, h1, h2, h3⟩ := h.cells
  refine ⟨_, c, rfl, by omega, fun h0 => ⟨g, 0, rfl, fun i hi => ?_⟩⟩
  rw [Nat.zero_add, h3 i (by omega), List.getD_eq_getElem?_getD, List.getElem?_append_left hi, ← List.getD_eq_getElem?_getD]
end

theorem lentI_any (w : World) (v : Value) (xs : List Int) (hv : IntsAt w v xs) (hl : xs.length ≤ 1000000) :
    Calls Tryz.prog 9 #[v] w fun e w' => ∃ v', e = .returned v' ∧ IntLentAt w' w.heap.size v' xs ∧ Below w.heap.size w w' := by
  obtain ⟨p, c, rfl, hcap0, hh⟩ := hv
  have HH := Lib.hid hh
  obtain ⟨n, hn⟩ : ∃ n, xs.length = n := ⟨_, rfl⟩
  rw [hn] at HH hl hcap0 ⊢
  have HN := Lib.hid hn
  have hmk := run_make_cap (w := w) 23 3 (.int .i64 0) 8 Tryz.underlying23 infoI rfl (by omega) (n + 12) (by omega)
  rw [show ((n + 12 : Nat) : Int) = (n : Int) + 12 by omega] at hmk
  have HO := Lib.hid (show (w.alloc (.cells (Array.replicate (n + 12) (.int .i64 0)) 3)).ownsRow w.heap.size 3 1 (.slice (some ⟨w.heap.size, 0, none⟩) 0 (n + 12)) 0 (([] : List Int).map (Value.int .i64)) from ⟨rfl, .inr ⟨w.heap.size, n + 12, _, rfl, Nat.le_refl _, heap_alloc_new w _, by omega, by unfold maxLen; omega, by simp, by simp⟩⟩)
  have HA := Lib.hid (bal' w (.cells (Array.replicate (n + 12) (.int .i64 0)) 3))
  have HSA := Lib.hid (show (w.alloc (.cells (Array.replicate (n + 12) (.int .i64 0)) 3)).heap.size = w.heap.size + 1 by simp)
  have HC := Lib.hid (show 0 < n → ∃ g off, p = some ⟨g, off, none⟩ ∧ ∀ i, i < n → (w.alloc (.cells (Array.replicate (n + 12) (.int .i64 0)) 3)).cell? ⟨g, off + i, none⟩ = some (.int .i64 (xs.getD i 0)) from fun h0 => by
    obtain ⟨g, off, e, hc⟩ := HH.out h0
    exact ⟨g, off, e, fun i hi => (HA.out.cell (p := ⟨g, off + i, none⟩) (blt (hc i hi))).trans (hc i hi)⟩)
  clear hh hn
  go_enter Tryz.func9, Tryz.ntmps9
  go_wp2_with (at_builtin; refine app_int_many rfl _ _ rfl w.heap.size 0 n _ [] xs rfl HN.out HO.out p _ HC.out rfl rfl (by omega) (by rw [HSA.out]; omega) ?_; intro p6 c6 w6 hR6 hk6 hg6)
  have HO6 := Lib.hid hR6
  have HB6 := Lib.hid (HA.out.trans ⟨hk6.os, hk6.tape, hk6.output, hk6.size, fun i hi => hk6.block i (by rw [HSA.out]; omega) (fun e => by have e2 : w.heap.size = i := own_is e; omega)⟩)
  clear hR6 hk6 hg6 hmk
  go_loopw [3, 4] (fun v i wr => ∃ k : Nat, k ≤ 12 ∧ i = .int .i64 (k : Int) ∧ wr.ownsRow w.heap.size 3 1 v (n + k) ((xs ++ behindI k).map (Value.int .i64)) ∧ Below w.heap.size w wr) (fun _ i _ => 12 - (intOf i).toNat)
  case atStart => exact ⟨0, by omega, rfl, by have h := HO6.out; rw [Nat.zero_add] at h; rw [show behindI 0 = [] from rfl, List.append_nil]; exact h, HB6.out⟩
  case round =>
    obtain ⟨k, hk, rfl, ho, hB⟩ := hrel
    have HOV := Lib.hid ho
    have HBR := Lib.hid hB
    have hsr := hB.size
    by_cases hlt : k < 12
    · have HS := Lib.hid (show (xs ++ behindI k).map (Value.int .i64) ++ [.int .i64 ((mkN 1 k : Nat) : Int)] = (xs ++ behindI (k + 1)).map (Value.int .i64) by rw [behindI_succ, ← List.append_assoc]; simp)
      have HM := Lib.hid (mark_any wr 1 k (by omega) (by omega))
      obtain ⟨y, hy⟩ : ∃ y, mkN 1 k = y := ⟨_, rfl⟩
      rw [hy] at HM HS
      clear ho hB hy
      go_wp2_with fail
      refine HM.out.mono ?_
      rintro e w5 ⟨rfl, rfl⟩
      go_wp2_with (at_builtin; refine app_el 23 3 1 8 (.int .i64 0) Tryz.underlying23 infoI rfl (by decide) rfl _ _ rfl w.heap.size (n + k) _ _ rfl HOV.out [.int .i64 (y : Int)] rfl (one_int y) rfl (by omega) hsr ?_; intro g' c' w6 hR6 hk6 hs6 hg6)
      go_roundw
      case rel =>
        refine ⟨k + 1, by omega, by go_num, by rw [← HS.out]; exact hR6, HBR.out.trans (hk6.toBelow hsr (fun i hi => (HOV.out.lt i hi).1))⟩
      case measure => simp [intOf]; omega
    · obtain rfl : k = 12 := by omega
      have ho2 := ho.2
      rcases ho2 with ⟨e, hz⟩ | ⟨g, cv, cur, e, hg, h3, h4, h5, h6, h7⟩
      · omega
      · subst e
        have HF := Lib.hid (show IntLentAt wr w.heap.size (.slice (some ⟨g, 0, none⟩) n cv) xs from ⟨g, cv, by rw [HN.out], by rw [HN.out]; exact HOV.out⟩)
        clear ho hB h3 h5 h6 h7
        go_wp2
        go_ret
        exact ⟨_, rfl, HF.out, HBR.out⟩
end -- KitF

end Go.Proofs.YtanjchpkekehgaaGreat
