/-
  CodeGb: What the laws of layer 5 use: bytesOf.
  RefO: Walks of the reference, layer 5 (code): Decode.
-/
import Derived.Test.YtanjchpkekehgaaGreatMxbd
import Derived.Test.YtanjchpkekehgaaGreatMxbh
namespace Go.Proofs.YtanjchpkekehgaaGreat

section -- CodeGb
open Go.RowKit Go.Maps
set_option linter.unusedVariables false
set_option maxRecDepth 100000
set_option maxHeartbeats 2000000

/-- Append of one row's header; only memory bounds it. -/
theorem app_head {ops : Array Oper} {rest : List Oper} {o : Oper} {a : Act} {Q : Exit → Act → World → Prop} {W : World}
    (hgd : o.guard = none) (s x : Operand) (ho : o.op = .call { callee := .builtin .append, args := #[s, x], argTypes := #[22, 22] })
    (base n : Nat) (v : Value) (us : List Value) (hs : a.eval s = v) (hown : W.ownsRow base 50 1 v n us) (u : Value) (h1 : u.oneCell' = true)
    (hx : a.eval x = .slice (some ⟨W.heap.size, 0, none⟩) 1 1) (hn : n < 5000000000000) (hbase : base ≤ W.heap.size)
    (h : ∀ g' c' w', w'.ownsRow base 50 1 (.slice (some ⟨g', 0, none⟩) (n + 1) c') (n + 1) (us ++ [u]) → Kept (fun k => v.ownBlock = some k) W w' → W.heap.size < w'.heap.size → (v.ownBlock = some g' ∨ W.heap.size < g') →
      wpList Tryz.prog ops Q rest (a.put o.dst (.slice (some ⟨g', 0, none⟩) (n + 1) c')) w') : wpList Tryz.prog ops Q (o :: rest) a (W.alloc (.cells #[u] 50)) := by
  obtain ⟨i, hi, hz, hsize, hbytes⟩ := info_parts infoR
  rw [← hsize] at hown
  obtain ⟨g', c', w', hr, h2, h3, h4⟩ := run_app (P := Tryz.prog) (w := W.alloc (.cells #[u] 50)) base 22 o.type 50 i (.slice none 0 0) Tryz.underlying22 hi hz (by rw [hsize]; rfl) v n us (hown.alloc _) W.heap.size 0 1 1 [u] (by simp [hsize]) (by omega) (fun j y hj => by
      rw [add_zero_off]
      exact (World.cell?_alloc_new W _ _ j).trans (by simpa using hj)) (by simpa using h1) (by omega) (by rw [hbytes]; omega) (by simp; omega)
  rw [hsize] at h2
  refine wpList_plain hgd fun K hK => ?_
  have h5 := h g' c' w' h2 ⟨h3.os, h3.tape, h3.output, Nat.le_trans (by simp) h3.size, fun k hk hn => (h3.block k (by simp; omega) hn).trans (Below.heap_alloc W _ k hk)⟩
    (Nat.lt_of_lt_of_le (by simp) h3.size) (h4.imp id (fun q => by simp at q; omega))
  unfold Oper.wp execOp
  simp only [ho, resolve, invoke, builtin, Sem.run_bind, Sem.run_pure, Result.andThen_ok, List.map_toArray, List.map_cons, List.map_nil, hs, hx, hr]
  exact hK _ _ h5

theorem bytesOf_any (w : World) (v : Value) (hs : List (Int × List B)) (hv : HeldAt w v hs) (hl : hs.length ≤ 4500000000000) :
    Calls Tryz.prog 16 #[v] w fun e w' => ∃ v, e = .returned v ∧ RowsIn w w' v (hRow hs) ∧ Below w.heap.size w w' := by
  obtain ⟨p, cap, rfl, hcap, hh⟩ := hv
  have HH := Lib.hid hh
  clear hh
  go_enter Tryz.func16, Tryz.ntmps16
  go_wp2
  go_loopw [3, 4] (fun v i wr => ∃ m : Nat, m ≤ hs.length ∧ i = .int .i64 (m : Int) ∧ RowsIn w wr v (hRow (hs.take m)) ∧ Below w.heap.size w wr) (fun _ i _ => hs.length - (intOf i).toNat)
  case atStart => exact ⟨0, Nat.zero_le _, rfl, ⟨[], World.ownsRow_nil _ _ _ _, fun i z h => by simp at h⟩, Below.refl _ _⟩
  case round =>
    obtain ⟨m, hm, rfl, hr, hB⟩ := hrel
    have HR := Lib.hid hr
    have HB := Lib.hid hB
    have hsr := hB.size
    clear hr
    by_cases hlt : m < hs.length
    · obtain ⟨gh, oh, rfl, hhc⟩ := HH.out (by omega)
      obtain ⟨x1, u, x2, x3⟩ := hhc m hlt
      obtain ⟨pu, cu, rfl⟩ := x3.shape
      obtain ⟨lm, hlm⟩ : ∃ lm, (hs.getD m (0, [])).2.length = lm := ⟨_, rfl⟩
      rw [hlm] at x2
      have HX3 := Lib.hid x3
      have HLM := Lib.hid hlm
      have y2 := (hB.cell (p := ⟨gh, oh + m * 2 + 1, none⟩) (blt x2)).trans x2
      have HS := Lib.hid (hRow_snoc hlt)
      obtain ⟨us, ho, hz⟩ := HR.out
      have hul : (hRow (hs.take m)).length = m := by simp [hRow]; omega
      rw [hul] at ho
      have HO := Lib.hid ho
      have HZ := Lib.hid hz
      clear x1 x2 x3 hhc hB hlm ho hz hul
      go_wp2_with (at_builtin; refine app_head rfl _ _ rfl w.heap.size m _ us rfl HO.out _ rfl rfl (by omega) hsr ?_; intro g' c' w6 hR6 hk6 hs6 hg6)
      go_roundw
      case rel =>
        refine ⟨m + 1, by omega, by go_num, ?_, HB.out.trans (hk6.toBelow (by omega) (fun i h => (HO.out.lt i h).1))⟩
        rw [← HS.out]
        exact rowsIn_snoc (by simp [hRow]; omega) (by have := HO.out.1; omega) HZ.out (by rw [← HLM.out]; exact HX3.out) hR6
      case measure => simp [intOf]; omega
    · obtain rfl : m = hs.length := by omega
      have hr := HR.out
      rw [List.take_length] at hr
      have HR2 := Lib.hid hr
      clear hr
      go_wp2
      go_ret
      exact ⟨_, rfl, HR2.out, HB.out⟩
end -- CodeGb

section -- RefO
open Go.RowKit Go.Maps
set_option linter.unusedVariables false
set_option maxRecDepth 100000
set_option maxHeartbeats 4000000

theorem hIdx_len (hs : List (Int × List B)) : (hIdx hs).length = hs.length := by simp [hIdx]
theorem hRow_len (hs : List (Int × List B)) : (hRow hs).length = hs.length := by simp [hRow]
theorem hIdx_get {hs : List (Int × List B)} {i : Nat} (h : i < hs.length) : (hIdx hs).getD i 0 = (hs.getD i (0, [])).1 := by
  simp [hIdx, List.getD_eq_getElem?_getD, List.getElem?_eq_getElem h]
theorem hRow_get {hs : List (Int × List B)} {i : Nat} (h : i < hs.length) : (hRow hs).getD i [] = (hs.getD i (0, [])).2 := by
  simp [hRow, List.getD_eq_getElem?_getD, List.getElem?_eq_getElem h]
theorem getD_take {α : Type} {l : List α} {k i : Nat} {d : α} (h : i < k) : (l.take k).getD i d = l.getD i d := by
  rw [List.getD_eq_getElem?_getD, List.getD_eq_getElem?_getD, List.getElem?_take, if_pos h]
theorem mixL_take {ws : List B} {l : List (List B)} {k wide : Nat} (h : ws.length = k) : mixL ws (l.take k) wide = mixL ws l wide := by
  unfold mixL
  refine List.map_congr_left (fun j _ => sm_congr (fun i hi => ?_))
  rw [getD_take (by omega)]
theorem mov_dec {ys : List B} {l : List (List B)} {k wide : Nat} (hy : ys.length = k) : movL ys (l.take k) (ptsL k) k k wide = decL k ys l wide := by
  rw [decL_eq]
  unfold movL decP
  refine List.map_congr_left (fun r hr => ?_)
  rw [mov_row hy (ptsL_get (List.mem_range.1 hr)), mixL_take (by rw [wtsL_len]; exact hy)]
theorem one_int (x : Int) : ∀ u ∈ [Value.int .i64 x], u.oneCell' = true := by simp [Value.oneCell']

theorem rdecode_any (w : World) {b n k : Nat} (hc : RCoderAt w b n k) (hk : 1 ≤ k) (hkn : k ≤ n) (hn : n ≤ 255) (v : Value) (hs : List (Int × List B)) (wide : Nat) (hv : HeldAt w v hs) (hl : hs.length ≤ 1000000) (hw0 : (hs.getD 0 (0, [])).2.length = wide) (hwb : wide ≤ 1000000) :
    Calls Tryz.prog 44 #[.pointer (some ⟨b, 0, none⟩), v] w fun e w' => ∃ v, e = .returned (.tuple #[v, .int .i64 (decE n k hs)]) ∧ (decE n k hs = 0 → RowsAt w' v (decL k (idxB ((hIdx hs).take k)) (hRow hs) wide)) ∧ (decE n k hs ≠ 0 → v = .slice none 0 0) ∧ Below w.heap.size w w' := by
  have HC := Lib.hid hc
  have HW0 := Lib.hid hw0
  obtain ⟨r, hr⟩ : ∃ r, decE n k hs = r := ⟨_, rfl⟩
  rw [hr]
  have HR := Lib.hid hr
  obtain ⟨L, hL⟩ : ∃ L, hs.length = L := ⟨_, rfl⟩
  obtain ⟨p, cap, rfl, hcap, hh⟩ := hv
  rw [hL] at hh hcap hl ⊢
  have HL := Lib.hid hL
  have HHH := Lib.hid hh
  clear hc hh hw0 hr hL
  go_enter Tryz.func44, Tryz.ntmps44
  go_wp2
  go_loopw [6, 7] (fun vi i wr => ∃ m : Nat, m ≤ L ∧ i = .int .i64 (m : Int) ∧ wr.ownsRow w.heap.size 3 1 vi m ((hIdx (hs.take m)).map (Value.int .i64)) ∧ Below w.heap.size w wr) (fun _ i _ => L - (intOf i).toNat)
  case atStart => exact ⟨0, Nat.zero_le _, rfl, World.ownsRow_nil _ _ _ _, Below.refl _ _⟩
  case round =>
    obtain ⟨w1, rfl⟩ : ∃ w1, w1 = wr := ⟨_, rfl⟩
    obtain ⟨m, hm, rfl, ho, hB⟩ := hrel
    have HI := Lib.hid ho
    have HB := Lib.hid hB
    have hsr := hB.size
    clear ho
    by_cases hlt : m < L
    · obtain ⟨gh, oh, rfl, hhc⟩ := HHH.out (by omega)
      have x1 := (hhc m hlt).1
      have y1 := (hB.cell (p := ⟨gh, oh + m * 2, none⟩) (blt x1)).trans x1
      have HS1 := Lib.hid (hIdx_snoc (hs := hs) (m := m) (by rw [HL.out]; exact hlt))
      obtain ⟨ix, hix⟩ : ∃ ix, (hs.getD m (0, [])).1 = ix := ⟨_, rfl⟩
      rw [hix] at y1 HS1
      clear hhc x1 hix hB
      go_wp2_with (at_builtin; refine app_el 23 3 1 8 (.int .i64 0) Tryz.underlying23 infoI rfl (by decide) rfl _ _ rfl w.heap.size m u6 _ rfl HI.out [.int .i64 ix] rfl (one_int ix) rfl (by omega) hsr ?_; intro g' c' w6 hR6 hk6 hs6 hg6)
      go_roundw
      case rel =>
        refine ⟨m + 1, by omega, by go_num, by rw [← HS1.out, List.map_append]; exact hR6, HB.out.trans (hk6.toBelow hsr (fun i hi => (HI.out.lt i hi).1))⟩
      case measure => simp [intOf]; omega
    · obtain rfl : m = L := by omega
      have HTK := Lib.hid (show hs.take m = hs by rw [← HL.out, List.take_length])
      rw [HTK.out] at HI
      have HIA := Lib.hid (IntsAt.of_owns (w := w1) (base := w.heap.size) (v := u6) (xs := hIdx hs) (by rw [hIdx_len, HL.out]; exact HI.out))
      have HC1 := Lib.hid (HC.out.below hB)
      have HAS := Lib.hid (rasked_any w1 HC1.out _ (hIdx hs) HIA.out (by rw [hIdx_len, HL.out]; exact hl))
      obtain ⟨a, ha⟩ : ∃ a, askE n k (hIdx hs) = a := ⟨_, rfl⟩
      rw [ha] at HAS
      have HA := Lib.hid ha
      clear hB ha
      go_wp2_with fail
      refine HAS.out.mono ?_
      rintro e w2 ⟨rfl, q, rfl⟩
      have HB2 := Lib.hid (show Below w.heap.size w (w1.drewN q) from belowDr HB.out q)
      have HC2 := Lib.hid (show RCoderAt (w1.drewN q) b n k from HC1.out)
      have hcell : 0 < m → ∃ g off, p = some ⟨g, off, none⟩ ∧ ∀ i, i < m → (w1.drewN q).cell? ⟨g, off + i * 2, none⟩ = some (.int .i64 (hs.getD i (0, [])).1) ∧ ∃ u, (w1.drewN q).cell? ⟨g, off + i * 2 + 1, none⟩ = some u ∧ BytesAt (w1.drewN q) u (hs.getD i (0, [])).2 := by
        intro h0
        obtain ⟨g, off, e, hc⟩ := HHH.out h0
        refine ⟨g, off, e, fun i hi => ?_⟩
        obtain ⟨x, u, y, z⟩ := hc i hi
        exact ⟨(HB2.out.cell (p := ⟨g, off + i * 2, none⟩) (blt x)).trans x, u, (HB2.out.cell (p := ⟨g, off + i * 2 + 1, none⟩) (blt y)).trans y, z.below HB2.out⟩
      have HCL := Lib.hid hcell
      clear HHH hcell
      go_wp2
      generalize w1.drewN q = w2 at *
      go_loopw [8, 9] (fun e i wr => ∃ (j q : Nat) (x : Int), j ≤ m ∧ i = .int .i64 (j : Int) ∧ e = .int .i64 x ∧ ((∀ t, t < j → (hs.getD t (0, [])).2.length = wide) → x = a) ∧ (¬ (∀ t, t < j → (hs.getD t (0, [])).2.length = wide) → x = 2) ∧ wr = w2.drewN q) (fun _ i _ => m - (intOf i).toNat)
      case atStart => exact ⟨0, 0, a, Nat.zero_le _, rfl, rfl, fun _ => rfl, fun h => absurd (fun t ht => absurd ht (by omega)) h, rfl⟩
      case round =>
        obtain ⟨j, q2, x, hj, rfl, rfl, hx1, hx2, rfl⟩ := hrel
        have HX1 := Lib.hid hx1
        have HX2 := Lib.hid hx2
        clear hx1 hx2
        by_cases hlt2 : j < m
        · obtain ⟨g, off, rfl, hc⟩ := HCL.out (by omega)
          obtain ⟨_, u, y1, y2⟩ := hc j hlt2
          obtain ⟨_, u0, z1, z2⟩ := hc 0 (by omega)
          rw [Nat.zero_mul, Nat.add_zero] at z1
          obtain ⟨pu, cu, rfl⟩ := y2.shape
          obtain ⟨p0, c0, rfl⟩ := z2.shape
          rw [HW0.out] at z1
          obtain ⟨lj, hlj⟩ : ∃ lj, (hs.getD j (0, [])).2.length = lj := ⟨_, rfl⟩
          rw [hlj] at y1
          have HLJ := Lib.hid hlj
          clear hc y2 z2 hlj
          by_cases he : lj = wide
          · subst he
            go_wp2_with fail
            go_quiet (fail)
            go_wp2
            go_roundw
            case rel => exact ⟨j + 1, _, x, by omega, by go_num, rfl, fun h => HX1.out (fun t ht => h t (by omega)), fun h => HX2.out (fun h2 => h (fun t ht => by
              by_cases e : t = j
              · rw [e]; exact HLJ.out
              · exact h2 t (by omega))), by first | rfl | rw [World.drewN_drewN]⟩
            case measure => simp [intOf]; omega
          · have he1 : ¬ (lj : Int) = wide := by omega
            have he2 : (lj == wide) = false := by simpa using he
            have HE := Lib.hid he
            clear he
            go_wp2_with fail
            go_quiet (fail)
            go_wp2
            go_roundw
            case rel => exact ⟨j + 1, _, 2, by omega, by go_num, rfl, fun h => absurd (HLJ.out.symm.trans (h j (by omega))) HE.out, fun _ => rfl, by first | rfl | rw [World.drewN_drewN]⟩
            case measure => simp [intOf]; omega
        · obtain rfl : j = m := by omega
          have HXR := Lib.hid (show x = r by
            rw [← HR.out]
            unfold decE
            by_cases hev : ∀ t, t < j → (hs.getD t (0, [])).2.length = wide
            · rw [HX1.out hev, if_pos ((evenH_iff hs).2 (fun i hi => by rw [hev i (by rw [← HL.out]; exact hi), HW0.out])), HA.out]
            · rw [HX2.out hev, if_neg (fun h => hev (fun t ht => by rw [(evenH_iff hs).1 h t (by rw [HL.out]; exact ht), HW0.out]))])
          have HB3 := Lib.hid (show Below w.heap.size w (w2.drewN q2) from belowDr HB2.out q2)
          by_cases hx0 : x = 0
          rotate_left
          · have hx1 : (x == 0) = false := by simpa using hx0
            have HX0 := Lib.hid hx0
            clear hx0
            go_wp2
            go_ret2
            exact ⟨_, by rw [← HXR.out]; rfl, fun h => absurd (HXR.out.trans h) HX0.out, fun _ => rfl, HB3.out⟩
          · subst hx0
            have HEV := Lib.hid (show ∀ t, t < j → (hs.getD t (0, [])).2.length = wide by
              by_cases hev : ∀ t, t < j → (hs.getD t (0, [])).2.length = wide
              · exact hev
              · have := HX2.out hev; omega)
            have HO := Lib.hid (askE_zero (n := n) (k := k) (xs := hIdx hs) (by rw [HA.out, ← HX1.out HEV.out]))
            have hkl := HO.out.len
            rw [hIdx_len, HL.out] at hkl
            have HC3 := Lib.hid (show RCoderAt (w2.drewN q2) b n k from HC2.out)
            have HCL3 := Lib.hid (show 0 < j → ∃ g off, p = some ⟨g, off, none⟩ ∧ ∀ i, i < j → (w2.drewN q2).cell? ⟨g, off + i * 2, none⟩ = some (.int .i64 (hs.getD i (0, [])).1) ∧ ∃ u, (w2.drewN q2).cell? ⟨g, off + i * 2 + 1, none⟩ = some u ∧ BytesAt (w2.drewN q2) u (hs.getD i (0, [])).2 from HCL.out)
            have HSZ3 := Lib.hid (show (w2.drewN q2).heap.size = w2.heap.size from rfl)
            clear HCL
            go_wp2
            generalize w2.drewN q2 = w3 at *
            have d1 := HC3.out.c1
            have hbl := HC3.out.lt
            obtain ⟨g, off, rfl, hc⟩ := HCL3.out (by omega)
            have HCC := Lib.hid hc
            clear hc
            go_loopw [10, 11, 12] (fun vf vl i wr => ∃ m : Nat, m ≤ k ∧ i = .int .i64 (m : Int) ∧ Own wr w3.heap.size vf (idxB ((hIdx hs).take m)) ∧ RowsIn w3 wr vl ((hRow hs).take m) ∧ (∀ b, vf.ownBlock = some b → vl.ownBlock ≠ some b) ∧ Below w3.heap.size w3 wr) (fun _ _ i _ => k - (intOf i).toNat)
            case atStart => exact ⟨0, Nat.zero_le _, rfl, Own.nil _ _, ⟨[], World.ownsRow_nil _ _ _ _, fun i z h => by simp at h⟩, (fun b h => by cases h), Below.refl _ _⟩
            case round =>
              obtain ⟨m, hm2, rfl, ho, hri, hne, hB⟩ := hrel
              have hol : (idxB ((hIdx hs).take m)).length = m := by rw [idxB_len, List.length_take, hIdx_len, HL.out]; omega
              have hrl : ((hRow hs).take m).length = m := by rw [List.length_take, hRow_len, HL.out]; omega
              obtain ⟨pv, cv, rfl⟩ := ho.shape
              rw [hol] at ho hne ⊢
              obtain ⟨us, hu1, hu2⟩ := hri
              rw [hrl] at hu1
              have hul : us.length = m := by have := hu1.1; omega
              have HOL := Lib.hid hol
              have HRL := Lib.hid hrl
              have HUL := Lib.hid hul
              have HOV := Lib.hid ho
              have HU1 := Lib.hid hu1
              have HU2 := Lib.hid hu2
              have HNE := Lib.hid hne
              have HBR := Lib.hid hB
              have hsr3 := hB.size
              have d1r := (hB.cell (p := ⟨b, 1, none⟩) hbl).trans d1
              clear ho hol hrl hu1 hu2 hul hne
              by_cases hlt3 : m < k
              · obtain ⟨y1, u, y2, y3⟩ := HCC.out m (by omega)
                obtain ⟨pu, cu, rfl⟩ := y3.shape
                rw [HEV.out m (by omega)] at y2 y3
                have lg := blt y1
                have lgr : g < wr.heap.size := by omega
                have x1 := (hB.cell (p := ⟨g, off + m * 2, none⟩) lg).trans y1
                have x2 := (hB.cell (p := ⟨g, off + m * 2 + 1, none⟩) lg).trans y2
                have hx := HO.out.getD (m := m) (by rw [hIdx_len, HL.out]; omega)
                have HS := Lib.hid (idxB_snoc (xs := hIdx hs) (m := m) (by rw [hIdx_len, HL.out]; omega))
                have HS2 := Lib.hid (show (hRow hs).take m ++ [(hs.getD m (0, [])).2] = (hRow hs).take (m + 1) by
                  have h := hRow_snoc (hs := hs) (m := m) (by rw [HL.out]; omega)
                  simp only [hRow, List.map_take] at h ⊢
                  exact h)
                rw [hIdx_get (by rw [HL.out]; omega)] at hx HS
                obtain ⟨x, hxx⟩ : ∃ x, (hs.getD m (0, [])).1 = x := ⟨_, rfl⟩
                rw [hxx] at x1 hx HS
                obtain ⟨y, rfl⟩ := Int.eq_ofNat_of_zero_le hx.1
                have hy2 : y < 256 := by omega
                have HY := Lib.hid (show (⟨y, hy2⟩ : B) = ofB (Int.toNat (y : Int)) by rw [ofB_mk]; rfl)
                have HY3 := Lib.hid y3
                clear y1 y2 y3 hB hxx
                go_wp2_with (at_builtin; first
                  | (refine app_own rfl _ _ rfl w3.heap.size m _ _ ⟨y, hy2⟩ HOL.out HOV.out rfl rfl (by omega) hsr3 ?_; intro g' c' w6 hR6 hk6 hs6 hg6; have z2 := (hk6.cell (p := ⟨g, off + m * 2 + 1, none⟩) lgr (fun hb => by have := (HOV.out.blk g hb).1; omega)).trans x2; have HO6 := Lib.hid (ownsRow_keptS HU1.out hk6 (fun b hb e => HNE.out b e hb)))
                  | (refine app_head rfl _ _ rfl w3.heap.size m u11 us rfl HO6.out (.slice pu wide cu) rfl rfl (by omega) (by omega) ?_; intro g8 c8 w8 hR8 hk8 hs8 hg8))
                go_roundw
                case rel =>
                  have hv : ∀ b, (Value.slice pv m cv).ownBlock = some b → b < wr.heap.size := fun b hb => (HOV.out.blk b hb).2
                  have hl8 : ∀ b, u11.ownBlock = some b → b < wr.heap.size := fun b hb => (HU1.out.lt b hb).2
                  have hvg : u11.ownBlock ≠ some g' := fun e => by
                    rcases hg6 with q | q
                    · exact HNE.out g' q e
                    · have := hl8 _ e; omega
                  refine ⟨m + 1, by omega, by go_num, ?_, ?_, ?_, HBR.out.trans ((hk6.toBelow hsr3 (fun i hi => (HOV.out.blk i hi).1)).trans (hk8.toBelow (by omega) (fun i hi => (HU1.out.lt i hi).1)))⟩
                  · rw [← HS.out, ← HY.out]
                    exact hR6.kept hk8 (fun b hb e => by
                      have e2 : g' = b := by simpa [Value.ownBlock] using hb
                      subst e2
                      exact hvg e)
                  · rw [← HS2.out]
                    exact rowsIn_snoc HRL.out HUL.out HU2.out HY3.out hR8
                  · intro b h1 h2
                    have e1 : g' = b := by simpa [Value.ownBlock] using h1
                    have e2 : g8 = b := by simpa [Value.ownBlock] using h2
                    subst e1
                    rcases hg8 with q | q
                    · exact hvg (by rw [q, e2])
                    · rcases hg6 with z | z
                      · have := hv _ z; omega
                      · have := (hR6.blk g' (by simp [Value.ownBlock])).2; omega
                case measure => simp [intOf]; omega
              · obtain rfl : m = k := by omega
                have HRA := Lib.hid (RowsIn.rows (w := w3) (W := wr) (v := u11) (ls := (hRow hs).take m) ⟨us, by rw [HRL.out]; exact HU1.out, HU2.out⟩ hB)
                obtain ⟨pr, cr, hvr⟩ := HRA.out.shape
                rw [HRL.out] at hvr
                subst hvr
                have HND := Lib.hid (idxB_nodup HO.out hn m)
                have HWD := Lib.hid (show ∀ i, i < m → (((hRow hs).take m).getD i []).length = wide from fun i hi => by
                  rw [getD_take hi, hRow_get (by rw [HL.out]; omega)]
                  exact HEV.out i (by omega))
                have HB4 := Lib.hid (below_more HB3.out hB HB3.out.size)
                clear hB
                go_wp2_with fail
                refine (rpoints_any _ m (by omega)).mono ?_
                rintro e w5 ⟨v5, rfl, ho5, hB5⟩
                have HO5 := Lib.hid ho5.bytes
                have HOV5 := Lib.hid (HOV.out.below hB5)
                have HR5 := Lib.hid (HRA.out.below hB5)
                have HB5 := Lib.hid (below_more HB4.out hB5 HB4.out.size)
                obtain ⟨p5, c5, rfl⟩ := ho5.shape
                clear ho5 hB5
                go_wp2_with fail
                refine (rmoved_any _ _ _ _ (idxB ((hIdx hs).take m)) ((hRow hs).take m) (ptsL m) m m wide (by exact HOV5.out.bytes) (by exact HR5.out) (by exact HO5.out) HOL.out HRL.out (ptsL_len m) HND.out hk (by omega) (by omega) HWD.out hwb).mono ?_
                rintro e w7 ⟨v7, rfl, hr7, hB7⟩
                have hfin : RowsAt w7 v7 (decL m (idxB ((hIdx hs).take m)) (hRow hs) wide) := by rw [← mov_dec HOL.out]; exact hr7
                have HF := Lib.hid hfin
                have HB7 := Lib.hid (below_more HB5.out hB7 HB5.out.size)
                clear hr7 hB7 hfin
                go_wp2
                go_ret2
                exact ⟨_, by rw [← HXR.out]; rfl, fun _ => HF.out, fun h => absurd HXR.out.symm h, HB7.out⟩
end -- RefO

end Go.Proofs.YtanjchpkekehgaaGreat
