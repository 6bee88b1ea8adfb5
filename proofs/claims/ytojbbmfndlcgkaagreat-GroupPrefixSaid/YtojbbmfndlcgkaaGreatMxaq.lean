/-
  Walk of layer 3 (rows): Inverse.
-/
import Derived.Test.YtojbbmfndlcgkaaGreatMxap
import Derived.Test.YtojbbmfndlcgkaaGreatMxag
namespace Go.Proofs.YtojbbmfndlcgkaaGreat
open Go.RowKit Go.Maps
set_option linter.unusedVariables false
set_option linter.unusedSimpArgs false
set_option maxRecDepth 100000
set_option maxHeartbeats 4000000

/-- The unit beside a matrix. -/
def besideM (k : Nat) (A : Nat → Nat → B) (r j : Nat) : B := if j < k then A r j else if j - k = r then 1 else 0

theorem unit_len (k j : Nat) : ((List.replicate k (0 : B)).set j 1).length = k := by simp
theorem beside_row {k r : Nat} (A : Nat → Nat → B) : rowL k (A r) ++ (List.replicate k (0 : B)).set r 1 = rowL (k + k) (besideM k A r) := by
  apply List.ext_getElem
  · simp [rowL]
  · intro i h1 h2
    simp only [rowL, List.getElem_map, List.getElem_range, besideM]
    by_cases e : i < k
    · rw [if_pos e, List.getElem_append_left (by simpa [rowL] using e)]
      simp
    · rw [if_neg e, List.getElem_append_right (by simp [rowL]; omega)]
      simp only [List.length_map, List.length_range, List.getElem_set, List.getElem_replicate]
      by_cases q : r = i - k
      · rw [if_pos q, if_pos q.symm]
      · rw [if_neg q, if_neg (fun e => q e.symm)]

theorem inverse_any (w : World) (v : Value) (ls : List (List B)) (k : Nat) (hl : RowsAt w v ls) (hk : ls.length = k) (h1 : 1 ≤ k) (h2 : k ≤ 255) (hwd : ∀ i, i < ls.length → (ls.getD i []).length = k)
    (C : Nat → Nat → B) (hker : ∀ x : Nat → B, (∀ r, r < k → sm k (fun j => lsM ls r j * x j) = 0) → ∀ j, j < k → x j = 0) (hC : ∀ t s, t < k → s < k → sm k (fun j => lsM ls t j * C j s) = if t = s then 1 else 0) :
    Calls Tryz.prog 85 #[v] w fun e w' => ∃ gm U, e = .returned (.tuple #[.slice (some ⟨gm, 0, none⟩) k k, .int .i64 0]) ∧ MatW w' gm k k U C ∧ (∀ i, matB gm k U i → w.heap.size ≤ i) ∧ Below w.heap.size w w' := by
  have HL := Lib.hid hl
  have HWD := Lib.hid hwd
  have HKER := Lib.hid hker
  have HCC := Lib.hid hC
  have HLK := Lib.hid hk
  have HCP := Lib.hid (copied_any w v ls k k hl hk (by omega) hwd (by omega))
  have HRI := Lib.hid (rright_any w v ls k hl (by omega) (by omega) hwd (by omega))
  have HWI := Lib.hid (wide_any w v ls k hl (by omega) (by omega) hwd)
  obtain ⟨pl, cl, hv⟩ := hl.shape
  rw [hk] at hv
  subst hv
  clear hl hwd hker hC hk
  go_enter Tryz.func85, Tryz.ntmps85
  go_wp2_with fail
  refine HRI.out.mono ?_
  rintro e w' ⟨rfl, rfl⟩
  go_wp2_with fail
  refine HWI.out.mono ?_
  rintro e w' ⟨rfl, rfl⟩
  go_wp2_with fail
  refine HCP.out.mono ?_
  rintro e w1 ⟨gm, U, rfl, hM, hgm, hU, hB1, Cc, hCc, hCs⟩
  have HV1 := Lib.hid (hM.toV hCc hCs)
  have HU1 := Lib.hid (show ∀ i, matB gm k U i → w.heap.size ≤ i from fun i h => by
    rcases h with rfl | ⟨r, hr, rfl⟩
    · exact hgm
    · exact (hU r hr).2)
  have HB1 := Lib.hid hB1
  clear hM hU hB1 hCc hCs
  go_wp2
  go_loopw [5, 6, 22] (fun _ _ i wr => ∃ (j : Nat) (U' : Nat → Nat × Nat), j ≤ k ∧ i = .int .i64 (j : Int) ∧ MatV wr gm k (fun r => if r < j then k + k else k) U' (fun r c => if r < j then besideM k (lsM ls) r c else lsM ls r c) ∧ (∀ i, matB gm k U' i → w.heap.size ≤ i) ∧ Below w.heap.size w wr) (fun _ _ i _ => k - (intOf i).toNat)
  case atStart => exact ⟨0, U, Nat.zero_le _, rfl, HV1.out.congr (fun r _ => by simp) (fun r j _ _ => by simp), HU1.out, HB1.out⟩
  case round =>
    obtain ⟨j, U', hj, rfl, hm, hu, hB⟩ := hrel
    have HM := Lib.hid hm
    have HU := Lib.hid hu
    have HB := Lib.hid hB
    have hml := hm.lt
    have hsr := hB.size
    clear hm hu hB
    by_cases hlt : j < k
    · have hmk := run_make_one (w := wr) 39 5 (.int .u8 0) 1 Tryz.underlying39 infoB rfl (by omega) k (by omega)
      have o1 : wr.cell? ⟨gm, j, none⟩ = some (.slice (some ⟨(U' j).1, 0, none⟩) k (U' j).2) := by have := HM.out.out hlt; simpa using this
      have o2 := HM.out.fz j
      have kB := Kept.alloc (fun _ => False) wr (.cells ((Array.replicate k (.int .u8 0)).setIfInBounds j (.int .u8 1)) 5)
      have hz : RowF (wr.alloc (.cells ((Array.replicate k (.int .u8 0)).setIfInBounds j (.int .u8 1)) 5)) wr.heap.size ((List.replicate k 0).set j 1) := by
        refine (heap_alloc_new wr _).trans ?_
        rw [List.map_set, show (List.replicate k (0 : B)).map bv = List.replicate k (.int .u8 0) from by rw [List.map_replicate]; rfl]
        rw [show bv 1 = .int .u8 1 from rfl]
        congr 2
        rw [← Array.toList_inj]
        simp
      have HZ := Lib.hid hz
      have HM3 := Lib.hid (HM.out.kept kB (fun _ _ h => h))
      have sB : wr.heap.size + 1 = (wr.alloc (.cells ((Array.replicate k (.int .u8 0)).setIfInBounds j (.int .u8 1)) 5)).heap.size := by simp
      have hrow := HM3.out.row j hlt
      simp only [Nat.lt_irrefl, if_false] at hrow
      have HOW := Lib.hid (hrow.owns (base := w.heap.size) (HU.out _ (.inr ⟨j, hlt, rfl⟩)))
      rw [rowL_len] at HOW
      have hul := hrow.lt
      have HBS := Lib.hid (beside_row (k := k) (r := j) (lsM ls))
      clear hz hrow
      go_wp2_with (at_builtin; refine app_bytes 39 Tryz.underlying39 rfl _ _ rfl w.heap.size k k _ _ _ (rowL_len k _) (unit_len k j) rfl HOW.out wr.heap.size 0 k rfl (fun i hi => by rw [Nat.zero_add]; exact HZ.out.cell (by rw [unit_len]; exact hi)) (by omega) (by omega) (by simp; omega) ?_; intro g' c' w3 hr3 hb3 hk3 hg3; rw [HBS.out] at hr3; have hne := HM.out.ne j hlt; have hgm3 := (hk3.block gm (by omega) (fun h => hne (own_is h))); have x1 : w3.cell? ⟨gm, j, none⟩ = some (.slice (some ⟨(U' j).1, 0, none⟩) k (U' j).2) := (World.cell?_of_block (w := wr.alloc (.cells ((Array.replicate k (.int .u8 0)).setIfInBounds j (.int .u8 1)) 5)) (a := ⟨gm, j, none⟩) hgm3).trans ((kB.at0 j (b := gm) hml).trans o1); have x2 : w3.frozen? ⟨gm, j, none⟩ = false := by (have q := World.frozen?_of_block (w := wr.alloc (.cells ((Array.replicate k (.int .u8 0)).setIfInBounds j (.int .u8 1)) 5)) (a := ⟨gm, j, none⟩) hgm3; rw [q]; exact HM3.out.fz j))
      go_roundw
      case rel =>
        have hg' : g' ≠ gm := by
          rcases hg3 with h | h
          · rw [← own_is h]; exact HM.out.ne j hlt
          · omega
        have hp := HM3.out.put (j := j) (g := g') (cp := c') (wd := k + k) (f := besideM k (lsM ls) j) hlt hk3 (fun h => HM.out.ne j hlt (own_is h)) (fun r hr hrj h => hrj (HM.out.inj r j hr hlt (own_is h).symm)) hg'
          (fun r hr hrj e => by
            rcases hg3 with h | h
            · exact hrj (HM.out.inj r j hr hlt (e.trans (own_is h).symm))
            · have := (HM.out.row r hr).lt; omega) hr3
        refine ⟨j + 1, _, by omega, by go_num, hp.congr (fun r hr => ?_) (fun r c hr _ => ?_), fun i hi => ?_, ?_⟩
        · by_cases e : r = j
          · subst e; simp
          · simp only [if_neg e]
            by_cases q : r < j
            · rw [if_pos q, if_pos (by omega)]
            · rw [if_neg q, if_neg (by omega)]
        · by_cases e : r = j
          · subst e; simp
          · simp only [if_neg e]
            by_cases q : r < j
            · rw [if_pos q, if_pos (by omega)]
            · rw [if_neg q, if_neg (by omega)]
        · rcases hi with h | ⟨r, hr, h⟩
          · exact HU.out i (.inl h)
          · by_cases e : r = j
            · simp only [if_pos e] at h; omega
            · simp only [if_neg e] at h; exact HU.out i (.inr ⟨r, hr, h⟩)
        · refine (HB.out.alloc hsr _).trans ((hk3.toBelow (by omega) (fun i h => ?_)).trans ((Kept.set1 w3 gm j _).toBelow (by have := hk3.size; omega) (fun i h => ?_)))
          · rw [← own_is h]; exact HU.out _ (.inr ⟨j, hlt, rfl⟩)
          · rw [h]; exact hgm
      case measure => simp [intOf]; omega
    · obtain rfl : j = k := by omega
      have HW2 := Lib.hid ((HM.out.toW (wd := j + j) (fun r hr => if_pos hr)).congr (M' := besideM j (lsM ls)) (fun r c hr _ => if_pos hr))
      have HD := Lib.hid (Done.start (k := j) (A := lsM ls) (M := besideM j (lsM ls)) HKER.out (fun r c hr hc => by unfold besideM; rw [if_pos hc]) (fun r s hr hs => by unfold besideM; rw [if_neg (by omega), show j + s - j = s by omega]; by_cases e : s = r; rw [if_pos e, if_pos e.symm]; rw [if_neg e, if_neg (fun q => e q.symm)]))
      obtain ⟨Cq, hCq1, hCq2, _⟩ := HM.out.outer
      have HCQ := Lib.hid hCq1
      have HCQ2 := Lib.hid hCq2
      have hUL : ∀ i, matB gm j U' i → i < wr.heap.size := fun i h => by
        rcases h with h | ⟨r, hr, h⟩
        · omega
        · have := (HM.out.row r hr).lt; omega
      have HUL := Lib.hid hUL
      clear hCq1 hCq2 hUL
      go_wp2_with fail
      refine (fnew_any wr).mono ?_
      rintro e w4 ⟨bf, rfl, hf, hbf, hB4⟩
      have HF := Lib.hid hf
      have HW4 := Lib.hid (HW2.out.kept (Kept.below hB4) (fun _ _ h => h))
      have HCQ4 := Lib.hid ((hB4.block gm hml).trans HCQ.out)
      have HB4 := Lib.hid (below_more HB.out hB4 hsr)
      have s4 := hB4.size
      clear hf hB4
      go_wp2_with fail
      refine (steps_any w4 bf gm j j U' (lsM ls) _ HF.out HW4.out HD.out h2 (Nat.le_refl _) (fun h => by have := HUL.out _ h; omega)).mono ?_
      rintro e w5 ⟨rfl, ⟨U5, M5, hm5, hd5, hu5⟩, hk5⟩
      have HM5 := Lib.hid hm5
      have HC5 := Lib.hid (fun (r s : Nat) (hr : r < j) (hs : s < j) => hd5.all HCC.out hr hs)
      have HU5 := Lib.hid (show ∀ i, matB gm j U5 i → w.heap.size ≤ i from fun i h => HU.out i (hu5 i h))
      have HB5 := Lib.hid (HB4.out.trans (hk5.toBelow (by omega) (fun i h => HU.out i h)))
      have s5 := hk5.size
      clear hm5 hd5 hu5 hk5
      obtain ⟨C5, hC51, hC52, _⟩ := HM5.out.outer
      have HV5 := Lib.hid (HM5.out.toV hC51 hC52)
      clear hC51 hC52
      go_wp2
      go_loopw [7, 52] (fun _ i wi => ∃ (r : Nat) (U6 : Nat → Nat × Nat), r ≤ j ∧ i = .int .i64 (r : Int) ∧ MatV wi gm j (fun i => if i < r then j else j + j) U6 (fun i c => if i < r then C i c else M5 i c) ∧ (∀ i, matB gm j U6 i → w.heap.size ≤ i) ∧ Below w.heap.size w wi) (fun _ i _ => j - (intOf i).toNat)
      case atStart => exact ⟨0, U5, Nat.zero_le _, rfl, HV5.out.congr (fun r _ => by simp) (fun r c _ _ => by simp), HU5.out, HB5.out⟩
      case round =>
        obtain ⟨r, U6, hr, rfl, hm6, hu6, hB6⟩ := hrel
        have HM6 := Lib.hid hm6
        have HU6 := Lib.hid hu6
        have HB6 := Lib.hid hB6
        have hml6 := hm6.lt
        have hs6 := hB6.size
        clear hm6 hu6 hB6
        by_cases hlr : r < j
        · have o1 : wr.cell? ⟨gm, r, none⟩ = some (.slice (some ⟨(U6 r).1, 0, none⟩) (j + j) (U6 r).2) := by have := HM6.out.out hlr; simpa using this
          have o2 := HM6.out.fz r
          have hrow := HM6.out.row r hlr
          simp only [Nat.lt_irrefl, if_false] at hrow
          obtain ⟨_, _, _, hcap, _, _⟩ := hrow
          rw [rowL_len] at hcap
          have hrow := HM6.out.row r hlr
          simp only [Nat.lt_irrefl, if_false] at hrow
          have HCL := Lib.hid (fun i (hi : i < j) => show wr.cell? ⟨(U6 r).1, j + i, none⟩ = some (bv ((rowL j (C r)).getD i 0)) from by
            have := hrow.cell (i := j + i) (by rw [rowL_len]; omega)
            rw [rowL_get _ (by omega)] at this
            rw [this, rowL_get _ hi, HC5.out r i hlr hi])
          have c1 : j < (U6 r).2 := by omega
          have c2 : j ≤ (U6 r).2 := by omega
          have c3 : j ≤ j + j := by omega
          clear hrow
          go_wp2_with fail
          refine (clone_any _ (U6 r).1 j j _ (rowL j (C r)) (rowL_len _ _) (by omega) (by omega) HCL.out).mono ?_
          rintro e w7 ⟨g, c7, rfl, hr7, hg7, hB7⟩
          have k7 := Kept.below hB7
          have HM7 := Lib.hid (HM6.out.kept k7 (fun _ _ h => h))
          have x1 := (k7.at0 r (b := gm) hml6).trans o1
          have x2 := HM7.out.fz r
          have s7 := hB7.size
          have hg' : g ≠ gm := by omega
          have HP := Lib.hid (HM6.out.put (j := r) (g := g) (cp := c7) (wd := j) (f := C r) hlr k7 (fun h => h) (fun _ _ _ h => h) hg' (fun i hi _ e => by have := (HM6.out.row i hi).lt; omega) hr7)
          have HB7 := Lib.hid ((below_more HB6.out hB7 hs6).trans ((Kept.set1 w7 gm r (.slice (some ⟨g, 0, none⟩) j c7)).toBelow (by omega) (fun i h => by rw [h]; exact hgm)))
          clear hr7 hB7 k7
          go_wp2
          go_roundw
          case rel =>
            refine ⟨r + 1, _, by omega, by go_num, HP.out.congr (fun i hi => ?_) (fun i c hi _ => ?_), fun i hi => ?_, HB7.out⟩
            · by_cases e : i = r
              · subst e; simp
              · simp only [if_neg e]
                by_cases q : i < r
                · rw [if_pos q, if_pos (by omega)]
                · rw [if_neg q, if_neg (by omega)]
            · by_cases e : i = r
              · subst e; simp
              · simp only [if_neg e]
                by_cases q : i < r
                · rw [if_pos q, if_pos (by omega)]
                · rw [if_neg q, if_neg (by omega)]
            · rcases hi with h | ⟨i', hr, h⟩
              · exact HU6.out i (.inl h)
              · by_cases e : i' = r
                · simp only [if_pos e] at h; omega
                · simp only [if_neg e] at h; exact HU6.out i (.inr ⟨i', hr, h⟩)
          case measure => simp [intOf]; omega
        · obtain rfl : r = j := by omega
          have HEND := Lib.hid ((HM6.out.congr (W' := fun _ => r) (M' := C) (fun i hi => if_pos hi) (fun i c hi _ => if_pos hi)).toW (fun _ _ => rfl))
          go_wp2
          go_ret2
          exact ⟨gm, U6, rfl, HEND.out, HU6.out, HB6.out⟩

end Go.Proofs.YtojbbmfndlcgkaaGreat
