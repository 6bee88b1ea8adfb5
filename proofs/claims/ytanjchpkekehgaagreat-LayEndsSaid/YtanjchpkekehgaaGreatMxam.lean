/-
  CodeRf: Walk of layer 3 (rows): Inverse.
  OwnA: Rows of bytes, each in a block of its own: no two in one.
-/
import Derived.Test.YtanjchpkekehgaaGreatMxal
import Derived.Test.YtanjchpkekehgaaGreatMxae
import Derived.Test.YtanjchpkekehgaaGreatMxah
namespace Go.Proofs.YtanjchpkekehgaaGreat

section -- CodeRf
open Go.RowKit Go.Maps
set_option linter.unusedVariables false
set_option linter.unusedSimpArgs false
set_option maxRecDepth 100000
set_option maxHeartbeats 4000000

/-- The unit beside a matrix. -/
def besideM (k : Nat) (A : Nat → Nat → B) (r j : Nat) : B := if j < k then A r j else if j - k = r then 1 else 0

theorem unit_len (k j : Nat) : ((List.replicate k (0 : B)).set j 1).length = k := by simp
theorem beside_row {k r : Nat} (A : Nat → Nat → B) : rowL k (A r) ++ (List.replicate k (0 : B)).set r 1 = rowL (k + k) (besideM k A r) := by
  apply List.ext_getElem
  · simp [rowL]
  · intro i h1 h2
    simp only [rowL, List.getElem_map, List.getElem_range, besideM]
    by_cases e : i < k
    · rw [if_pos e, List.getElem_append_left (by simpa [rowL] using e)]
      simp
    · rw [if_neg e, List.getElem_append_right (by simp [rowL]; omega)]
      simp only [List.length_map, List.length_range, List.getElem_set, List.getElem_replicate]
      by_cases q : r = i - k
      · rw [if_pos q, if_pos q.symm]
      · rw [if_neg q, if_neg (fun e => q e.symm)]

theorem inverse_any (w : World) (v : Value) (ls : List (List B)) (k : Nat) (hl : RowsAt w v ls) (hk : ls.length = k) (h1 : 1 ≤ k) (h2 : k ≤ 255) (hwd : ∀ i, i < ls.length → (ls.getD i []).length = k)
    (C : Nat → Nat → B) (hker : ∀ x : Nat → B, (∀ r, r < k → sm k (fun j => lsM ls r j * x j) = 0) → ∀ j, j < k → x j = 0) (hC : ∀ t s, t < k → s < k → sm k (fun j => lsM ls t j * C j s) = if t = s then 1 else 0) :
    Calls Tryz.prog 107 #[v] w fun e w' => ∃ gm U, e = .returned (.tuple #[.slice (some ⟨gm, 0, none⟩) k k, .int .i64 0]) ∧ MatW w' gm k k U C ∧ (∀ i, matB gm k U i → w.heap.size ≤ i) ∧ Below w.heap.size w w' := by
  have HL := Lib.hid hl
  have HWD := Lib.hid hwd
  have HKER := Lib.hid hker
  have HCC := Lib.hid hC
  have HLK := Lib.hid hk
  have HCP := Lib.hid (copied_any w v ls k k hl hk (by omega) hwd (by omega))
  have HRI := Lib.hid (rright_any w v ls k hl (by omega) (by omega) hwd (by omega))
  have HWI := Lib.hid (wide_any w v ls k hl (by omega) (by omega) hwd)
  obtain ⟨pl, cl, hv⟩ := hl.shape
  rw [hk] at hv
  subst hv
  clear hl hwd hker hC hk
  go_enter Tryz.func107, Tryz.ntmps107
  go_wp2_with fail
  refine HRI.out.mono ?_
  rintro e w' ⟨rfl, rfl⟩
  go_wp2_with fail
  refine HWI.out.mono ?_
  rintro e w' ⟨rfl, rfl⟩
  go_wp2_with fail
  refine HCP.out.mono ?_
  rintro e w1 ⟨gm, U, rfl, hM, hgm, hU, hB1, Cc, hCc, hCs⟩
  have HV1 := Lib.hid (hM.toV hCc hCs)
  have HU1 := Lib.hid (show ∀ i, matB gm k U i → w.heap.size ≤ i from fun i h => by
    rcases h with rfl | ⟨r, hr, rfl⟩
    · exact hgm
    · exact (hU r hr).2)
  have HB1 := Lib.hid hB1
  clear hM hU hB1 hCc hCs
  go_wp2
  go_loopw [5, 6, 22] (fun _ _ i wr => ∃ (j : Nat) (U' : Nat → Nat × Nat), j ≤ k ∧ i = .int .i64 (j : Int) ∧ MatV wr gm k (fun r => if r < j then k + k else k) U' (fun r c => if r < j then besideM k (lsM ls) r c else lsM ls r c) ∧ (∀ i, matB gm k U' i → w.heap.size ≤ i) ∧ Below w.heap.size w wr) (fun _ _ i _ => k - (intOf i).toNat)
  case atStart => exact ⟨0, U, Nat.zero_le _, rfl, HV1.out.congr (fun r _ => by simp) (fun r j _ _ => by simp), HU1.out, HB1.out⟩
  case round =>
    obtain ⟨j, U', hj, rfl, hm, hu, hB⟩ := hrel
    have HM := Lib.hid hm
    have HU := Lib.hid hu
    have HB := Lib.hid hB
    have hml := hm.lt
    have hsr := hB.size
    clear hm hu hB
    by_cases hlt : j < k
    · have hmk := run_make_one (w := wr) 50 5 (.int .u8 0) 1 Tryz.underlying50 infoB rfl (by omega) k (by omega)
      have o1 : wr.cell? ⟨gm, j, none⟩ = some (.slice (some ⟨(U' j).1, 0, none⟩) k (U' j).2) := by have := HM.out.out hlt; simpa using this
      have o2 := HM.out.fz j
      have kB := Kept.alloc (fun _ => False) wr (.cells ((Array.replicate k (.int .u8 0)).setIfInBounds j (.int .u8 1)) 5)
      have hz : RowF (wr.alloc (.cells ((Array.replicate k (.int .u8 0)).setIfInBounds j (.int .u8 1)) 5)) wr.heap.size ((List.replicate k 0).set j 1) := by
        refine (heap_alloc_new wr _).trans ?_
        rw [List.map_set, show (List.replicate k (0 : B)).map bv = List.replicate k (.int .u8 0) from by rw [List.map_replicate]; rfl]
        rw [show bv 1 = .int .u8 1 from rfl]
        congr 2
        rw [← Array.toList_inj]
        simp
      have HZ := Lib.hid hz
      have HM3 := Lib.hid (HM.out.kept kB (fun _ _ h => h))
      have sB : wr.heap.size + 1 = (wr.alloc (.cells ((Array.replicate k (.int .u8 0)).setIfInBounds j (.int .u8 1)) 5)).heap.size := by simp
      have hrow := HM3.out.row j hlt
      simp only [Nat.lt_irrefl, if_false] at hrow
      have HOW := Lib.hid (hrow.owns (base := w.heap.size) (HU.out _ (.inr ⟨j, hlt, rfl⟩)))
      rw [rowL_len] at HOW
      have hul := hrow.lt
      have HBS := Lib.hid (beside_row (k := k) (r := j) (lsM ls))
      clear hz hrow
      go_wp2_with (at_builtin; refine app_bytes 50 Tryz.underlying50 rfl _ _ rfl w.heap.size k k _ _ _ (rowL_len k _) (unit_len k j) rfl HOW.out wr.heap.size 0 k rfl (fun i hi => by rw [Nat.zero_add]; exact HZ.out.cell (by rw [unit_len]; exact hi)) (by omega) (by omega) (by simp; omega) ?_; intro g' c' w3 hr3 hb3 hk3 hg3; rw [HBS.out] at hr3; have hne := HM.out.ne j hlt; have hgm3 := (hk3.block gm (by omega) (fun h => hne (own_is h))); have x1 : w3.cell? ⟨gm, j, none⟩ = some (.slice (some ⟨(U' j).1, 0, none⟩) k (U' j).2) := (World.cell?_of_block (w := wr.alloc (.cells ((Array.replicate k (.int .u8 0)).setIfInBounds j (.int .u8 1)) 5)) (a := ⟨gm, j, none⟩) hgm3).trans ((kB.at0 j (b := gm) hml).trans o1); have x2 : w3.frozen? ⟨gm, j, none⟩ = false := by (have q := World.frozen?_of_block (w := wr.alloc (.cells ((Array.replicate k (.int .u8 0)).setIfInBounds j (.int .u8 1)) 5)) (a := ⟨gm, j, none⟩) hgm3; rw [q]; exact HM3.out.fz j))
      go_roundw
      case rel =>
        have hg' : g' ≠ gm := by
          rcases hg3 with h | h
          · rw [← own_is h]; exact HM.out.ne j hlt
          · omega
        have hp := HM3.out.put (j := j) (g := g') (cp := c') (wd := k + k) (f := besideM k (lsM ls) j) hlt hk3 (fun h => HM.out.ne j hlt (own_is h)) (fun r hr hrj h => hrj (HM.out.inj r j hr hlt (own_is h).symm)) hg'
          (fun r hr hrj e => by
            rcases hg3 with h | h
            · exact hrj (HM.out.inj r j hr hlt (e.trans (own_is h).symm))
            · have := (HM.out.row r hr).lt; omega) hr3
        refine ⟨j + 1, _, by omega, by go_num, hp.congr (fun r hr => ?_) (fun r c hr _ => ?_), fun i hi => ?_, ?_⟩
        · by_cases e : r = j
          · subst e; simp
          · simp only [if_neg e]
            by_cases q : r < j
            · rw [if_pos q, if_pos (by omega)]
            · rw [if_neg q, if_neg (by omega)]
        · by_cases e : r = j
          · subst e; simp
          · simp only [if_neg e]
            by_cases q : r < j
            · rw [if_pos q, if_pos (by omega)]
            · rw [if_neg q, if_neg (by omega)]
        · rcases hi with h | ⟨r, hr, h⟩
          · exact HU.out i (.inl h)
          · by_cases e : r = j
            · simp only [if_pos e] at h; omega
            · simp only [if_neg e] at h; exact HU.out i (.inr ⟨r, hr, h⟩)
        · refine (HB.out.alloc hsr _).trans ((hk3.toBelow (by omega) (fun i h => ?_)).trans ((Kept.set1 w3 gm j _).toBelow (by have := hk3.size; omega) (fun i h => ?_)))
          · rw [← own_is h]; exact HU.out _ (.inr ⟨j, hlt, rfl⟩)
          · rw [h]; exact hgm
      case measure => simp [intOf]; omega
    · obtain rfl : j = k := by omega
      have HW2 := Lib.hid ((HM.out.toW (wd := j + j) (fun r hr => if_pos hr)).congr (M' := besideM j (lsM ls)) (fun r c hr _ => if_pos hr))
      have HD := Lib.hid (Done.start (k := j) (A := lsM ls) (M := besideM j (lsM ls)) HKER.out (fun r c hr hc => by unfold besideM; rw [if_pos hc]) (fun r s hr hs => by unfold besideM; rw [if_neg (by omega), show j + s - j = s by omega]; by_cases e : s = r; rw [if_pos e, if_pos e.symm]; rw [if_neg e, if_neg (fun q => e q.symm)]))
      obtain ⟨Cq, hCq1, hCq2, _⟩ := HM.out.outer
      have HCQ := Lib.hid hCq1
      have HCQ2 := Lib.hid hCq2
      have hUL : ∀ i, matB gm j U' i → i < wr.heap.size := fun i h => by
        rcases h with h | ⟨r, hr, h⟩
        · omega
        · have := (HM.out.row r hr).lt; omega
      have HUL := Lib.hid hUL
      clear hCq1 hCq2 hUL
      go_wp2_with fail
      refine (fnew_any wr).mono ?_
      rintro e w4 ⟨bf, rfl, hf, hbf, hB4⟩
      have HF := Lib.hid hf
      have HW4 := Lib.hid (HW2.out.kept (Kept.below hB4) (fun _ _ h => h))
      have HCQ4 := Lib.hid ((hB4.block gm hml).trans HCQ.out)
      have HB4 := Lib.hid (below_more HB.out hB4 hsr)
      have s4 := hB4.size
      clear hf hB4
      go_wp2_with fail
      refine (steps_any w4 bf gm j j U' (lsM ls) _ HF.out HW4.out HD.out h2 (Nat.le_refl _) (fun h => by have := HUL.out _ h; omega)).mono ?_
      rintro e w5 ⟨rfl, ⟨U5, M5, hm5, hd5, hu5⟩, hk5⟩
      have HM5 := Lib.hid hm5
      have HC5 := Lib.hid (fun (r s : Nat) (hr : r < j) (hs : s < j) => hd5.all HCC.out hr hs)
      have HU5 := Lib.hid (show ∀ i, matB gm j U5 i → w.heap.size ≤ i from fun i h => HU.out i (hu5 i h))
      have HB5 := Lib.hid (HB4.out.trans (hk5.toBelow (by omega) (fun i h => HU.out i h)))
      have s5 := hk5.size
      clear hm5 hd5 hu5 hk5
      obtain ⟨C5, hC51, hC52, _⟩ := HM5.out.outer
      have HV5 := Lib.hid (HM5.out.toV hC51 hC52)
      clear hC51 hC52
      go_wp2
      go_loopw [7, 52] (fun _ i wi => ∃ (r : Nat) (U6 : Nat → Nat × Nat), r ≤ j ∧ i = .int .i64 (r : Int) ∧ MatV wi gm j (fun i => if i < r then j else j + j) U6 (fun i c => if i < r then C i c else M5 i c) ∧ (∀ i, matB gm j U6 i → w.heap.size ≤ i) ∧ Below w.heap.size w wi) (fun _ i _ => j - (intOf i).toNat)
      case atStart => exact ⟨0, U5, Nat.zero_le _, rfl, HV5.out.congr (fun r _ => by simp) (fun r c _ _ => by simp), HU5.out, HB5.out⟩
      case round =>
        obtain ⟨r, U6, hr, rfl, hm6, hu6, hB6⟩ := hrel
        have HM6 := Lib.hid hm6
        have HU6 := Lib.hid hu6
        have HB6 := Lib.hid hB6
        have hml6 := hm6.lt
        have hs6 := hB6.size
        clear hm6 hu6 hB6
        by_cases hlr : r < j
        · have o1 : wr.cell? ⟨gm, r, none⟩ = some (.slice (some ⟨(U6 r).1, 0, none⟩) (j + j) (U6 r).2) := by have := HM6.out.out hlr; simpa using this
          have o2 := HM6.out.fz r
          have hrow := HM6.out.row r hlr
          simp only [Nat.lt_irrefl, if_false] at hrow
          obtain ⟨_, _, _, hcap, _, _⟩ := hrow
          rw [rowL_len] at hcap
          have hrow := HM6.out.row r hlr
          simp only [Nat.lt_irrefl, if_false] at hrow
          have HCL := Lib.hid (fun i (hi : i < j) => show wr.cell? ⟨(U6 r).1, j + i, none⟩ = some (bv ((rowL j (C r)).getD i 0)) from by
            have := hrow.cell (i := j + i) (by rw [rowL_len]; omega)
            rw [rowL_get _ (by omega)] at this
            rw [this, rowL_get _ hi, HC5.out r i hlr hi])
          have c1 : j < (U6 r).2 := by omega
          have c2 : j ≤ (U6 r).2 := by omega
          have c3 : j ≤ j + j := by omega
          clear hrow
          go_wp2_with fail
          refine (clone_any _ (U6 r).1 j j _ (rowL j (C r)) (rowL_len _ _) (by omega) (by omega) HCL.out).mono ?_
          rintro e w7 ⟨g, c7, rfl, hr7, hg7, hB7⟩
          have k7 := Kept.below hB7
          have HM7 := Lib.hid (HM6.out.kept k7 (fun _ _ h => h))
          have x1 := (k7.at0 r (b := gm) hml6).trans o1
          have x2 := HM7.out.fz r
          have s7 := hB7.size
          have hg' : g ≠ gm := by omega
          have HP := Lib.hid (HM6.out.put (j := r) (g := g) (cp := c7) (wd := j) (f := C r) hlr k7 (fun h => h) (fun _ _ _ h => h) hg' (fun i hi _ e => by have := (HM6.out.row i hi).lt; omega) hr7)
          have HB7 := Lib.hid ((below_more HB6.out hB7 hs6).trans ((Kept.set1 w7 gm r (.slice (some ⟨g, 0, none⟩) j c7)).toBelow (by omega) (fun i h => by rw [h]; exact hgm)))
          clear hr7 hB7 k7
          go_wp2
          go_roundw
          case rel =>
            refine ⟨r + 1, _, by omega, by go_num, HP.out.congr (fun i hi => ?_) (fun i c hi _ => ?_), fun i hi => ?_, HB7.out⟩
            · by_cases e : i = r
              · subst e; simp
              · simp only [if_neg e]
                by_cases q : i < r
                · rw [if_pos q, if_pos (by omega)]
                · rw [if_neg q, if_neg (by omega)]
            · by_cases e : i = r
              · subst e; simp
              · simp only [if_neg e]
                by_cases q : i < r
                · rw [if_pos q, if_pos (by omega)]
                · rw [if_neg q, if_neg (by omega)]
            · rcases hi with h | ⟨i', hr, h⟩
              · exact HU6.out i (.inl h)
              · by_cases e : i' = r
                · simp only [if_pos e] at h; omega
                · simp only [if_neg e] at h; exact HU6.out i (.inr ⟨i', hr, h⟩)
          case measure => simp [intOf]; omega
        · obtain rfl : r = j := by omega
          have HEND := Lib.hid ((HM6.out.congr (W' := fun _ => r) (M' := C) (fun i hi => if_pos hi) (fun i c hi _ => if_pos hi)).toW (fun _ _ => rfl))
          go_wp2
          go_ret2
          exact ⟨gm, U6, rfl, HEND.out, HU6.out, HB6.out⟩
end -- CodeRf

section -- OwnA
open Go.RowKit Go.Maps
set_option linter.unusedVariables false

/-- A slice of bytes that owns its block. -/
def Own (w : World) (base : Nat) (v : Value) (l : List B) : Prop := w.ownsRow base 5 1 v l.length (l.map bv)

section
variable {w w' : World} {base : Nat} {v : Value} {l : List B}
theorem Own.bytes (h : Own w base v l) : BytesAt w v l := BytesAt.of_owns h
theorem Own.kept {S : Nat → Prop} (h : Own w base v l) (hk : Kept S w w') (hS : ∀ b, v.ownBlock = some b → ¬ S b) : Own w' base v l := ownsRow_keptS h hk hS
theorem Own.below (h : Own w base v l) (hb : Below w.heap.size w w') : Own w' base v l := h.kept (Kept.below hb) (fun _ _ h => h)
theorem Own.blk (h : Own w base v l) : ∀ b, v.ownBlock = some b → base ≤ b ∧ b < w.heap.size := World.ownsRow.lt h
theorem Own.weaken {base' : Nat} (h : Own w base v l) (hb : base' ≤ base) : Own w base' v l := ownsRow_weaken h hb
theorem Own.nil (w : World) (base : Nat) : Own w base (.slice none 0 0) [] := World.ownsRow_nil _ _ _ _
theorem Own.shape (h : Own w base v l) : ∃ p c, v = .slice p l.length c := h.bytes.shape
theorem Own.row (h : Own w base v l) (hl : 0 < l.length) : ∃ g c, v = .slice (some ⟨g, 0, none⟩) l.length c ∧ base ≤ g ∧ RowC w g c l := by
  have h' := h
  obtain ⟨h0, h1⟩ := h
  rcases h1 with ⟨_, hz⟩ | ⟨g, cap, cur, e, h2, h3, h4, h5, h6, h7⟩
  · omega
  · exact ⟨g, cap, e, h2, RowC.of_owns (base := base) (by rw [← e]; exact h')⟩
theorem RowF.own {g : Nat} (h : RowF w g l) (hb : base ≤ g) (hl : l.length ≤ maxLen) : Own w base (.slice (some ⟨g, 0, none⟩) l.length l.length) l := (h.toC hl).owns hb
theorem RowC.own {g c : Nat} (h : RowC w g c l) (hb : base ≤ g) : Own w base (.slice (some ⟨g, 0, none⟩) l.length c) l := h.owns hb
theorem Own.alloc (h : Own w base v l) (x : Obj) : Own (w.alloc x) base v l := h.kept (Kept.alloc (fun _ => False) w x) (fun _ _ h => h)
theorem Own.set (h : Own w base v l) {i : Nat} (hi : i < l.length) {g c : Nat} (e : v = .slice (some ⟨g, 0, none⟩) l.length c) (x : B) : Own (w.setCell ⟨g, i, none⟩ (bv x)) base v (l.set i x) := by
  subst e
  have hb := (h.blk g (by simp [Value.ownBlock])).1
  have := (RowC.of_owns h).set hi x
  have h2 := this.own hb
  rwa [List.length_set] at h2
end

/-- Rows that are owned, each one in a block that is no other's. -/
def RowsLone (w : World) (base : Nat) (v : Value) (ls : List (List B)) : Prop := ∃ us, w.ownsRow base 50 1 v ls.length us ∧
  (∀ i u, us[i]? = some u → Own w base u (ls.getD i []) ∧ ∀ b, u.ownBlock = some b → v.ownBlock ≠ some b) ∧
  ∀ (i j : Nat) (u z : Value) (b : Nat), us[i]? = some u → us[j]? = some z → u.ownBlock = some b → z.ownBlock = some b → i = j

section
variable {w w' : World} {base : Nat} {v : Value} {ls : List (List B)}
theorem RowsLone.nil (w : World) (base : Nat) : RowsLone w base (.slice none 0 0) [] := ⟨[], World.ownsRow_nil _ _ _ _, fun i u h => by simp at h, fun i j u z b h => by simp at h⟩
theorem RowsLone.own (h : RowsLone w base v ls) : RowsOwn w base v ls := by
  obtain ⟨us, h1, h2, h3⟩ := h
  exact ⟨us, h1, fun i u hi => ⟨(h2 i u hi).1.bytes, fun b hb => ⟨((h2 i u hi).1.blk b hb).2, (h2 i u hi).2 b hb⟩⟩⟩
theorem RowsLone.rows (h : RowsLone w base v ls) : RowsAt w v ls := h.own.rows
theorem RowsLone.lt (h : RowsLone w base v ls) : ∀ k, v.ownBlock = some k → base ≤ k ∧ k < w.heap.size := h.own.lt
theorem RowsLone.kept {S : Nat → Prop} (h : RowsLone w base v ls) (hk : Kept S w w') (hS : ∀ k, k < w.heap.size → base ≤ k → ¬ S k) : RowsLone w' base v ls := by
  obtain ⟨us, h1, h2, h3⟩ := h
  exact ⟨us, ownsRow_keptS h1 hk (fun g hg => hS g (h1.lt g hg).2 (h1.lt g hg).1), fun i u hi => ⟨(h2 i u hi).1.kept hk (fun b hb => hS b ((h2 i u hi).1.blk b hb).2 ((h2 i u hi).1.blk b hb).1), (h2 i u hi).2⟩, h3⟩
theorem RowsLone.below (h : RowsLone w base v ls) (hb : Below w.heap.size w w') : RowsLone w' base v ls := h.kept (Kept.below hb) (fun _ _ _ h => h)
theorem RowsLone.weaken {base' : Nat} (h : RowsLone w base v ls) (hb : base' ≤ base) : RowsLone w base' v ls := by
  obtain ⟨us, h1, h2, h3⟩ := h
  exact ⟨us, ownsRow_weaken h1 hb, fun i u hi => ⟨(h2 i u hi).1.weaken hb, (h2 i u hi).2⟩, h3⟩
end

/-- Append of a row that is new. -/
theorem app_lone {ops : Array Oper} {rest : List Oper} {o : Oper} {a : Act} {Q : Exit → Act → World → Prop} {W : World}
    (hgd : o.guard = none) (s x : Operand) (ho : o.op = .call { callee := .builtin .append, args := #[s, x], argTypes := #[22, 22] })
    (base n : Nat) (v : Value) (ls : List (List B)) (hln : ls.length = n) (W0 : World) (hB : Below W0.heap.size W0 W) (hown : RowsLone W0 base v ls) (u : Value) (l : List B) (hu : Own W W0.heap.size u l) (hone : u.oneCell' = true)
    (hs : a.eval s = v) (hx : a.eval x = .slice (some ⟨W.heap.size, 0, none⟩) 1 1) (hn : n < 1000000000000) (hbase : base ≤ W0.heap.size)
    (h : ∀ g' c' w', RowsLone w' base (.slice (some ⟨g', 0, none⟩) (n + 1) c') (ls ++ [l]) → Kept (fun k => v.ownBlock = some k) W w' → W.heap.size < w'.heap.size → (v.ownBlock = some g' ∨ W.heap.size < g') →
      wpList Tryz.prog ops Q rest (a.put o.dst (.slice (some ⟨g', 0, none⟩) (n + 1) c')) w') : wpList Tryz.prog ops Q (o :: rest) a (W.alloc (.cells #[u] 50)) := by
  subst hln
  have hv0 : ∀ k, v.ownBlock = some k → k < W0.heap.size := fun k hk => (hown.lt k hk).2
  have hsz := hB.size
  have hown' := hown.below hB
  obtain ⟨us, q1, q2, q3⟩ := hown
  have hr0 : ∀ (i : Nat) (z : Value), us[i]? = some z → ∀ b, z.ownBlock = some b → b < W0.heap.size := fun i z hi b hb => ((q2 i z hi).1.blk b hb).2
  have h1 := ownsRow_keptS q1 (Kept.below hB) (fun _ _ h => h)
  have h2 : ∀ i u, us[i]? = some u → Own W base u (ls.getD i []) ∧ ∀ b, u.ownBlock = some b → v.ownBlock ≠ some b := fun i z hi => ⟨(q2 i z hi).1.below hB, (q2 i z hi).2⟩
  have h3 := q3
  clear q1 q2 q3 hown'
  refine app_el 22 50 1 24 (.slice none 0 0) Tryz.underlying22 infoR rfl (by decide) hgd s x ho base ls.length v us hs h1 [u] rfl (by simpa using hone) hx hn (by omega) ?_
  intro g' c' w' ho' hk hs' hg'
  have hul : us.length = ls.length := by have := h1.1; omega
  have get : ∀ i z, (us ++ [u])[i]? = some z → (i < us.length ∧ us[i]? = some z) ∨ (i = us.length ∧ z = u) := by
    intro i z hi
    by_cases e : i < us.length
    · rw [List.getElem?_append_left e] at hi; exact .inl ⟨e, hi⟩
    · have hi' : i = us.length := by
        have := (List.getElem?_eq_some_iff.1 hi).1
        simp at this; omega
      subst hi'
      exact .inr ⟨rfl, by simpa using hi.symm⟩
  have old : ∀ b, v.ownBlock = some b ∨ W.heap.size < b → ∀ c, c < W.heap.size → v.ownBlock ≠ some c → b ≠ c := by
    intro b hb c hc hne e
    subst e
    rcases hb with q | q
    · exact hne q
    · omega
  refine h g' c' w' ⟨us ++ [u], by simpa using ho', fun i z hi => ?_, fun i j y z b hi hj hy hz => ?_⟩ hk hs' hg'
  · rcases get i z hi with ⟨e, hi⟩ | ⟨rfl, rfl⟩
    · obtain ⟨q1, q2⟩ := h2 i z hi
      rw [getD_snoc_lt (by omega)]
      refine ⟨q1.kept hk (fun b hb e => q2 b hb e), fun b hb e => ?_⟩
      exact old g' hg' b (q1.blk b hb).2 (q2 b hb) (by simpa [Value.ownBlock] using e)
    · rw [hul, getD_snoc_last]
      have q2 : ∀ b, z.ownBlock = some b → v.ownBlock ≠ some b := fun b hb e => by have := (hu.blk b hb).1; have := hv0 b e; omega
      refine ⟨(hu.kept hk (fun b hb e => q2 b hb e)).weaken hbase, fun b hb e => ?_⟩
      exact old g' hg' b (hu.blk b hb).2 (q2 b hb) (by simpa [Value.ownBlock] using e)
  · rcases get i y hi with ⟨e1, hi'⟩ | ⟨ei, ey⟩ <;> rcases get j z hj with ⟨e2, hj'⟩ | ⟨ej, ez⟩
    · exact h3 i j y z b hi' hj' hy hz
    · have := hr0 i y hi' b hy
      subst ez
      have := (hu.blk b hz).1
      omega
    · have := hr0 j z hj' b hz
      subst ey
      have := (hu.blk b hy).1
      omega
    · rw [ei, ej]
end -- OwnA

end Go.Proofs.YtanjchpkekehgaaGreat
