/-
  CodeLc: Walks of layer 4 (lagr): Table; code.New.
  CodeQa: Walks of layer 5 (code): mix.
-/
import Derived.Test.YtanjchpkekehgaaGreatMxaj
namespace Go.Proofs.YtanjchpkekehgaaGreat

section -- CodeLc
open Go.RowKit Go.Maps
set_option linter.unusedVariables false
set_option maxRecDepth 100000
set_option maxHeartbeats 2000000

/-- The weights of the first n bytes by the first k. -/
def tblL (k n : Nat) : List (List B) := (List.range n).map fun i => wtsL (ptsL k) (ofB i)
theorem tblL_len (k n : Nat) : (tblL k n).length = n := by simp [tblL]
theorem tblL_succ (k n : Nat) : tblL k (n + 1) = tblL k n ++ [wtsL (ptsL k) (ofB n)] := by simp [tblL, List.range_succ]
theorem ptsL_succ (k : Nat) : ptsL (k + 1) = ptsL k ++ [ofB k] := by simp [ptsL, List.range_succ]
theorem ofB_v {k : Nat} (h : k < 256) : (ofB k).v = k := by simp only [ofB]; omega
theorem tblL_get {k n i : Nat} (h : i < n) : (tblL k n).getD i [] = wtsL (ptsL k) (ofB i) := getD_range _ _ h

theorem table_bad (w : World) (k n : Int) (h : k < 1 ∨ n < k ∨ 255 < n) :
    Calls Tryz.prog 63 #[.int .i64 k, .int .i64 n] w fun e w' => e = .returned (.tuple #[.slice none 0 0, .int .i64 2]) ∧ w = w' := by
  by_cases h1 : k < 1
  · go_enter Tryz.func63, Tryz.ntmps63
    go_wp2
    go_ret2
    exact ⟨rfl, rfl⟩
  · have e1 : decide (k < 1) = false := by simpa using h1
    by_cases h2 : n < k
    · go_enter Tryz.func63, Tryz.ntmps63
      go_wp2
      go_ret2
      exact ⟨rfl, rfl⟩
    · have h3 : 255 < n := by omega
      have e2 : decide (n < k) = false := by simpa using h2
      go_enter Tryz.func63, Tryz.ntmps63
      go_wp2
      go_ret2
      exact ⟨rfl, rfl⟩

theorem table_any (w : World) (k n : Nat) (h1 : 1 ≤ k) (h2 : k ≤ n) (h3 : n ≤ 255) :
    Calls Tryz.prog 63 #[.int .i64 (k : Int), .int .i64 (n : Int)] w fun e w' => ∃ v, e = .returned (.tuple #[v, .int .i64 0]) ∧ RowsAt w' v (tblL k n) ∧ Below w.heap.size w w' := by
  have e1 : decide ((k : Int) < 1) = false := by simp; omega
  have e2 : ¬ n < k := by omega
  have e3 : ¬ (255 : Int) < n := by omega
  have e4 : decide (n < k) = false := by simp; omega
  have e5 : decide ((255 : Int) < n) = false := by simp; omega
  go_enter Tryz.func63, Tryz.ntmps63
  go_wp2
  clear e1 e2 e3 e4 e5
  go_loopw [6, 7, 22] (fun v _ i wr => ∃ j : Nat, j ≤ k ∧ i = .int .i64 (j : Int) ∧ wr.ownsRow w.heap.size 5 1 v j ((ptsL j).map bv) ∧ Below w.heap.size w wr) (fun _ _ i _ => k - (intOf i).toNat)
  case atStart => exact ⟨0, Nat.zero_le _, rfl, World.ownsRow_nil _ _ _ _, Below.refl _ _⟩
  case round =>
    obtain ⟨j, hj, rfl, ho, hB⟩ := hrel
    have HO := Lib.hid ho
    clear ho
    have hsz := hB.size
    by_cases hlt : j < k
    · go_wp2_with (at_builtin; refine app_el 50 5 1 1 (.int .u8 0) Tryz.underlying50 infoB rfl (by decide) rfl _ _ rfl w.heap.size j _ _ rfl HO.out [.int .u8 (j : Int)] rfl (by simp [Value.oneCell']) rfl (by omega) hsz ?_; intro g' c' w3 ho3 hk3 hs3 hg3)
      go_roundw
      case rel =>
        refine ⟨j + 1, by omega, by go_num, ?_, ?_⟩
        · rw [ptsL_succ, ← map_snoc_bv]
          have : bv (ofB j) = .int .u8 (j : Int) := by show Value.int .u8 (((ofB j).v : Nat) : Int) = _; rw [ofB_v (by omega)]
          rw [this]
          exact ho3
        · exact hB.trans (hk3.toBelow hsz (fun i h => (HO.out.lt i h).1))
      case measure => simp [intOf]; omega
    · obtain rfl : j = k := by omega
      have hp : BytesAt wr u6 (ptsL j) := BytesAt.of_owns (base := w.heap.size) (by rw [ptsL_len]; exact HO.out)
      have HP := Lib.hid hp
      clear hp
      go_wp2_with fail
      refine (over_any wr u6 (ptsL j) HP.out (by rw [ptsL_len]; omega)).mono ?_
      rintro e w2 ⟨bw, bf, va, rfl, hov, hB2⟩
      have HOV := Lib.hid hov
      have hB3 : Below w.heap.size w w2 := hB.trans ⟨hB2.os, hB2.tape, hB2.output, hB2.size, fun i hi => hB2.block i (by omega)⟩
      clear hov hB2 hB hlt hsz
      have HNN := Lib.hid (ptsL_nodup (k := j) (by omega))
      have HPL := Lib.hid (ptsL_len j)
      go_wp2
      go_loopw [4, 9, 34] (fun v _ i w4 => ∃ m : Nat, m ≤ n ∧ i = .int .i64 (m : Int) ∧ RowsOwn w4 w2.heap.size v (tblL j m) ∧ Below w2.heap.size w2 w4) (fun _ _ i _ => n - (intOf i).toNat)
      case atStart => exact ⟨0, Nat.zero_le _, rfl, RowsOwn.nil _ _, Below.refl _ _⟩
      case round =>
        obtain ⟨m, hm, rfl, ho, hB4⟩ := hrel
        have HR := Lib.hid ho
        clear ho
        have hs4 := hB4.size
        by_cases hlt : m < n
        · have HW := Lib.hid (HOV.out.kept (Kept.below hB4) (fun _ _ h => h))
          have hmm : bv (ofB m) = .int .u8 (m : Int) := by show Value.int .u8 (((ofB m).v : Nat) : Int) = _; rw [ofB_v (by omega)]
          have HMM := Lib.hid hmm
          clear hmm
          go_wp2_with fail
          rw [← HMM.out]
          refine (weights_any _ bw bf _ va (ptsL j) (ofB m) HW.out HNN.out (by rw [HPL.out]; omega) (by rw [HPL.out]; omega)).mono ?_
          rintro e w5 ⟨g, rfl, hrw, hgb, hB5⟩
          rw [HPL.out]
          have HB := Lib.hid (hrw.toBytes j)
          have hgl := hrw.lt
          have hs5 := hB5.size
          have HR5 := Lib.hid (HR.out.below hB5)
          have hlv := HR.out.lt
          have hb6 : Below w2.heap.size w2 w5 := hB4.trans ⟨hB5.os, hB5.tape, hB5.output, hB5.size, fun i hi => hB5.block i (by omega)⟩
          have HLV := Lib.hid hlv
          have HL2 := Lib.hid (show BytesAt w5 (.slice (some ⟨g, 0, none⟩) j j) (wtsL (ptsL j) (ofB m)) by have := HB.out; rw [wtsL_len, HPL.out] at this; exact this)
          clear hrw hB5 hB4 hlv
          go_wp2_with (at_builtin; refine app_row rfl _ _ rfl w2.heap.size m _ _ (tblL_len j m) rfl HR5.out (.slice (some ⟨g, 0, none⟩) j j) _ HL2.out (fun b hb => own_is hb ▸ ⟨hgl, fun h => by have := (HLV.out _ h).2; omega⟩) rfl rfl (by omega) (by omega) ?_; intro g' c' w6 hR6 hk6 hs6 hg6)
          go_roundw
          case rel =>
            refine ⟨m + 1, by omega, by go_num, by rw [tblL_succ]; exact hR6, hb6.trans (hk6.toBelow (by omega) (fun i h => (HLV.out i h).1))⟩
          case measure => simp [intOf]; omega
        · obtain rfl : m = n := by omega
          go_wp2
          go_ret2
          exact ⟨_, rfl, HR.out.rows, hB3.trans ⟨hB4.os, hB4.tape, hB4.output, hB4.size, fun i hi => hB4.block i (by have := hB3.size; omega)⟩⟩

/-- A coder of n symbols, k of which are enough. -/
structure CoderAt (w : World) (bc n k : Nat) (bf : Nat) (vt : Value) : Prop where
  cells : w.heap[bc]? = some (.cells #[.pointer (some ⟨bf, 0, none⟩), vt, .int .i64 (k : Int)] 115 (0, 0))
  field : FieldAt w bf
  table : RowsAt w vt (tblL k n)
  k1 : 1 ≤ k
  kn : k ≤ n
  n255 : n ≤ 255
section
variable {w w' : World} {bc n k bf : Nat} {vt : Value}
theorem CoderAt.c0 (h : CoderAt w bc n k bf vt) : w.cell? ⟨bc, 0, none⟩ = some (.pointer (some ⟨bf, 0, none⟩)) := by rw [cell_of h.cells]; rfl
theorem CoderAt.c1 (h : CoderAt w bc n k bf vt) : w.cell? ⟨bc, 1, none⟩ = some vt := by rw [cell_of h.cells]; rfl
theorem CoderAt.c2 (h : CoderAt w bc n k bf vt) : w.cell? ⟨bc, 2, none⟩ = some (.int .i64 (k : Int)) := by rw [cell_of h.cells]; rfl
theorem CoderAt.lt (h : CoderAt w bc n k bf vt) : bc < w.heap.size := (Array.getElem?_eq_some_iff.1 h.cells).1
theorem CoderAt.kept {S : Nat → Prop} (h : CoderAt w bc n k bf vt) (hk : Kept S w w') (hS : ∀ i, i < w.heap.size → ¬ S i) : CoderAt w' bc n k bf vt :=
  ⟨(hk.block bc h.lt (hS _ h.lt)).trans h.cells, h.field.kept hk (hS _ h.field.lt), h.table.kept hk hS, h.k1, h.kn, h.n255⟩
theorem CoderAt.below (h : CoderAt w bc n k bf vt) (hb : Below w.heap.size w w') : CoderAt w' bc n k bf vt := h.kept (Kept.below hb) (fun _ _ h => h)
theorem CoderAt.dr (h : CoderAt w bc n k bf vt) (m : Nat) : CoderAt (w.drewN m) bc n k bf vt := ⟨h.cells, h.field, h.table, h.k1, h.kn, h.n255⟩
end

theorem cnew_bad (w : World) (n k : Int) (h : k < 1 ∨ n < k ∨ 255 < n) :
    Calls Tryz.prog 47 #[.int .i64 n, .int .i64 k] w fun e w' => e = .returned (.tuple #[.pointer none, .int .i64 2]) ∧ w = w' := by
  have HT := Lib.hid (table_bad w k n h)
  clear h
  go_enter Tryz.func47, Tryz.ntmps47
  go_wp2_with fail
  refine HT.out.mono ?_
  rintro e w' ⟨rfl, rfl⟩
  go_wp2
  go_ret2
  exact ⟨rfl, rfl⟩

theorem cnew_any (w : World) (n k : Nat) (h1 : 1 ≤ k) (h2 : k ≤ n) (h3 : n ≤ 255) :
    Calls Tryz.prog 47 #[.int .i64 (n : Int), .int .i64 (k : Int)] w fun e w' => ∃ bc bf vt, e = .returned (.tuple #[.pointer (some ⟨bc, 0, none⟩), .int .i64 0]) ∧ CoderAt w' bc n k bf vt ∧ Below w.heap.size w w' := by
  have HT := Lib.hid (table_any w k n h1 h2 h3)
  go_enter Tryz.func47, Tryz.ntmps47
  go_wp2_with fail
  refine HT.out.mono ?_
  rintro e w1 ⟨vt, rfl, hr, hB⟩
  obtain ⟨pt, ct, rfl⟩ := hr.shape
  have HR := Lib.hid hr
  clear hr
  have HTL := Lib.hid (tblL_len k n)
  go_wp2_with fail
  refine (fnew_any w1).mono ?_
  rintro e w2 ⟨bf, rfl, hf, hfb, hB2⟩
  have HF := Lib.hid hf
  have HR2 := Lib.hid (HR.out.below hB2)
  have hb3 : Below w.heap.size w w2 := hB.trans ⟨hB2.os, hB2.tape, hB2.output, hB2.size, fun i hi => hB2.block i (by have := hB.size; omega)⟩
  have hs3 := hb3.size
  clear hf hB hB2
  go_wp2
  go_ret2
  exact ⟨_, bf, _, rfl, ⟨heap_alloc_new w2 _, HF.out.kept (Kept.alloc (fun _ => False) _ _) (fun h => h), HR2.out.kept (Kept.alloc (fun _ => False) _ _) (fun _ _ h => h), h1, h2, h3⟩, hb3.alloc hs3 _⟩
end -- CodeLc

section -- CodeQa
open Go.RowKit Go.Maps
set_option linter.unusedVariables false
set_option maxRecDepth 100000
set_option maxHeartbeats 2000000

/-- The sum of the first m rows, and of one more in the first t places. -/
def mixQ (ws : List B) (l : List (List B)) (wide m t : Nat) : List B := (List.range wide).map fun i => if i < t then sm (m + 1) (fun k => (l.getD k []).getD i 0 * ws.getD k 0) else sm m (fun k => (l.getD k []).getD i 0 * ws.getD k 0)
theorem mixQ_len (ws : List B) (l : List (List B)) (wide m t : Nat) : (mixQ ws l wide m t).length = wide := by simp [mixQ]
theorem mixQ_get {ws : List B} {l : List (List B)} {wide m t : Nat} (h : t < wide) : (mixQ ws l wide m t).getD t 0 = sm m (fun k => (l.getD k []).getD t 0 * ws.getD k 0) := by
  unfold mixQ
  rw [getD_range _ _ h, if_neg (by omega)]
theorem mixQ_set {ws : List B} {l : List (List B)} {wide m t : Nat} (h : t < wide) : (mixQ ws l wide m t).set t (sm m (fun k => (l.getD k []).getD t 0 * ws.getD k 0) + (l.getD m []).getD t 0 * ws.getD m 0) = mixQ ws l wide m (t + 1) := by
  apply List.ext_getElem
  · simp [mixQ]
  · intro i h1 h2
    simp [mixQ] at h1
    rw [List.getElem_set]
    simp only [mixQ, List.getElem_map, List.getElem_range]
    by_cases e : t = i
    · subst e; rw [if_pos rfl, if_pos (by omega)]; rfl
    · rw [if_neg e]
      by_cases q : i < t
      · rw [if_pos q, if_pos (by omega)]
      · rw [if_neg q, if_neg (by omega)]
theorem mixQ_next (ws : List B) (l : List (List B)) (wide m : Nat) : mixQ ws l wide m wide = mixQ ws l wide (m + 1) 0 := by
  unfold mixQ
  apply List.map_congr_left
  intro i hi
  have := List.mem_range.1 hi
  rw [if_pos this, if_neg (by omega)]
theorem mixQ_skip {ws : List B} {l : List (List B)} {wide m : Nat} (h : ws.getD m 0 = 0) : mixQ ws l wide m 0 = mixQ ws l wide (m + 1) 0 := by
  unfold mixQ
  apply List.map_congr_left
  intro i hi
  rw [if_neg (by omega), if_neg (by omega)]
  show _ = sm m _ + (l.getD m []).getD i 0 * ws.getD m 0
  rw [h]; grind
theorem mixQ_start (ws : List B) (l : List (List B)) (wide : Nat) : mixQ ws l wide 0 0 = List.replicate wide 0 := by
  apply List.ext_getElem
  · simp [mixQ]
  · intro i h1 h2
    simp [mixQ, sm]
theorem mixQ_end (ws : List B) (l : List (List B)) (wide : Nat) : mixQ ws l wide ws.length 0 = mixL ws l wide := by
  unfold mixQ mixL
  apply List.map_congr_left
  intro i hi
  rw [if_neg (by omega)]

theorem mix_any (w : World) {bc n k bf : Nat} {vt : Value} (hc : CoderAt w bc n k bf vt) (vw vl : Value) (ws : List B) (ls : List (List B)) (wide : Nat) (hw : BytesAt w vw ws) (hl : RowsAt w vl ls)
    (h0 : 0 < ls.length) (h1 : ws.length ≤ ls.length) (h2 : ws.length ≤ 255) (hwd : ∀ i, i < ls.length → (ls.getD i []).length = wide) (hwb : wide ≤ 1000000000) :
    Calls Tryz.prog 68 #[.pointer (some ⟨bc, 0, none⟩), vw, vl] w fun e w' => ∃ g, e = .returned (.slice (some ⟨g, 0, none⟩) wide wide) ∧ RowF w' g (mixL ws ls wide) ∧ w.heap.size ≤ g ∧ Below w.heap.size w w' := by
  have d0 := hc.c0
  have hlc := hc.lt
  have HF := Lib.hid hc.field
  have HWD := Lib.hid hwd
  obtain ⟨pw, cw, rfl, hwc⟩ := hw
  obtain ⟨pl, cl, rfl, hlcc⟩ := hl
  obtain ⟨gl, ol, rfl, hld⟩ := hlcc h0
  have HW := Lib.hid hwc
  have HL := Lib.hid hld
  obtain ⟨u0, hu0, hb0⟩ := hld 0 h0
  obtain ⟨p0, c0, rfl⟩ := hb0.shape
  have lll := blt hu0
  rw [hwd 0 h0] at hu0
  rw [Nat.add_zero] at hu0
  clear hwc hlcc hld hwd hc hb0
  have hmk := run_make_one (w := w) 50 5 (.int .u8 0) 1 Tryz.underlying50 infoB rfl (by omega) wide (by omega)
  go_enter Tryz.func68, Tryz.ntmps68
  go_wp2
  clear hmk
  have kA := Kept.alloc (fun _ => False) w (.cells (Array.replicate wide (.int .u8 0)) 5)
  have HR := Lib.hid (RowF.made w wide)
  have sA : w.heap.size < (w.alloc (.cells (Array.replicate wide (.int .u8 0)) 5)).heap.size := by simp
  generalize (w.alloc (.cells (Array.replicate wide (.int .u8 0)) 5)) = w1 at *
  have HMS := Lib.hid (mixQ_start ws ls wide)
  go_loopw [8, 9, 10, 11, 19, 26, 27, 28, 29, 30, 31] (fun _ _ _ _ i _ _ _ _ _ _ wr => ∃ m : Nat, m ≤ ws.length ∧ i = .int .i64 (m : Int) ∧ RowF wr w.heap.size (mixQ ws ls wide m 0) ∧ Kept (fun i => i = w.heap.size) w1 wr) (fun _ _ _ _ i _ _ _ _ _ _ _ => ws.length - (intOf i).toNat)
  case atStart => exact ⟨0, Nat.zero_le _, rfl, by rw [HMS.out]; exact HR.out, Kept.refl _ _⟩
  case round =>
    obtain ⟨m, hm, rfl, hr, kk⟩ := hrel
    have HR1 := Lib.hid hr
    clear hr
    by_cases hlt : m < ws.length
    · obtain ⟨gw, ow, rfl, hwd⟩ := HW.out (by omega)
      have hwm := hwd m hlt
      have lw := blt hwm
      have c1 := (kk.at1 (ow + m) (b := gw) (by omega) (by omega)).trans ((kA.at0 (ow + m) (b := gw) lw).trans hwm)
      obtain ⟨ul, hul, hbl⟩ := HL.out m (by omega)
      have c2 := (kk.at1 (ol + m) (b := gl) (by omega) (by omega)).trans ((kA.at0 (ol + m) (b := gl) lll).trans hul)
      obtain ⟨pm, cm, rfl, hbm⟩ := hbl
      rw [HWD.out m (by omega)] at c2 hbm
      have HBM := Lib.hid hbm
      have c0' := (kk.at1 0 (b := bc) (by omega) (by omega)).trans ((kA.at0 0 (b := bc) hlc).trans d0)
      have HF1 := Lib.hid ((HF.out.kept kA (fun h => h)).kept kk (by have := HF.out.lt; omega))
      clear hwd hwm hul hbm
      obtain ⟨q, hq⟩ : ∃ q, ws.getD m 0 = q := ⟨_, rfl⟩
      rw [hq] at c1
      have HQ := Lib.hid hq
      clear hq
      by_cases hz : q.v = 0
      · have hz1 : (((q.v : Nat) : Int) == 0) = true := by simp; omega
        have HZ := Lib.hid hz
        clear hz
        go_wp2
        go_roundw
        case rel => exact ⟨m + 1, by omega, by go_num, by rw [← mixQ_skip (by rw [HQ.out]; exact B.ext HZ.out)]; exact HR1.out, kk⟩
        case measure => simp [intOf]; omega
      · have hz1 : (((q.v : Nat) : Int) == 0) = false := by simp; omega
        have hsr := kk.size
        go_wp2
        go_loopw [10, 11, 31] (fun _ _ i wi => ∃ t : Nat, t ≤ wide ∧ i = .int .i64 (t : Int) ∧ RowF wi w.heap.size (mixQ ws ls wide m t) ∧ Kept (fun i => i = w.heap.size) wr wi) (fun _ _ i _ => wide - (intOf i).toNat)
        case atStart => exact ⟨0, Nat.zero_le _, rfl, HR1.out, Kept.refl _ _⟩
        case round =>
          obtain ⟨t, ht, rfl, hr, ki⟩ := hrel
          have HR2 := Lib.hid hr
          clear hr
          by_cases hlt2 : t < wide
          · obtain ⟨gm, om, rfl, hbd⟩ := HBM.out (by omega)
            have hbt := hbd t hlt2
            have lm := blt hbt
            have e1 := (ki.at1 (om + t) (b := gm) (by omega) (by omega)).trans ((kk.at1 (om + t) (b := gm) (by omega) (by omega)).trans ((kA.at0 (om + t) (b := gm) lm).trans hbt))
            have e2 := HR2.out.cell (i := t) (by rw [mixQ_len]; exact hlt2)
            have e3 := HR2.out.fz t
            have e0 := (ki.at1 0 (b := bc) (by omega) (by omega)).trans c0'
            have HF2 := Lib.hid (HF1.out.kept ki (by have := HF.out.lt; omega))
            have HST := Lib.hid (mixQ_set (ws := ws) (l := ls) (m := m) hlt2)
            rw [mixQ_get hlt2] at e2
            rw [HQ.out] at HST
            clear hbd hbt
            obtain ⟨x, hx⟩ : ∃ x, (ls.getD m []).getD t 0 = x := ⟨_, rfl⟩
            rw [hx] at e1 HST
            clear hx
            obtain ⟨y, hy⟩ : ∃ y, sm m (fun k => (ls.getD k []).getD t 0 * ws.getD k 0) = y := ⟨_, rfl⟩
            rw [hy] at e2 HST
            clear hy
            go_wp2_with fail
            refine wp_quiet_store 15 (by kernel_rfl) (by kernel_rfl) ?_
            simp only [List.take_succ_cons, List.take_zero, List.drop_succ_cons, List.drop_zero]
            repeat (quiet_step (first
              | (go_at_call 94; exact q_one (fmul_any _ bf (by exact HF2.out) x q))
              | (go_at_call 93; exact q_one_same (fadd_any _ y (x * q)))))
            refine wpQuiet_nil ?_
            rintro w5 ⟨nq, rfl⟩
            go_wp2
            refine calmQ.normal ?_
            go_wp2
            go_roundw
            case rel =>
              refine ⟨t + 1, by omega, by go_num, ?_, (ki.drewN nq).trans (Kept.set1 _ _ _ _) (fun _ _ h => h)⟩
              have := (show RowF (World.drewN _ nq) w.heap.size (mixQ ws ls wide m t) from HR2.out).set (i := t) (by rw [mixQ_len]; exact hlt2) (y + x * q)
              rw [HST.out] at this
              exact this
            case measure => simp [intOf]; omega
          · obtain rfl : t = wide := by omega
            have hr := HR2.out
            rw [mixQ_next] at hr
            have HR3 := Lib.hid hr
            clear hr
            have k3 := kk.trans ki (fun _ _ h => h)
            go_wp2
            go_roundw
            case rel => exact ⟨m + 1, by omega, by go_num, HR3.out, k3⟩
            case measure => simp [intOf]; omega
    · obtain rfl : m = ws.length := by omega
      have hr := HR1.out
      rw [mixQ_end] at hr
      have HR5 := Lib.hid hr
      clear hr
      go_wp2
      go_ret
      exact ⟨_, rfl, HR5.out, Nat.le_refl _, (kA.trans kk (S := fun _ => False) (fun i hi h => by omega)).toBelow (Nat.le_refl _) (fun _ h => h.elim)⟩
end -- CodeQa

end Go.Proofs.YtanjchpkekehgaaGreat
