/-
  RefI: Walks of the reference, layer 5 (code): rows, moved.
  RefJ: Walks of the reference, layer 5 (code): moved.
  RefK: Walks of the reference, layer 5 (code): Encode, Symbol; the program's Symbol of what is none.
  RefL: Walks of the reference, layer 5 (code): Symbol; the program's Symbol of what is none.
-/
import Derived.Test.YtlmpagicjgldkaaGreatMxao
import Derived.Deep.RegionHeld3
namespace Go.Proofs.YtlmpagicjgldkaaGreat

section -- RefI
open Go.RowKit Go.Maps
set_option linter.unusedVariables false
set_option maxRecDepth 100000
set_option maxHeartbeats 4000000

def gridV (wide : Nat) (g : Nat → Nat) (r : Nat) : Value := .slice (some ⟨g r, 0, none⟩) wide wide
/-- Rows that were made: the outer cells, each row in a block of its own. -/
structure GridAt (w : World) (base : Nat) (v : Value) (n wide : Nat) (g : Nat → Nat) (M : Nat → Nat → B) : Prop where
  outer : w.ownsRow base 43 1 v n ((List.range n).map (gridV wide g))
  row : ∀ r, r < n → RowF w (g r) (rowL wide (M r))
  ne : ∀ r, r < n → v.ownBlock ≠ some (g r)
  inj : ∀ r s, r < n → s < n → g r = g s → r = s
  low : ∀ r, r < n → base ≤ g r

section
variable {w w' : World} {base n wide : Nat} {v : Value} {g : Nat → Nat} {M : Nat → Nat → B}
theorem GridAt.kept {S : Nat → Prop} (h : GridAt w base v n wide g M) (hk : Kept S w w') (h1 : ∀ b, v.ownBlock = some b → ¬ S b) (h2 : ∀ r, r < n → ¬ S (g r)) : GridAt w' base v n wide g M :=
  ⟨ownsRow_keptS h.outer hk h1, fun r hr => (h.row r hr).kept hk (h2 r hr), h.ne, h.inj, h.low⟩
theorem GridAt.below (h : GridAt w base v n wide g M) (hb : Below w.heap.size w w') : GridAt w' base v n wide g M := h.kept (Kept.below hb) (fun _ _ h => h) (fun _ _ h => h)
theorem GridAt.congr {M' : Nat → Nat → B} (h : GridAt w base v n wide g M) (he : ∀ r j, r < n → j < wide → M r j = M' r j) : GridAt w base v n wide g M' :=
  ⟨h.outer, fun r hr => by rw [← rowL_congr (fun j hj => he r j hr hj)]; exact h.row r hr, h.ne, h.inj, h.low⟩
theorem GridAt.dr (h : GridAt w base v n wide g M) (q : Nat) : GridAt (w.drewN q) base v n wide g M := ⟨h.outer, h.row, h.ne, h.inj, h.low⟩
theorem GridAt.at' (h : GridAt w base v n wide g M) (h0 : 0 < n) : ∃ b c, v = .slice (some ⟨b, 0, none⟩) n c ∧ base ≤ b ∧ b < w.heap.size ∧ ∀ r, r < n → w.cell? ⟨b, r, none⟩ = some (gridV wide g r) := by
  obtain ⟨ho1, ho2⟩ := h.outer
  rcases ho2 with ⟨_, hz⟩ | ⟨b, c, cur, e, h2, h3, h4, h5, h6, h7⟩
  · omega
  · refine ⟨b, c, e, h2, (Array.getElem?_eq_some_iff.1 h3).1, fun r hr => ?_⟩
    have : ((List.range n).map (gridV wide g))[r]? = some (gridV wide g r) := by simp [hr]
    rw [← h7, List.getElem?_take, if_pos (by omega), Array.getElem?_toList] at this
    rw [cell_of h3, this]
theorem GridAt.shape (h : GridAt w base v n wide g M) : ∃ p c, v = .slice p n c := by
  obtain ⟨ho1, ho2⟩ := h.outer
  rcases ho2 with ⟨e, hz⟩ | ⟨b, c, cur, e, _⟩
  · subst hz; exact ⟨none, 0, e⟩
  · exact ⟨_, c, e⟩
theorem GridAt.rows (h : GridAt w base v n wide g M) : RowsAt w v ((List.range n).map fun r => rowL wide (M r)) := by
  refine RowsAt.of_owns (base := base) (us := (List.range n).map (gridV wide g)) (by simpa using h.outer) (fun i u hu => ?_)
  have hi : i < n := by
    have := (List.getElem?_eq_some_iff.1 hu).1
    simpa using this
  have e : u = gridV wide g i := by simpa [hi] using hu.symm
  subst e
  rw [getD_range _ _ hi]
  have := (h.row i hi).toBytes wide
  rw [rowL_len] at this
  exact this
theorem GridAt.news (h : GridAt w base v n wide g M) : RowsNew w base v ((List.range n).map fun r => rowL wide (M r)) := by
  refine ⟨(List.range n).map (gridV wide g), by simpa using h.outer, fun i u hu => ?_⟩
  have hi : i < n := by
    have := (List.getElem?_eq_some_iff.1 hu).1
    simpa using this
  have e : u = gridV wide g i := by simpa [hi] using hu.symm
  subst e
  refine ⟨?_, fun b e => ?_⟩
  · rw [getD_range _ _ hi]
    have := (h.row i hi).toBytes wide
    rw [rowL_len] at this
    exact this
  · have e := own_is e
    subst e
    exact ⟨h.low i hi, (h.row i hi).lt⟩
/-- One byte is written. -/
theorem GridAt.set (h : GridAt w base v n wide g M) {r j : Nat} (hr : r < n) (hj : j < wide) (x : B) : GridAt (w.setCell ⟨g r, j, none⟩ (bv x)) base v n wide g (fun a b => if a = r ∧ b = j then x else M a b) := by
  have hk : Kept (fun i => i = g r) w (w.setCell ⟨g r, j, none⟩ (bv x)) := Kept.set1 _ _ _ _
  refine ⟨ownsRow_keptS h.outer hk (fun b hb e => h.ne r hr (by rw [hb, e])), fun s hs => ?_, h.ne, h.inj, h.low⟩
  by_cases e : s = r
  · subst e
    have := (h.row s hs).set (i := j) (by rw [rowL_len]; exact hj) x
    have e2 : (rowL wide (M s)).set j x = rowL wide (fun b => if s = s ∧ b = j then x else M s b) := by
      apply List.ext_getElem
      · simp [rowL]
      · intro i h1 h2
        simp [rowL] at h1
        rw [List.getElem_set]
        simp only [rowL, List.getElem_map, List.getElem_range, true_and]
        by_cases q : j = i
        · rw [if_pos q, if_pos q.symm]
        · rw [if_neg q, if_neg (fun z => q z.symm)]
    rw [← e2]; exact this
  · have e2 : rowL wide (fun b => if s = r ∧ b = j then x else M s b) = rowL wide (M s) := rowL_congr (fun b _ => if_neg (fun z => e z.1))
    rw [e2]
    exact (h.row s hs).kept hk (fun z => e (h.inj s r hs hr z))
end

theorem rrows_any (w : World) (n wide : Nat) (hn : n ≤ 255) (hw : wide ≤ 1000000) :
    Calls Tryz.prog 62 #[.int .i64 (n : Int), .int .i64 (wide : Int)] w fun e w' => ∃ v g, e = .returned v ∧ GridAt w' w.heap.size v n wide g (fun _ _ => 0) ∧ Below w.heap.size w w' := by
  go_enter Tryz.func62, Tryz.ntmps62
  go_wp2
  go_loopw [5, 6] (fun v i wr => ∃ (k : Nat) (g : Nat → Nat), k ≤ n ∧ i = .int .i64 (k : Int) ∧ GridAt wr w.heap.size v k wide g (fun _ _ => 0) ∧ (∀ r, r < k → g r < wr.heap.size) ∧ Below w.heap.size w wr) (fun _ i _ => n - (intOf i).toNat)
  case atStart => exact ⟨0, fun _ => 0, Nat.zero_le _, rfl, ⟨World.ownsRow_nil _ _ _ _, fun r h => absurd h (by omega), fun r h => absurd h (by omega), fun r s h => absurd h (by omega), fun r h => absurd h (by omega)⟩, fun r h => absurd h (by omega), Below.refl _ _⟩
  case round =>
    obtain ⟨k, g, hk, rfl, hG, hgs, hB⟩ := hrel
    have HG := Lib.hid hG
    have HGS := Lib.hid hgs
    have HBR := Lib.hid hB
    have hsr := hB.size
    by_cases hlt : k < n
    · have hmk := run_make_one (w := wr) 43 5 (.int .u8 0) 1 Tryz.underlying43 infoB rfl (by omega) wide (by omega)
      have hA := bal' wr (.cells (Array.replicate wide (.int .u8 0)) 5)
      have hO := ownsRow_keptS hG.outer (Kept.below hA) (fun _ _ h => h)
      have HO := Lib.hid hO
      have HA := Lib.hid hA
      have HF := Lib.hid (RowF.made wr wide)
      have HSA := Lib.hid (show (wr.alloc (.cells (Array.replicate wide (.int .u8 0)) 5)).heap.size = wr.heap.size + 1 by simp)
      clear hO hA hG hgs hB
      go_wp2_with (at_builtin; refine app_el 37 43 1 24 (.slice none 0 0) Tryz.underlying37 infoR rfl (by decide) rfl _ _ rfl w.heap.size k u5 _ rfl HO.out [.slice (some ⟨wr.heap.size, 0, none⟩) wide wide] rfl (one_slice _ _ _) (by rw [HSA.out]; rfl) (by omega) (by rw [HSA.out]; omega) ?_; intro g' c' w6 hR6 hk6 hs6 hg6)
      go_roundw
      case rel =>
        have hsa := HSA.out
        have hv : ∀ b, u5.ownBlock = some b → b < wr.heap.size := fun b hb => (HG.out.outer.lt b hb).2
        have hkk : Kept (fun b => u5.ownBlock = some b) wr w6 := ((Kept.below HA.out).mono (fun _ _ h => h.elim)).trans hk6 (fun _ _ h => h)
        refine ⟨k + 1, fun r => if r = k then wr.heap.size else g r, by omega, by go_num, ⟨?_, fun r hr => ?_, fun r hr => ?_, fun r s hr hs e => ?_, fun r hr => ?_⟩, fun r hr => ?_, HBR.out.trans (hkk.toBelow hsr (fun i hi => (HG.out.outer.lt i hi).1))⟩
        · have e : (List.range (k + 1)).map (gridV wide fun r => if r = k then wr.heap.size else g r) = (List.range k).map (gridV wide g) ++ [.slice (some ⟨wr.heap.size, 0, none⟩) wide wide] := by
            rw [List.range_succ, List.map_append]
            congr 1
            · apply List.map_congr_left
              intro r hr
              have := List.mem_range.1 hr
              show Value.slice (some ⟨if r = k then wr.heap.size else g r, 0, none⟩) wide wide = Value.slice (some ⟨g r, 0, none⟩) wide wide
              rw [if_neg (show ¬ r = k by omega)]
            · simp [gridV]
          rw [e]
          exact hR6
        · by_cases e : r = k
          · subst e
            simp only [if_true]
            have h0 : rowL wide (fun _ => (0 : B)) = List.replicate wide 0 := by apply List.ext_getElem <;> simp [rowL]
            rw [h0]
            exact HF.out.kept hk6 (fun hb => by have := hv _ hb; omega)
          · simp only [if_neg e]
            exact (HG.out.row r (by omega)).kept hkk (HG.out.ne r (by omega))
        · intro e
          have e' : g' = if r = k then wr.heap.size else g r := by simpa [Value.ownBlock] using e
          by_cases q : r = k
          · rw [if_pos q] at e'
            rcases hg6 with z | z
            · have := hv _ z; omega
            · omega
          · rw [if_neg q] at e'
            have h1 := HGS.out r (by omega)
            rcases hg6 with z | z
            · exact HG.out.ne r (by omega) (by rw [← e']; exact z)
            · omega
        · by_cases q1 : r = k <;> by_cases q2 : s = k
          · omega
          · rw [if_pos q1, if_neg q2] at e
            have h1 := HGS.out s (by omega)
            omega
          · rw [if_neg q1, if_pos q2] at e
            have h1 := HGS.out r (by omega)
            omega
          · rw [if_neg q1, if_neg q2] at e
            exact HG.out.inj r s (by omega) (by omega) e
        · by_cases q : r = k
          · simp only [if_pos q]; exact hsr
          · simp only [if_neg q]; exact HG.out.low r (by omega)
        · by_cases q : r = k
          · simp only [if_pos q]; omega
          · simp only [if_neg q]
            have h1 := HGS.out r (by omega)
            omega
      case measure => simp [intOf]; omega
    · obtain rfl : k = n := by omega
      clear hG hgs hB
      go_wp2
      go_ret
      exact ⟨_, g, rfl, HG.out, HBR.out⟩
end -- RefI

section -- RefJ
open Go.RowKit Go.Maps
set_option linter.unusedVariables false
set_option maxRecDepth 100000
set_option maxHeartbeats 4000000

/-- What is moved: place j of row r. -/
def movB (xs : List B) (ls : List (List B)) (ts : List B) (n : Nat) (r j : Nat) : B := sm n fun i => lag xs i (ts.getD r 0) * (ls.getD i []).getD j 0
def movL (xs : List B) (ls : List (List B)) (ts : List B) (n m wide : Nat) : List (List B) := (List.range m).map fun r => rowL wide (movB xs ls ts n r)
/-- .. as far as place p of row q. -/
def movP (xs : List B) (ls : List (List B)) (ts : List B) (n p q r j : Nat) : B := if j < p ∨ (j = p ∧ r < q) then movB xs ls ts n r j else 0

theorem BytesAt.cells {w : World} {p : Option Addr} {n c : Nat} {l : List B} (h : BytesAt w (.slice p n c) l) (hn : l.length = n) (h0 : 0 < n) : ∃ g off, p = some ⟨g, off, none⟩ ∧ ∀ i, i < n → w.cell? ⟨g, off + i, none⟩ = some (bv (l.getD i 0)) := by
  subst hn
  obtain ⟨p', c', e, hh⟩ := h
  simp only [Value.slice.injEq, true_and] at e
  obtain ⟨rfl, rfl⟩ := e
  exact hh h0

theorem rmoved_any (w : World) (vf vl vt : Value) (xs : List B) (ls : List (List B)) (ts : List B) (n m wide : Nat) (hf : BytesAt w vf xs) (hl : RowsAt w vl ls) (ht : BytesAt w vt ts) (hlx : xs.length = n) (hll : ls.length = n) (hlt : ts.length = m)
    (hn : xs.Nodup) (h1 : 1 ≤ n) (hs : n ≤ 255) (hm : m ≤ 255) (hwd : ∀ i, i < n → (ls.getD i []).length = wide) (hw : wide ≤ 1000000) :
    Calls Tryz.prog 50 #[vf, vl, vt] w fun e w' => ∃ v, e = .returned v ∧ RowsNew w' w.heap.size v (movL xs ls ts n m wide) ∧ Below w.heap.size w w' := by
  have HF := Lib.hid hf
  have HL := Lib.hid hl
  have HT := Lib.hid ht
  have HLX := Lib.hid hlx
  have HLL := Lib.hid hll
  have HLT := Lib.hid hlt
  have HN := Lib.hid hn
  have HWD := Lib.hid hwd
  obtain ⟨pf, cf, rfl⟩ := hf.shape
  obtain ⟨pt, ct, rfl⟩ := ht.shape
  obtain ⟨pl, cl, rfl, hh⟩ := hl
  rw [hlx] at HF ⊢
  rw [hlt] at HT ⊢
  rw [hll] at hh HL ⊢
  obtain ⟨gl, ol, rfl, hc⟩ := hh (by omega)
  have HC := Lib.hid hc
  have z0 := (hc 0 (by omega)).choose_spec
  obtain ⟨u0, z1, z2⟩ := hc 0 (by omega)
  rw [Nat.add_zero] at z1
  obtain ⟨p0, c0, rfl⟩ := z2.shape
  rw [hwd 0 (by omega)] at z1
  have lgl := blt z1
  clear hf ht hh hc z0 z2 hlx hll hlt hn hwd
  go_enter Tryz.func50, Tryz.ntmps50
  go_wp2_with fail
  refine (rrows_any w m wide hm hw).mono ?_
  rintro e w1 ⟨vg, g, rfl, hG, hB1⟩
  obtain ⟨pg, cg, rfl⟩ := hG.shape
  have HG := Lib.hid (hG.congr (M' := movP xs ls ts n 0 0) (fun r j _ _ => by unfold movP; rw [if_neg (by omega)]))
  have HB1 := Lib.hid hB1
  clear hG hB1
  go_wp2
  go_loopw [8, 9, 10, 11, 12, 13] (fun i _ _ _ _ _ wr => ∃ p : Nat, p ≤ wide ∧ i = .int .i64 (p : Int) ∧ GridAt wr w.heap.size (.slice pg m cg) m wide g (movP xs ls ts n p 0) ∧ Below w.heap.size w wr) (fun i _ _ _ _ _ _ => wide - (intOf i).toNat)
  case atStart => exact ⟨0, Nat.zero_le _, rfl, HG.out, HB1.out⟩
  case round =>
    obtain ⟨w0, rfl⟩ : ∃ w0, w0 = wr := ⟨_, rfl⟩
    obtain ⟨p, hp, rfl, hG, hB⟩ := hrel
    have HG0 := Lib.hid hG
    have HB0 := Lib.hid hB
    have hsz := hB.size
    have d0 := (hB.cell (p := ⟨gl, ol, none⟩) lgl).trans z1
    have HCW := Lib.hid (fun i (hi : i < n) => (show ∃ pu cu, w0.cell? ⟨gl, ol + i, none⟩ = some (.slice pu wide cu) ∧ BytesAt w0 (.slice pu wide cu) (ls.getD i []) from by
      obtain ⟨u, x1, x2⟩ := HC.out i hi
      obtain ⟨pu, cu, rfl⟩ := x2.shape
      rw [HWD.out i hi] at x1 x2
      exact ⟨pu, cu, (hB.cell (p := ⟨gl, ol + i, none⟩) (blt x1)).trans x1, x2.below hB⟩))
    have HFW := Lib.hid (HF.out.below hB)
    have HTW := Lib.hid (HT.out.below hB)
    clear hG hB
    by_cases hlt : p < wide
    · go_wp2
      go_loopw [9, 10] (fun v i wr => ∃ k : Nat, k ≤ n ∧ i = .int .i64 (k : Int) ∧ Own wr w0.heap.size v (rowL k fun i => (ls.getD i []).getD p 0) ∧ Below w0.heap.size w0 wr) (fun _ i _ => n - (intOf i).toNat)
      case atStart => exact ⟨0, Nat.zero_le _, rfl, Own.nil _ _, Below.refl _ _⟩
      case round =>
        obtain ⟨k, hk, rfl, ho, hB⟩ := hrel
        obtain ⟨pv, cv, rfl⟩ := ho.shape
        rw [rowL_len] at ho ⊢
        have HOV := Lib.hid ho
        have HBR := Lib.hid hB
        have hsr := hB.size
        clear ho
        by_cases hlt2 : k < n
        · obtain ⟨pu, cu, x1, x2⟩ := HCW.out k hlt2
          obtain ⟨gu, ou, rfl, hxx⟩ := x2.cells (HWD.out k hlt2) (by omega)
          have y := hxx p (by omega)
          have d1 := (hB.cell (p := ⟨gl, ol + k, none⟩) (blt x1)).trans x1
          have d2 := (hB.cell (p := ⟨gu, ou + p, none⟩) (blt y)).trans y
          have HS := Lib.hid (show rowL k (fun i => (ls.getD i []).getD p 0) ++ [(ls.getD k []).getD p 0] = rowL (k + 1) (fun i => (ls.getD i []).getD p 0) by simp [rowL, List.range_succ])
          obtain ⟨b, hb⟩ : ∃ b, (ls.getD k []).getD p 0 = b := ⟨_, rfl⟩
          rw [hb] at d2 HS
          clear hxx y x1 x2 hB hb
          go_wp2_with (at_builtin; refine app_own rfl _ _ rfl w0.heap.size k _ _ b (rowL_len _ _) HOV.out rfl rfl (by omega) hsr ?_; intro g' c' w6 hR6 hk6 hs6 hg6)
          go_roundw
          case rel =>
            refine ⟨k + 1, by omega, by go_num, by rw [← HS.out]; exact hR6, HBR.out.trans (hk6.toBelow hsr (fun i hi => (HOV.out.blk i hi).1))⟩
          case measure => simp [intOf]; omega
        · obtain rfl : k = n := by omega
          have HFR := Lib.hid (HFW.out.below hB)
          have HTR := Lib.hid (HTW.out.below hB)
          clear hB
          go_wp2_with fail
          refine (rvalues_any _ _ _ _ xs (rowL k fun i => (ls.getD i []).getD p 0) ts k m HFR.out HOV.out.bytes HTR.out HLX.out (rowL_len _ _) HLT.out HN.out (by omega) (by omega)).mono ?_
          rintro e w5 ⟨v5, rfl, hv5, hB5⟩
          obtain ⟨p5, c5, rfl⟩ := hv5.shape
          have hv5' := hv5
          rw [rowL_congr (g := fun j => movB xs ls ts k j p) (fun j hj => by
            unfold movB
            exact sm_congr (fun i hi => by rw [rowL_get _ hi]))] at hv5'
          rw [rowL_len] at hv5' ⊢
          have HV5 := Lib.hid hv5'
          have HB5 := Lib.hid (below_more HBR.out hB5 hsr)
          have HB50 := Lib.hid (below_more HB0.out HB5.out hsz)
          have HG5 := Lib.hid (HG0.out.below HB5.out)
          have HGL := Lib.hid (fun r (hr : r < m) => (HG0.out.row r hr).lt)
          have hs5 := HB5.out.size
          have hwv : ∀ b, (Value.slice p5 m c5).ownBlock = some b → w0.heap.size ≤ b := fun b hb => Nat.le_trans hsr (HV5.out.blk b hb).1
          have HWV := Lib.hid hwv
          clear hv5 hv5' hB5 hwv
          go_wp2
          go_loopw [13] (fun i wr => ∃ q : Nat, q ≤ m ∧ i = .int .i64 (q : Int) ∧ GridAt wr w.heap.size (.slice pg m cg) m wide g (movP xs ls ts k p q) ∧ Kept (fun b => ∃ r, r < m ∧ g r = b) w5 wr) (fun i _ => m - (intOf i).toNat)
          case atStart => exact ⟨0, Nat.zero_le _, rfl, HG5.out, Kept.refl _ _⟩
          case round =>
            obtain ⟨q, hq, rfl, hG, hK⟩ := hrel
            have HGR := Lib.hid hG
            have HKR := Lib.hid hK
            clear hG
            by_cases hlt3 : q < m
            · obtain ⟨bg, cg', e, hbg1, hbg2, hbg3⟩ := HGR.out.at' (by omega)
              cases e
              have d1 := hbg3 q hlt3
              unfold gridV at d1
              obtain ⟨g5, c5', e, hg5, hr5⟩ := HV5.out.row (by rw [rowL_len]; omega)
              rw [rowL_len] at e
              simp only [Value.slice.injEq, true_and] at e
              obtain ⟨rfl, rfl⟩ := e
              have y := hr5.cell (i := q) (by rw [rowL_len]; exact hlt3)
              rw [rowL_get _ hlt3] at y
              have hg50 : w0.heap.size ≤ g5 := HWV.out g5 rfl
              have d2 := (hK.cell (p := ⟨g5, q, none⟩) (blt y) (fun ⟨r, hr, e⟩ => by
                have := HGL.out r hr
                have e' : g r = g5 := e
                omega)).trans y
              have d3 := (HGR.out.row q hlt3).cell (i := p) (by rw [rowL_len]; exact hlt)
              rw [rowL_get _ hlt] at d3
              have d4 := (HGR.out.row q hlt3).fz p
              have HSet := Lib.hid (fun (W : World) (h : GridAt W w.heap.size (.slice (some ⟨bg, 0, none⟩) m cg) m wide g (movP xs ls ts k p q)) => (show GridAt (W.setCell ⟨g q, p, none⟩ (bv (movB xs ls ts k q p))) w.heap.size (.slice (some ⟨bg, 0, none⟩) m cg) m wide g (movP xs ls ts k p (q + 1)) from (h.set hlt3 hlt (movB xs ls ts k q p)).congr (fun r j hr hj => by
                show (if r = q ∧ j = p then movB xs ls ts k q p else movP xs ls ts k p q r j) = movP xs ls ts k p (q + 1) r j
                unfold movP
                by_cases e1 : r = q ∧ j = p
                · rw [if_pos e1, if_pos (by omega), e1.1, e1.2]
                · rw [if_neg e1]
                  by_cases e2 : j < p ∨ (j = p ∧ r < q)
                  · rw [if_pos e2, if_pos (by omega)]
                  · rw [if_neg e2, if_neg (by omega)])))
              obtain ⟨b, hb⟩ : ∃ b, movB xs ls ts k q p = b := ⟨_, rfl⟩
              rw [hb] at d2 HSet
              obtain ⟨b0, hb0⟩ : ∃ b0, movP xs ls ts k p q q p = b0 := ⟨_, rfl⟩
              rw [hb0] at d3
              have HQ := Lib.hid (show ∃ r, r < m ∧ g r = g q from ⟨q, hlt3, rfl⟩)
              clear hbg3 hr5 y hb hb0 hK
              go_wp2_with fail
              refine wp_quiet_store 10 (by kernel_rfl) (by kernel_rfl) ?_
              simp only [List.take_succ_cons, List.take_zero, List.drop_succ_cons, List.drop_zero]
              repeat (quiet_step (fail))
              refine wpQuiet_nil ?_
              rintro w7 ⟨nq, rfl⟩
              go_wp2
              refine calmQ.normal ?_
              go_wp2
              go_roundw
              case rel =>
                exact ⟨q + 1, by omega, by go_num, HSet.out _ (HGR.out.dr nq), (HKR.out.drewN nq).setCell' (p := ⟨g q, p, none⟩) HQ.out _⟩
              case measure => simp [intOf]; omega
            · obtain rfl : q = m := by omega
              have HG9 := Lib.hid (HGR.out.congr (M' := movP xs ls ts k (p + 1) 0) (fun r j hr hj => by
                unfold movP
                by_cases e2 : j < p ∨ (j = p ∧ r < q)
                · rw [if_pos e2, if_pos (by omega)]
                · rw [if_neg e2, if_neg (by omega)]))
              have HB9 := Lib.hid (HB50.out.trans (hK.toBelow (by have := HB50.out.size; omega) (fun i ⟨r, hr, e⟩ => by rw [← e]; exact HGR.out.low r hr)))
              clear hK
              go_wp2
              go_roundw
              case rel => exact ⟨p + 1, by omega, by go_num, HG9.out, HB9.out⟩
              case measure => simp [intOf]; omega
    · obtain rfl : p = wide := by omega
      have HR := Lib.hid (show RowsNew w0 w.heap.size (.slice pg m cg) (movL xs ls ts n m p) from by
        have := (HG0.out.congr (M' := movB xs ls ts n) (fun r j hr hj => by unfold movP; rw [if_pos (by omega)])).news
        exact this)
      go_wp2
      go_ret
      exact ⟨_, rfl, HR.out, HB0.out⟩
end -- RefJ

section -- RefK
open Go.RowKit Go.Maps
set_option linter.unusedVariables false
set_option maxRecDepth 100000
set_option maxHeartbeats 4000000

theorem belowDrew {B : Nat} {a w : World} (h : Below B a w) : Below B a w.drew := ⟨h.os, h.tape, h.output, h.size, h.block⟩
theorem mov_row {xs ts : List B} {ls : List (List B)} {n wide r : Nat} {x : B} (hx : xs.length = n) (ht : ts.getD r 0 = x) : rowL wide (movB xs ls ts n r) = mixL (wtsL xs x) ls wide := by
  subst hx
  subst ht
  unfold rowL mixL
  refine List.map_congr_left (fun j _ => ?_)
  unfold movB
  rw [wtsL_len]
  exact sm_congr (fun i hi => by rw [wtsL_get hi]; grind)
theorem mov_enc {ls : List (List B)} {n k wide : Nat} : movL (ptsL k) ls (ptsL n) k n wide = encL n k ls wide :=
  List.map_congr_left (fun r hr => mov_row (ptsL_len k) (ptsL_get (List.mem_range.1 hr)))
end -- RefK

section -- RefL
open Go.RowKit Go.Maps
set_option linter.unusedVariables false
set_option maxRecDepth 100000
set_option maxHeartbeats 4000000
end -- RefL

end Go.Proofs.YtlmpagicjgldkaaGreat
