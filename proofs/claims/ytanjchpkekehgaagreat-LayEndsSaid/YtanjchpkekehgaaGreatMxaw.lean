/-
  RefG: Walks of the reference, layer 4 (lagr): Value, Weights, Values.
  KitA: Walks of the kit: mark, markByte.
  KitB: Walks of the kit: LentBytes, KeptBytes.
  LayN: Layer 9, walks: Join: rows as bytes (slices.Grow, slices.Concat).
-/
import Derived.Test.YtanjchpkekehgaaGreatMxav
import Derived.Test.YtanjchpkekehgaaGreatMxas
import Derived.Test.YtanjchpkekehgaaGreatMxan
import Derived.Lib.AppendZeros
namespace Go.Proofs.YtanjchpkekehgaaGreat

section -- RefG
open Go.RowKit Go.Maps
set_option linter.unusedVariables false
set_option maxRecDepth 100000
set_option maxHeartbeats 2000000

/-- Append of one byte. -/
theorem app_own {ops : Array Oper} {rest : List Oper} {o : Oper} {a : Act} {Q : Exit → Act → World → Prop} {W : World}
    (hgd : o.guard = none) (s x : Operand) (ho : o.op = .call { callee := .builtin .append, args := #[s, x], argTypes := #[50, 50] })
    (base n : Nat) (v : Value) (l : List B) (y : B) (hln : l.length = n) (hown : Own W base v l) (hs : a.eval s = v)
    (hx : a.eval x = .slice (some ⟨W.heap.size, 0, none⟩) 1 1) (hn : n < 1000000000000) (hbase : base ≤ W.heap.size)
    (h : ∀ g' c' w', Own w' base (.slice (some ⟨g', 0, none⟩) (n + 1) c') (l ++ [y]) → Kept (fun k => v.ownBlock = some k) W w' → W.heap.size < w'.heap.size → (v.ownBlock = some g' ∨ W.heap.size < g') →
      wpList Tryz.prog ops Q rest (a.put o.dst (.slice (some ⟨g', 0, none⟩) (n + 1) c')) w') : wpList Tryz.prog ops Q (o :: rest) a (W.alloc (.cells #[bv y] 5)) := by
  subst hln
  refine app_el 50 5 1 1 (.int .u8 0) Tryz.underlying50 infoB rfl (by decide) hgd s x ho base l.length v (l.map bv) hs hown [bv y] rfl (one_bv y) hx hn hbase ?_
  intro g' c' w' ho' hk hs' hg'
  refine h g' c' w' ?_ hk hs' hg'
  unfold Own
  rw [List.length_append, ← map_snoc_bv]
  exact ho'
theorem RowF.made1 (w : World) (n k : Nat) (x : B) : RowF (w.alloc (.cells ((Array.replicate n (.int .u8 0)).setIfInBounds k (bv x)) 5)) w.heap.size ((List.replicate n 0).set k x) := by
  refine (heap_alloc_new w _).trans ?_
  rw [List.map_set, show (List.replicate n (0 : B)).map bv = List.replicate n (.int .u8 0) from by rw [List.map_replicate]; rfl]
  rw [← List.setIfInBounds_toArray, List.toArray_replicate]

theorem rvalues_any (w : World) (va vb vc : Value) (xs ys ts : List B) (n m : Nat) (hx : BytesAt w va xs) (hy : BytesAt w vb ys) (ht : BytesAt w vc ts) (hlx : xs.length = n) (hly : ys.length = n) (hlt : ts.length = m) (hn : xs.Nodup) (hs : n ≤ 256) (hm : m ≤ 256) :
    Calls Tryz.prog 70 #[va, vb, vc] w fun e w' => ∃ v, e = .returned (.tuple #[v, .int .i64 0]) ∧ Own w' w.heap.size v (rowL m fun j => sm n fun i => lag xs i (ts.getD j 0) * ys.getD i 0) ∧ Below w.heap.size w w' := by
  have HX := Lib.hid hx
  have HY := Lib.hid hy
  have HLX := Lib.hid hlx
  have HLY := Lib.hid hly
  have HN := Lib.hid hn
  obtain ⟨pa, ca, rfl⟩ := hx.shape
  obtain ⟨pb, cb, rfl⟩ := hy.shape
  obtain ⟨pt, ct, rfl, hht⟩ := ht
  rw [hlx] at HX ⊢
  rw [hly] at HY ⊢
  rw [hlt] at hht ⊢
  have HT := Lib.hid hht
  clear hx hy hlx hly hn hht hlt
  go_enter Tryz.func70, Tryz.ntmps70
  go_wp2_with fail
  refine (rthrough_any w _ _ xs ys n HX.out HY.out HLX.out HLY.out HN.out hs).mono ?_
  rintro e w1 ⟨v, rfl, hP, hB⟩
  obtain ⟨l, h1, h2, h3⟩ := hP
  obtain ⟨p, c, rfl⟩ := h1.shape
  have HB := Lib.hid hB
  have HO := Lib.hid h1
  have H3 := Lib.hid h3
  have hsz := hB.size
  clear h1 h3 hB
  go_wp2
  go_loopw [10, 11] (fun v i wr => ∃ k : Nat, k ≤ m ∧ i = .int .i64 (k : Int) ∧ Own wr w1.heap.size v (rowL k fun j => sm n fun i => lag xs i (ts.getD j 0) * ys.getD i 0) ∧ Below w1.heap.size w1 wr) (fun _ i _ => m - (intOf i).toNat)
  case atStart => exact ⟨0, Nat.zero_le _, rfl, Own.nil _ _, Below.refl _ _⟩
  case round =>
    obtain ⟨k, hk, rfl, ho, hB⟩ := hrel
    obtain ⟨pv, cv, rfl⟩ := ho.shape
    rw [rowL_len] at ho ⊢
    have HOV := Lib.hid ho
    have HBR := Lib.hid hB
    have hsr := hB.size
    clear ho
    by_cases hlt : k < m
    · obtain ⟨g, off, rfl, hc⟩ := HT.out (by omega)
      have z := hc k hlt
      have z1 := (HB.out.cell (p := ⟨g, off + k, none⟩) (blt z)).trans z
      have d1 := (hB.cell (p := ⟨g, off + k, none⟩) (blt z1)).trans z1
      have HS := Lib.hid (show rowL k (fun j => sm n fun i => lag xs i (ts.getD j 0) * ys.getD i 0) ++ [sm n fun i => lag xs i (ts.getD k 0) * ys.getD i 0] = rowL (k + 1) (fun j => sm n fun i => lag xs i (ts.getD j 0) * ys.getD i 0) by simp [rowL, List.range_succ])
      have hV := rvalue_any wr _ l (ts.getD k 0) (HO.out.below hB).bytes (by omega)
      rw [H3.out] at hV
      obtain ⟨t, htt⟩ : ∃ t, ts.getD k 0 = t := ⟨_, rfl⟩
      rw [htt] at d1 hV HS
      obtain ⟨r, hr⟩ : ∃ r, (sm n fun i => lag xs i t * ys.getD i 0) = r := ⟨_, rfl⟩
      simp only [hr] at hV HS
      have HV := Lib.hid hV
      clear hc z z1 hB htt hr hV
      go_wp2_with fail
      refine HV.out.mono ?_
      rintro e w2 ⟨rfl, rfl⟩
      go_wp2_with (at_builtin; refine app_own rfl _ _ rfl w1.heap.size k _ _ r (rowL_len _ _) HOV.out rfl rfl (by omega) hsr ?_; intro g' c' w6 hR6 hk6 hs6 hg6)
      go_roundw
      case rel =>
        refine ⟨k + 1, by omega, by go_num, by rw [← HS.out]; exact hR6, HBR.out.trans (hk6.toBelow hsr (fun i hi => (HOV.out.blk i hi).1))⟩
      case measure => simp [intOf]; omega
    · obtain rfl : k = m := by omega
      go_wp2
      go_ret2
      exact ⟨_, rfl, HOV.out.weaken hsz, below_more HB.out HBR.out hsz⟩

theorem wts_unit {xs : List B} {j : Nat} (hj : j < xs.length) (x : B) : sm xs.length (fun i => lag xs i x * ((List.replicate xs.length 0).set j 1).getD i 0) = lag xs j x := by
  rw [sm_one hj (fun i hi hne => by
    rw [getD_set_ne (fun e => hne e.symm), List.getD_eq_getElem?_getD, List.getElem?_replicate]
    simp [hi]
    grind)]
  rw [List.getD_eq_getElem?_getD, List.getElem?_set_self (by simpa using hj)]
  show lag xs j x * 1 = _
  grind
end -- RefG

section -- KitA
open Go.RowKit Go.Maps
set_option linter.unusedVariables false
set_option maxRecDepth 100000
set_option maxHeartbeats 2000000

def mkN (k i : Nat) : Nat := 1000003 * (k + 7) + i
theorem mark_any (w : World) (k i : Nat) (hk : k ≤ 1000000) (hi : i ≤ 1000000) :
    Calls Tryz.prog 26 #[.int .i64 (k : Int), .int .i64 (i : Int)] w fun e w' => e = .returned (.int .i64 ((mkN k i : Nat) : Int)) ∧ w = w' := by
  have HM := Lib.hid (show ((mkN k i : Nat) : Int) = 1000003 * ((k : Int) + 7) + i by unfold mkN; omega)
  go_enter Tryz.func26, Tryz.ntmps26
  go_wp2
  go_ret
  exact ⟨by rw [HM.out]; rfl, rfl⟩

def mkB (k i : Nat) : B := ⟨mkN k i * 11400714819323198485 % 18446744073709551616 / 72057594037927936, by omega⟩
theorem markByte_any (w : World) (k i : Nat) (hk : k ≤ 1000000) (hi : i ≤ 1000000) :
    Calls Tryz.prog 46 #[.int .i64 (k : Int), .int .i64 (i : Int)] w fun e w' => e = .returned (bv (mkB k i)) ∧ w = w' := by
  have hb : mkN k i < 2000000000000 := by unfold mkN; omega
  obtain ⟨m, hm⟩ : ∃ m, mkN k i = m := ⟨_, rfl⟩
  have HM := Lib.hid hm
  rw [hm] at hb
  have HV := Lib.hid (show IntKind.u64.wrap ((m : Int) * 11400714819323198485) / 72057594037927936 % 256 = (((mkB k i).v : Nat) : Int) by
    have e : (mkB k i).v = m * 11400714819323198485 % 18446744073709551616 / 72057594037927936 := by
      show mkN k i * 11400714819323198485 % 18446744073709551616 / 72057594037927936 = _
      rw [hm]
    have hw : IntKind.u64.wrap ((m : Int) * 11400714819323198485) = (m : Int) * 11400714819323198485 % 18446744073709551616 := by simp [IntKind.wrap, IntKind.bits, IntKind.signed]
    rw [e, hw, show (m : Int) * 11400714819323198485 = ((m * 11400714819323198485 : Nat) : Int) by simp]
    generalize m * 11400714819323198485 = M
    omega)
  clear hm
  go_enter Tryz.func46, Tryz.ntmps46
  go_wp2_with fail
  refine (mark_any w k i hk hi).mono ?_
  rintro e w' ⟨rfl, rfl⟩
  rw [HM.out]
  go_wp2
  rw [HV.out]
  go_ret
  exact ⟨rfl, rfl⟩
end -- KitA

section -- KitB
open Go.RowKit Go.Maps
set_option linter.unusedVariables false
set_option maxRecDepth 100000
set_option maxHeartbeats 2000000

/-- make of a length of 0, of such a capacity. -/
theorem run_make_cap {w : World} (t e : TypeId) (z : Value) (bytes : Nat) (ht : Tryz.prog.underlying t = some (.slice e)) (hinfo : (Tryz.prog.info? e).map (fun i => (i.zero, i.size, i.bytes)) = some (some z, 1, bytes)) (hz : z.cells = #[z]) (hby : bytes ≤ 64) (n : Nat) (hn : n ≤ 1000000000000) :
    (Instr.makeSlice t (.int .i64 0) (.int .i64 (n : Int))).run Tryz.prog w = .ok (.slice (some ⟨w.heap.size, 0, none⟩) 0 n) (w.alloc (.cells (Array.replicate n z) e)) := by
  obtain ⟨i, hi, hz', hsize, hbytes⟩ := info_parts hinfo
  subst hbytes
  have hb : i.bytes * n ≤ 64 * n := Nat.mul_le_mul_right n hby
  have hb' : (i.bytes : Int) * (n : Int) ≤ 281474976710656 := by
    have h : ((i.bytes * n : Nat) : Int) ≤ 281474976710656 := by omega
    rwa [Int.natCast_mul] at h
  have hr := run_make (P := Tryz.prog) w t e i z ht hi hz' .i64 .i64 0 n (Int.le_refl _) (by omega) hb' (by omega)
  simp only [Int.toNat_natCast, Int.toNat_zero] at hr
  rw [hr, hsize, Nat.mul_one, hz]
  have : madeCells #[z] n = Array.replicate n z := by
    rw [← Array.toList_inj, toList_madeCells_one, Array.toList_replicate]
  rw [this]

/-- The marks behind what is lent. -/
def behindL (m : Nat) : List B := (List.range m).map (mkB 1)
theorem behindL_len (m : Nat) : (behindL m).length = m := by simp [behindL]
theorem behindL_succ (m : Nat) : behindL (m + 1) = behindL m ++ [mkB 1 m] := by simp [behindL, List.range_succ]

/-- A slice that is lent: of its own block, the marks behind it. -/
def LentAt (w : World) (base : Nat) (v : Value) (l : List B) : Prop := ∃ g c, v = .slice (some ⟨g, 0, none⟩) l.length c ∧ base ≤ g ∧ RowC w g c (l ++ behindL 12)
section
variable {w w' : World} {base : Nat} {v : Value} {l : List B}
theorem LentAt.own (h : LentAt w base v l) : Own w base v l := by
  obtain ⟨g, c, rfl, hb, C, h1, h2, h3, h4, h5⟩ := h
  have hl : (l ++ behindL 12).length = l.length + 12 := by simp [behindL_len]
  refine RowC.own (c := c) ⟨C, h1, h2, by omega, h4, fun i hi => ?_⟩ hb
  rw [h5 i (by omega), List.getD_eq_getElem?_getD, List.getElem?_append_left hi, ← List.getD_eq_getElem?_getD]
theorem LentAt.blk (h : LentAt w base v l) : ∀ b, v.ownBlock = some b → base ≤ b ∧ b < w.heap.size := h.own.blk
theorem LentAt.kept {S : Nat → Prop} (h : LentAt w base v l) (hk : Kept S w w') (hS : ∀ b, v.ownBlock = some b → ¬ S b) : LentAt w' base v l := by
  obtain ⟨g, c, rfl, hb, h1⟩ := h
  exact ⟨g, c, rfl, hb, h1.kept hk (hS g rfl)⟩
theorem LentAt.below (h : LentAt w base v l) (hb : Below w.heap.size w w') : LentAt w' base v l := h.kept (Kept.below hb) (fun _ _ h => h)
theorem LentAt.weaken {base' : Nat} (h : LentAt w base v l) (hb : base' ≤ base) : LentAt w base' v l := by
  obtain ⟨g, c, rfl, hb1, h1⟩ := h
  exact ⟨g, c, rfl, Nat.le_trans hb hb1, h1⟩
end

/-- Append of bytes, however many. -/
theorem app_own_many {ops : Array Oper} {rest : List Oper} {o : Oper} {a : Act} {Q : Exit → Act → World → Prop} {W : World}
    (hgd : o.guard = none) (s x : Operand) (ho : o.op = .call { callee := .builtin .append, args := #[s, x], argTypes := #[50, 50] })
    (base n m : Nat) (v : Value) (l1 l2 : List B) (hn : l1.length = n) (hm : l2.length = m) (hown : Own W base v l1) (p : Option Addr) (c : Nat) (hc : 0 < m → ∃ g off, p = some ⟨g, off, none⟩ ∧ ∀ i, i < m → W.cell? ⟨g, off + i, none⟩ = some (bv (l2.getD i 0)))
    (hs : a.eval s = v) (hx : a.eval x = .slice p m c) (hnm : n + m < 1000000000000) (hbase : base ≤ W.heap.size)
    (h : ∀ p' c' w', Own w' base (.slice p' (n + m) c') (l1 ++ l2) → Kept (fun k => v.ownBlock = some k) W w' → (∀ b, (Value.slice p' (n + m) c').ownBlock = some b → v.ownBlock = some b ∨ W.heap.size ≤ b) →
      wpList Tryz.prog ops Q rest (a.put o.dst (.slice p' (n + m) c')) w') : wpList Tryz.prog ops Q (o :: rest) a W := by
  by_cases h0 : m = 0
  · subst h0
    obtain rfl : l2 = [] := List.eq_nil_of_length_eq_zero hm
    obtain ⟨p', c', rfl⟩ := hown.shape
    have h1 := h p' c' W (by rw [List.append_nil, Nat.add_zero, ← hn]; exact hown) (Kept.refl _ _) (fun b hb => .inl (by rw [hn]; exact hb))
    refine app_none 50 5 1 1 (.int .u8 0) Tryz.underlying50 infoB hgd s x ho base l1.length (.slice p' l1.length c') (l1.map bv) hs hown p c hx ?_
    rw [hn]
    exact h1
  · obtain ⟨g, off, rfl, hcc⟩ := hc (by omega)
    refine app_bytes 50 Tryz.underlying50 hgd s x ho base n m v l1 l2 hn hm hs (by rw [← hn]; exact hown) g off c hx hcc (by omega) hnm hbase ?_
    intro g' c' w' hR hb hk hg
    refine h _ c' w' ?_ hk (fun b hb' => ?_)
    · have := hR.own hb
      rwa [List.length_append, hn, hm] at this
    · have e : g' = b := own_is hb'
      subst e
      exact hg

theorem make_own (w : World) (n : Nat) (hn : n ≤ 1000000000000) : RowC (w.alloc (.cells (Array.replicate n (.int .u8 0)) 5)) w.heap.size n [] := ⟨_, heap_alloc_new w _, by simp, by simp, by unfold maxLen; omega, fun i hi => by simp at hi⟩

theorem lentB_any (w : World) (v : Value) (l : List B) (hv : BytesAt w v l) (hl : l.length ≤ 1000000) :
    Calls Tryz.prog 25 #[v] w fun e w' => ∃ v', e = .returned v' ∧ LentAt w' w.heap.size v' l ∧ Below w.heap.size w w' := by
  obtain ⟨p, c, rfl, hh⟩ := hv
  have HH := Lib.hid hh
  obtain ⟨n, hn⟩ : ∃ n, l.length = n := ⟨_, rfl⟩
  rw [hn] at HH hl ⊢
  have HN := Lib.hid hn
  have hmk := run_make_cap (w := w) 50 5 (.int .u8 0) 1 Tryz.underlying50 infoB rfl (by omega) (n + 12) (by omega)
  rw [show ((n + 12 : Nat) : Int) = (n : Int) + 12 by omega] at hmk
  have HO := Lib.hid ((make_own w (n + 12) (by omega)).own (base := w.heap.size) (Nat.le_refl _))
  have HA := Lib.hid (bal' w (.cells (Array.replicate (n + 12) (.int .u8 0)) 5))
  have HSA := Lib.hid (show (w.alloc (.cells (Array.replicate (n + 12) (.int .u8 0)) 5)).heap.size = w.heap.size + 1 by simp)
  have HC := Lib.hid (show 0 < n → ∃ g off, p = some ⟨g, off, none⟩ ∧ ∀ i, i < n → (w.alloc (.cells (Array.replicate (n + 12) (.int .u8 0)) 5)).cell? ⟨g, off + i, none⟩ = some (bv (l.getD i 0)) from fun h0 => by
    obtain ⟨g, off, e, hc⟩ := HH.out h0
    exact ⟨g, off, e, fun i hi => (HA.out.cell (p := ⟨g, off + i, none⟩) (blt (hc i hi))).trans (hc i hi)⟩)
  clear hh hn
  go_enter Tryz.func25, Tryz.ntmps25
  go_wp2_with (at_builtin; refine app_own_many rfl _ _ rfl w.heap.size 0 n _ [] l rfl HN.out HO.out p _ HC.out rfl rfl (by omega) (by rw [HSA.out]; omega) ?_; intro p6 c6 w6 hR6 hk6 hg6)
  have HO6 := Lib.hid hR6
  have HB6 := Lib.hid (HA.out.trans ⟨hk6.os, hk6.tape, hk6.output, hk6.size, fun i hi => hk6.block i (by rw [HSA.out]; omega) (fun e => by have e2 : w.heap.size = i := own_is e; omega)⟩)
  clear hR6 hk6 hg6 hmk
  go_loopw [3, 4] (fun v i wr => ∃ k : Nat, k ≤ 12 ∧ i = .int .i64 (k : Int) ∧ Own wr w.heap.size v (l ++ behindL k) ∧ Below w.heap.size w wr) (fun _ i _ => 12 - (intOf i).toNat)
  case atStart => exact ⟨0, by omega, rfl, by have h := HO6.out; rw [Nat.zero_add] at h; rw [show behindL 0 = [] from rfl, List.append_nil]; exact h, HB6.out⟩
  case round =>
    obtain ⟨k, hk, rfl, ho, hB⟩ := hrel
    have hlen : (l ++ behindL k).length = n + k := by rw [List.length_append, behindL_len, HN.out]
    have HLEN := Lib.hid hlen
    have HBR := Lib.hid hB
    have hsr := hB.size
    by_cases hlt : k < 12
    · obtain ⟨pv, cv, rfl⟩ := ho.shape
      rw [hlen] at ho ⊢
      have HOV := Lib.hid ho
      have HS := Lib.hid (show (l ++ behindL k) ++ [mkB 1 k] = l ++ behindL (k + 1) by rw [behindL_succ, List.append_assoc])
      clear ho hlen hB
      go_wp2_with fail
      refine (markByte_any wr 1 k (by omega) (by omega)).mono ?_
      rintro e w5 ⟨rfl, rfl⟩
      go_wp2_with (at_builtin; refine app_own rfl _ _ rfl w.heap.size (n + k) _ _ (mkB 1 k) HLEN.out HOV.out rfl rfl (by omega) hsr ?_; intro g' c' w6 hR6 hk6 hs6 hg6)
      go_roundw
      case rel =>
        refine ⟨k + 1, by omega, by go_num, by rw [← HS.out]; exact hR6, HBR.out.trans (hk6.toBelow hsr (fun i hi => (HOV.out.blk i hi).1))⟩
      case measure => simp [intOf]; omega
    · obtain rfl : k = 12 := by omega
      obtain ⟨g, cv, e, hg, hrow⟩ := ho.row (by omega)
      have hcap : n + 12 ≤ cv := by
        obtain ⟨C, h1, h2, h3, _⟩ := hrow
        omega
      subst e
      rw [hlen]
      have HF := Lib.hid (show LentAt wr w.heap.size (.slice (some ⟨g, 0, none⟩) n cv) l from ⟨g, cv, by rw [HN.out], hg, hrow⟩)
      clear hrow ho hlen hB
      go_wp2
      go_ret
      exact ⟨_, rfl, HF.out, HBR.out⟩
end -- KitB

section -- LayN
open Go.RowKit Go.Maps
set_option linter.unusedVariables false
set_option linter.unusedSimpArgs false
set_option maxRecDepth 100000
set_option maxHeartbeats 2000000

theorem jodd_any (w : World) (bx wd : Nat) (hb : w.cell? ⟨bx, 0, none⟩ = some (.int .i64 (wd : Int))) (p : Option Addr) (c : Nat) :
    Calls Tryz.prog 85 #[.slice p wd c, .pointer (some ⟨bx, 0, none⟩)] w fun e w' => e = .returned (.bool false) ∧ w = w' := by
  go_enter Tryz.func85, Tryz.ntmps85
  go_wp2
  go_ret
  exact ⟨by simp, rfl⟩

theorem jindex_any (w : World) (bx wd : Nat) (vl : Value) (ls : List (List B)) (hb : w.cell? ⟨bx, 0, none⟩ = some (.int .i64 (wd : Int))) (hl : RowsAt w vl ls) (hlen : ls.length ≤ 1000000000) (hw : ∀ i, i < ls.length → (ls.getD i []).length = wd) :
    Calls Tryz.prog 108 #[vl, .func (.func 85) #[] #[.pointer (some ⟨bx, 0, none⟩)]] w fun e w' => e = .returned (.int .i64 (-1)) ∧ w = w' := by
  obtain ⟨pl, cl, rfl, hh⟩ := hl
  have HH := Lib.hid hh
  have HB := Lib.hid hb
  have HW := Lib.hid hw
  clear hh hb hw
  go_enter Tryz.func108, Tryz.ntmps108
  go_wp2
  go_loop [5, 8, 9, 10, 11, 12, 13, 14, 15, 16] (fun _ i _ _ _ _ _ _ _ _ => ∃ k : Nat, k ≤ ls.length ∧ i = .int .i64 (k : Int)) (fun _ i _ _ _ _ _ _ _ _ => ls.length - (intOf i).toNat)
  case atStart => exact ⟨0, Nat.zero_le _, rfl⟩
  case round =>
    obtain ⟨k, hk, rfl⟩ := hrel
    by_cases hlt : k < ls.length
    · obtain ⟨g, off, rfl, hc⟩ := HH.out (by omega)
      obtain ⟨u, hu, hub⟩ := hc k hlt
      obtain ⟨pu, cu, rfl⟩ := hub.shape
      rw [HW.out k hlt] at hu
      have HR := Lib.hid (jodd_any w bx wd HB.out pu cu)
      clear hc hub
      go_wp2_with fail
      refine HR.out.mono ?_
      rintro e w' ⟨rfl, rfl⟩
      go_wp2
      go_round
      case rel => exact ⟨k + 1, by omega, by go_num⟩
      case measure => simp [intOf]; omega
    · go_wp2
      go_ret
      exact ⟨rfl, rfl⟩

theorem jcontains_any (w : World) (bx wd : Nat) (vl : Value) (ls : List (List B)) (hb : w.cell? ⟨bx, 0, none⟩ = some (.int .i64 (wd : Int))) (hl : RowsAt w vl ls) (hlen : ls.length ≤ 1000000000) (hw : ∀ i, i < ls.length → (ls.getD i []).length = wd) :
    Calls Tryz.prog 86 #[vl, .func (.func 85) #[] #[.pointer (some ⟨bx, 0, none⟩)]] w fun e w' => e = .returned (.bool false) ∧ w = w' := by
  have KEY := Lib.hid (jindex_any w bx wd vl ls hb hl hlen hw)
  clear hb hl
  go_enter Tryz.func86, Tryz.ntmps86
  go_wp2_with (go_at_call 108; refine KEY.out.mono ?_; rintro e w' ⟨rfl, rfl⟩)
  go_ret
  exact ⟨rfl, rfl⟩

/-- slices.Grow of nothing. -/
theorem grow_any (w : World) (n : Nat) (hn : n ≤ 1000000000) :
    Calls Tryz.prog 109 #[.slice none 0 0, .int .i64 (n : Int)] w fun e w' => ∃ v, e = .returned v ∧ Own w' w.heap.size v [] ∧ (n = 0 → v = .slice none 0 0) ∧ Below w.heap.size w w' := by
  by_cases h0 : n = 0
  · subst h0
    go_enter Tryz.func109, Tryz.ntmps109
    go_wp2
    go_ret
    exact ⟨_, rfl, Own.nil _ _, fun _ => rfl, Below.refl _ _⟩
  · obtain ⟨i, hi, hz, hsize, hbytes⟩ := info_parts infoB
    have hr := Lib.run_append_nil_zeros (P := Tryz.prog) w 50 3 50 5 i (.int .u8 0) .i64 .i64 Tryz.underlying50 Tryz.underlying3 hi hz n (by omega) (by omega) (by omega) (by rw [hbytes]; omega)
    obtain ⟨cp, hcp⟩ : ∃ cp, grownCap w n 0 5 = cp := ⟨_, rfl⟩
    have hge := grownCap_ge w n 0 5
    have hle := grownCap_le_maxLen w n 0 5 (by unfold maxLen; omega)
    rw [hcp] at hr hge hle
    obtain ⟨C, hC⟩ : ∃ C, Builtin.zeroCells (Value.int .u8 0).cells n ++ Builtin.zeroCells (Value.int .u8 0).cells (cp - n) = C := ⟨_, rfl⟩
    have hCs : C.size = cp := by
      rw [← hC, Array.size_append, size_zeroCells, size_zeroCells, show (Value.int .u8 0).cells.size = 1 from rfl]
      omega
    rw [hC] at hr
    have HO := Lib.hid (show Own (w.drew.alloc (.cells C 5)) w.heap.size (.slice (some ⟨w.heap.size, 0, none⟩) 0 cp) [] from ⟨rfl, .inr ⟨w.heap.size, cp, _, rfl, Nat.le_refl _, heap_alloc_new w.drew _, Nat.zero_le _, hle, by rw [hCs, Nat.mul_one], by simp⟩⟩)
    have HBW := Lib.hid (show Below w.heap.size w (w.drew.alloc (.cells C 5)) from ⟨rfl, rfl, rfl, by simp, fun k hk => Below.heap_alloc w.drew _ k hk⟩)
    have hn0 : 0 < n := by omega
    clear hC hCs hcp
    go_enter Tryz.func109, Tryz.ntmps109
    go_wp2_with (at_builtin; refine Lib.wpList_append_run _ rfl _ _ _ _ rfl _ _ rfl rfl _ _ hr ?_)
    go_ret
    exact ⟨_, rfl, HO.out, fun h => absurd h h0, HBW.out⟩

/-- Append of bytes, however many; of none, it is the same row. -/
theorem app_own_keep {ops : Array Oper} {rest : List Oper} {o : Oper} {a : Act} {Q : Exit → Act → World → Prop} {W : World}
    (hgd : o.guard = none) (s x : Operand) (ho : o.op = .call { callee := .builtin .append, args := #[s, x], argTypes := #[50, 50] })
    (base n m : Nat) (v : Value) (l1 l2 : List B) (hn : l1.length = n) (hm : l2.length = m) (hown : Own W base v l1) (p : Option Addr) (c : Nat) (hc : 0 < m → ∃ g off, p = some ⟨g, off, none⟩ ∧ ∀ i, i < m → W.cell? ⟨g, off + i, none⟩ = some (bv (l2.getD i 0)))
    (hs : a.eval s = v) (hx : a.eval x = .slice p m c) (hnm : n + m < 1000000000000) (hbase : base ≤ W.heap.size)
    (h : ∀ p' c' w', Own w' base (.slice p' (n + m) c') (l1 ++ l2) → Kept (fun k => v.ownBlock = some k) W w' → (∀ b, (Value.slice p' (n + m) c').ownBlock = some b → v.ownBlock = some b ∨ W.heap.size ≤ b) → (m = 0 → Value.slice p' (n + m) c' = v) →
      wpList Tryz.prog ops Q rest (a.put o.dst (.slice p' (n + m) c')) w') : wpList Tryz.prog ops Q (o :: rest) a W := by
  by_cases h0 : m = 0
  · subst h0
    obtain rfl : l2 = [] := List.eq_nil_of_length_eq_zero hm
    obtain ⟨p', c', rfl⟩ := hown.shape
    have h1 := h p' c' W (by rw [List.append_nil, Nat.add_zero, ← hn]; exact hown) (Kept.refl _ _) (fun b hb => .inl (by rw [hn]; exact hb)) (fun _ => by rw [hn]; rfl)
    refine app_none 50 5 1 1 (.int .u8 0) Tryz.underlying50 infoB hgd s x ho base l1.length (.slice p' l1.length c') (l1.map bv) hs hown p c hx ?_
    rw [hn]
    exact h1
  · obtain ⟨g, off, rfl, hcc⟩ := hc (by omega)
    refine app_bytes 50 Tryz.underlying50 hgd s x ho base n m v l1 l2 hn hm hs (by rw [← hn]; exact hown) g off c hx hcc (by omega) hnm hbase ?_
    intro g' c' w' hR hb hk hg
    refine h _ c' w' ?_ hk (fun b hb' => ?_) (fun h => absurd h h0)
    · have := hR.own hb
      rwa [List.length_append, hn, hm] at this
    · have e : g' = b := own_is hb'
      subst e
      exact hg

/-- slices.Concat of rows that are alike wide. -/
theorem concat_any (w : World) (vl : Value) (ls : List (List B)) (k wd : Nat) (hl : RowsAt w vl ls) (hk : ls.length = k) (hk2 : k ≤ 255) (hwd : wd ≤ 65535) (hw : ∀ i, i < ls.length → (ls.getD i []).length = wd) :
    Calls Tryz.prog 87 #[vl] w fun e w' => ∃ v, e = .returned v ∧ Own w' w.heap.size v ls.flatten ∧ (k * wd = 0 → v = .slice none 0 0) ∧ Below w.heap.size w w' := by
  obtain ⟨pl, cl, rfl, hh⟩ := hl
  have HF := Lib.hid (show ls.take k = ls from List.take_of_length_le (by omega))
  have HTS := Lib.hid (fun (i : Nat) (hi : i < k) => show (ls.take (i + 1)).flatten = (ls.take i).flatten ++ ls.getD i [] from by
    rw [List.take_add_one, List.getElem?_eq_getElem (by omega), List.flatten_append, List.getD_eq_getElem?_getD, List.getElem?_eq_getElem (by omega)]
    simp)
  have HTL : ∀ i, i ≤ k → ((ls.take i).flatten).length = i * wd := by
    intro i
    induction i with
    | zero => intro _; simp
    | succ i ih =>
      intro h
      rw [HTS.out i (by omega), List.length_append, ih (by omega), hw i (by omega), Nat.succ_mul]
  have HTL := Lib.hid HTL
  have HIW := Lib.hid (fun (i : Nat) (hi : i < k) => show i * wd + wd ≤ 255 * 65535 ∧ i * wd + wd = (i + 1) * wd from ⟨by rw [← Nat.succ_mul]; exact Nat.mul_le_mul (by omega) hwd, by rw [Nat.succ_mul]⟩)
  rw [hk] at hh hw ⊢
  have HH := Lib.hid hh
  have HW := Lib.hid hw
  have hN : k * wd ≤ 255 * 65535 := Nat.mul_le_mul hk2 hwd
  clear hh hw
  go_enter Tryz.func87, Tryz.ntmps87
  go_wp2
  go_loopw [3, 5, 11] (fun s _ i wr => ∃ j : Nat, j ≤ k ∧ i = .int .i64 (j : Int) ∧ s = .int .i64 ((j * wd : Nat) : Int) ∧ w = wr) (fun _ _ i _ => k - (intOf i).toNat)
  case atStart => exact ⟨0, Nat.zero_le _, rfl, by rw [Nat.zero_mul]; rfl, by first | rfl | trivial⟩
  case round =>
    obtain ⟨j, hj, rfl, rfl, rfl⟩ := hrel
    by_cases hlt : j < k
    · obtain ⟨g, off, rfl, hc⟩ := HH.out (by omega)
      obtain ⟨u, hu, hub⟩ := hc j hlt
      obtain ⟨pu, cu, rfl⟩ := hub.shape
      rw [HW.out j hlt] at hu
      obtain ⟨i1, i2⟩ := HIW.out j hlt
      obtain ⟨q, hq⟩ : ∃ q, j * wd = q := ⟨_, rfl⟩
      rw [hq] at i1 i2 ⊢
      have HI2 := Lib.hid i2
      clear hc hub hq i2
      go_wp2
      go_roundw
      case rel => exact ⟨j + 1, by omega, by go_num, by rw [← HI2.out]; go_num, by first | rfl | trivial⟩
      case measure => simp [intOf]; omega
    · obtain rfl : j = k := by omega
      have HG := Lib.hid (grow_any w (j * wd) (by omega))
      obtain ⟨N, hNN⟩ : ∃ N, j * wd = N := ⟨_, rfl⟩
      have HNN := Lib.hid hNN
      rw [hNN] at HG hN ⊢
      clear hNN
      go_wp2_with fail
      refine HG.out.mono ?_
      rintro e w1 ⟨v1, rfl, ho1, hv1, hB1⟩
      obtain ⟨p1, c1, rfl⟩ := ho1.shape
      have HO1 := Lib.hid ho1
      have HB1 := Lib.hid hB1
      have HV1 := Lib.hid hv1
      clear ho1 hB1 hv1
      go_wp2
      go_loopw [6, 8, 27] (fun v _ i wr => ∃ t : Nat, t ≤ j ∧ i = .int .i64 (t : Int) ∧ Own wr w.heap.size v (ls.take t).flatten ∧ (N = 0 → v = .slice none 0 0) ∧ Below w.heap.size w wr) (fun _ _ i _ => j - (intOf i).toNat)
      case atStart => exact ⟨0, Nat.zero_le _, rfl, HO1.out, HV1.out, HB1.out⟩
      case round =>
        obtain ⟨wo, rfl⟩ : ∃ wo, wo = wr := ⟨_, rfl⟩
        obtain ⟨t, ht, rfl, ho, hv0, hB⟩ := hrel
        have HB := Lib.hid hB
        have hlen := HTL.out t ht
        obtain ⟨pv, cv, rfl⟩ := ho.shape
        rw [hlen] at ho hv0 ⊢
        have HO := Lib.hid ho
        have HV0 := Lib.hid hv0
        have HLEN := Lib.hid hlen
        have hsr := hB.size
        clear ho hv0 hlen hB
        by_cases hlt2 : t < j
        · obtain ⟨g, off, rfl, hc⟩ := HH.out (by omega)
          obtain ⟨u, hu, hub⟩ := hc t hlt2
          have hwt := HW.out t hlt2
          have hub2 := hub.below HB.out
          obtain ⟨pu, cu, rfl, hub3⟩ := hub2
          have hu := (HB.out.cell (p := ⟨g, off + t, none⟩) (blt hu)).trans hu
          rw [hwt] at hu hub3
          have HUB := Lib.hid hub3
          have HWT := Lib.hid hwt
          obtain ⟨i1, i2⟩ := HIW.out t hlt2
          have HI2 := Lib.hid i2
          have HTT := Lib.hid (HTS.out t hlt2)
          have HTN := Lib.hid (show N = 0 → t * wd + wd = 0 from fun h => by rw [i2]; have : (t + 1) * wd ≤ j * wd := Nat.mul_le_mul_right _ hlt2; have := HNN.out; omega)
          obtain ⟨q, hq⟩ : ∃ q, t * wd = q := ⟨_, rfl⟩
          rw [hq] at i1 HI2 HO HV0 HLEN HTN ⊢
          clear hc hub hub3 hwt hq i2
          go_wp2_with (at_builtin; refine app_own_keep rfl _ _ rfl w.heap.size q wd _ _ _ HLEN.out HWT.out HO.out pu cu HUB.out rfl rfl (by omega) hsr ?_; intro p6 c6 w6 hR6 hk6 hg6 hz6)
          go_roundw
          case rel => exact ⟨t + 1, by omega, by go_num, by rw [HTT.out]; exact hR6, fun h => by rw [hz6 (by have := HTN.out h; omega)]; exact HV0.out h, HB.out.trans (hk6.toBelow hsr (fun i hi => (HO.out.blk i hi).1))⟩
          case measure => simp [intOf]; omega
        · obtain rfl : t = j := by omega
          have HFF := HF.out
          go_wp2
          go_ret
          exact ⟨_, rfl, by rw [← HFF]; exact HO.out, fun h => HV0.out (by rw [← HNN.out]; exact h), HB.out⟩

/-- Rows that are cut behind a length. -/
theorem own_cut {w : World} {base n c long : Nat} {p : Option Addr} {l : List B} (h : Own w base (.slice p n c) l) (hn : l.length = n) (hl : long ≤ n) (h0 : 0 < long) : OwnL w base (.slice p long long) (l.take long) := by
  obtain ⟨g, c', e, hb, hr⟩ := h.row (by omega)
  have e1 := (Value.slice.inj e).1
  subst e1
  have htl : (l.take long).length = long := by rw [List.length_take]; omega
  refine .inr ⟨g, by rw [htl], hb, by omega, ?_⟩
  obtain ⟨C, q1, q2, q3, q4, q5⟩ := hr
  refine ⟨C, q1, by rw [htl]; omega, fun i hi => ?_⟩
  rw [htl] at hi
  rw [q5 i (by omega), List.getD_eq_getElem?_getD, List.getD_eq_getElem?_getD, List.getElem?_take, if_pos hi]

theorem join_any (w : World) (vr : Value) (rows : List (List B)) (long k : Nat) (hr : RowsAt w vr rows) (hk : rows.length = k) (h1 : 1 ≤ k) (h2 : k ≤ 255) (hl : long ≤ 65535) (hw : ∀ i, i < rows.length → (rows.getD i []).length = wdN long k) :
    Calls Tryz.prog 61 #[vr, .int .i64 (long : Int)] w fun e w' => ∃ v, e = .returned (.tuple #[v, .int .i64 0]) ∧ OwnL w' w.heap.size v (joinL rows long) ∧ Below w.heap.size w w' := by
  have hwl := wdN_le (long := long) h1
  have hge := wdN_ge (long := long) h1
  have hlt := wdN_lt (long := long) h1
  have HW := Lib.hid (fun W => width_any W long k hl h1 h2)
  have hzero : long = 0 → k * wdN long k = 0 := fun h => by rw [h]; unfold wdN; rw [Nat.zero_add, Nat.div_eq_of_lt (by omega)]; rfl
  have HFL := Lib.hid (show ∀ m, (∀ i, i < rows.length → (rows.getD i []).length = m) → rows.flatten.length = k * m from fun m hm => by
    rw [List.length_flatten, ← hk]
    have : rows.map List.length = List.replicate rows.length m := by
      apply List.ext_getElem
      · simp
      · intro i a b
        have := hm i (by simpa using a)
        rw [List.getD_eq_getElem?_getD, List.getElem?_eq_getElem (by simpa using a)] at this
        simpa using this
    rw [this, List.sum_replicate_nat])
  obtain ⟨wd, hwd⟩ : ∃ wd, wdN long k = wd := ⟨_, rfl⟩
  rw [hwd] at hw HW hwl hge hlt hzero
  have HHW := Lib.hid hw
  have hB1 := (Kept.alloc (fun _ => False) w (.cells #[.int .i64 (wd : Int)] 3)).toBelow (Nat.le_refl _) (fun _ h => h.elim)
  have hc1 : (w.alloc (.cells #[.int .i64 (wd : Int)] 3)).cell? ⟨w.heap.size, 0, none⟩ = some (.int .i64 (wd : Int)) := World.cell?_alloc_new w _ _ 0
  have HCT := Lib.hid (jcontains_any _ w.heap.size wd vr rows hc1 (hr.below hB1) (by omega) hw)
  have HCC := Lib.hid (concat_any _ vr rows k wd (hr.below hB1) hk h2 (by omega) hw)
  have HB1 := Lib.hid hB1
  have hs1 : (w.alloc (.cells #[.int .i64 (wd : Int)] 3)).heap.size = w.heap.size + 1 := by simp
  have HFN := Lib.hid (HFL.out wd hw)
  have HZ := Lib.hid hzero
  have HGE := Lib.hid (show long ≤ k * wd by rw [Nat.mul_comm]; exact hge)
  obtain ⟨p, c, rfl⟩ := hr.shape
  rw [hk] at HCT HCC ⊢
  clear hr hw hwd hB1 hc1 hzero hge hlt
  go_enter Tryz.func61, Tryz.ntmps61
  go_wp2_with fail
  refine (HW.out _).mono ?_
  rintro e w' ⟨rfl, rfl⟩
  go_wp2_with fail
  refine HCT.out.mono ?_
  rintro e w' ⟨rfl, rfl⟩
  go_wp2_with fail
  refine HCC.out.mono ?_
  rintro e w2 ⟨v, rfl, ho, hv0, hB2⟩
  have HB2 := Lib.hid (below_more HB1.out hB2 HB1.out.size)
  obtain ⟨pv, cv, rfl⟩ := ho.shape
  by_cases h0 : long = 0
  · have e := hv0 (HZ.out h0)
    rw [e]
    subst h0
    clear ho hv0 hB2 e
    go_wp2
    go_ret2
    exact ⟨_, rfl, .inl (by unfold joinL; rw [List.take_zero]; exact Own.nil _ _), HB2.out⟩
  · have hge := HGE.out
    have hfn := HFN.out
    have HOC := Lib.hid (own_cut (long := long) (ho.weaken (show w.heap.size ≤ _ by rw [hs1]; omega)) rfl (by omega) (by omega))
    have hcap : rows.flatten.length ≤ cv := by
      rcases ho.2 with ⟨e, _⟩ | ⟨g, cap, cur, e, _, _, hn, _⟩
      · have := (Value.slice.inj e).2.1; omega
      · have := (Value.slice.inj e).2.2; omega
    have hlc : long ≤ cv := by omega
    have hpv : ∃ g, pv = some ⟨g, 0, none⟩ := by
      obtain ⟨g, c', e, _⟩ := ho.row (by omega)
      exact ⟨g, (Value.slice.inj e).1⟩
    obtain ⟨g, rfl⟩ := hpv
    obtain ⟨n, hn⟩ : ∃ n, rows.flatten.length = n := ⟨_, rfl⟩
    rw [hn] at hcap ⊢
    have hl0 : 0 < long := by omega
    clear ho hv0 hB2 hge hfn hn
    go_wp2
    all_goals first | (exfalso; omega) | skip
    go_ret2
    exact ⟨_, rfl, HOC.out, HB2.out⟩
end -- LayN

end Go.Proofs.YtanjchpkekehgaaGreat
