/-
  KitA: Walks of the kit: mark, markByte.
  KitB: Walks of the kit: LentBytes, KeptBytes.
-/
import Derived.Test.YtanjchpkekehgaaGreatMxaz
namespace Go.Proofs.YtanjchpkekehgaaGreat

section -- KitA
open Go.RowKit Go.Maps
set_option linter.unusedVariables false
set_option maxRecDepth 100000
set_option maxHeartbeats 2000000

def mkN (k i : Nat) : Nat := 1000003 * (k + 7) + i
theorem mark_any (w : World) (k i : Nat) (hk : k ≤ 1000000) (hi : i ≤ 1000000) :
    Calls Tryz.prog 26 #[.int .i64 (k : Int), .int .i64 (i : Int)] w fun e w' => e = .returned (.int .i64 ((mkN k i : Nat) : Int)) ∧ w = w' := by
  have HM := Lib.hid (show ((mkN k i : Nat) : Int) = 1000003 * ((k : Int) + 7) + i by unfold mkN; omega)
  go_enter Tryz.func26, Tryz.ntmps26
  go_wp2
  go_ret
  exact ⟨by rw [HM.out]; rfl, rfl⟩

def mkB (k i : Nat) : B := ⟨mkN k i * 11400714819323198485 % 18446744073709551616 / 72057594037927936, by omega⟩
theorem markByte_any (w : World) (k i : Nat) (hk : k ≤ 1000000) (hi : i ≤ 1000000) :
    Calls Tryz.prog 46 #[.int .i64 (k : Int), .int .i64 (i : Int)] w fun e w' => e = .returned (bv (mkB k i)) ∧ w = w' := by
  have hb : mkN k i < 2000000000000 := by unfold mkN; omega
  obtain ⟨m, hm⟩ : ∃ m, mkN k i = m := ⟨_, rfl⟩
  have HM := Lib.hid hm
  rw [hm] at hb
  have HV := Lib.hid (show IntKind.u64.wrap ((m : Int) * 11400714819323198485) / 72057594037927936 % 256 = (((mkB k i).v : Nat) : Int) by
    have e : (mkB k i).v = m * 11400714819323198485 % 18446744073709551616 / 72057594037927936 := by
      show mkN k i * 11400714819323198485 % 18446744073709551616 / 72057594037927936 = _
      rw [hm]
    have hw : IntKind.u64.wrap ((m : Int) * 11400714819323198485) = (m : Int) * 11400714819323198485 % 18446744073709551616 := by simp [IntKind.wrap, IntKind.bits, IntKind.signed]
    rw [e, hw, show (m : Int) * 11400714819323198485 = ((m * 11400714819323198485 : Nat) : Int) by simp]
    generalize m * 11400714819323198485 = M
    omega)
  clear hm
  go_enter Tryz.func46, Tryz.ntmps46
  go_wp2_with fail
  refine (mark_any w k i hk hi).mono ?_
  rintro e w' ⟨rfl, rfl⟩
  rw [HM.out]
  go_wp2
  rw [HV.out]
  go_ret
  exact ⟨rfl, rfl⟩
end -- KitA

section -- KitB
open Go.RowKit Go.Maps
set_option linter.unusedVariables false
set_option maxRecDepth 100000
set_option maxHeartbeats 2000000

/-- make of a length of 0, of such a capacity. -/
theorem run_make_cap {w : World} (t e : TypeId) (z : Value) (bytes : Nat) (ht : Tryz.prog.underlying t = some (.slice e)) (hinfo : (Tryz.prog.info? e).map (fun i => (i.zero, i.size, i.bytes)) = some (some z, 1, bytes)) (hz : z.cells = #[z]) (hby : bytes ≤ 64) (n : Nat) (hn : n ≤ 1000000000000) :
    (Instr.makeSlice t (.int .i64 0) (.int .i64 (n : Int))).run Tryz.prog w = .ok (.slice (some ⟨w.heap.size, 0, none⟩) 0 n) (w.alloc (.cells (Array.replicate n z) e)) := by
  obtain ⟨i, hi, hz', hsize, hbytes⟩ := info_parts hinfo
  subst hbytes
  have hb : i.bytes * n ≤ 64 * n := Nat.mul_le_mul_right n hby
  have hb' : (i.bytes : Int) * (n : Int) ≤ 281474976710656 := by
    have h : ((i.bytes * n : Nat) : Int) ≤ 281474976710656 := by omega
    rwa [Int.natCast_mul] at h
  have hr := run_make (P := Tryz.prog) w t e i z ht hi hz' .i64 .i64 0 n (Int.le_refl _) (by omega) hb' (by omega)
  simp only [Int.toNat_natCast, Int.toNat_zero] at hr
  rw [hr, hsize, Nat.mul_one, hz]
  have : madeCells #[z] n = Array.replicate n z := by
    rw [← Array.toList_inj, toList_madeCells_one, Array.toList_replicate]
  rw [this]

/-- The marks behind what is lent. -/
def behindL (m : Nat) : List B := (List.range m).map (mkB 1)
theorem behindL_len (m : Nat) : (behindL m).length = m := by simp [behindL]
theorem behindL_succ (m : Nat) : behindL (m + 1) = behindL m ++ [mkB 1 m] := by simp [behindL, List.range_succ]

/-- A slice that is lent: of its own block, the marks behind it. -/
def LentAt (w : World) (base : Nat) (v : Value) (l : List B) : Prop := ∃ g c, v = .slice (some ⟨g, 0, none⟩) l.length c ∧ base ≤ g ∧ RowC w g c (l ++ behindL 12)
section
variable {w w' : World} {base : Nat} {v : Value} {l : List B}
theorem LentAt.own (h : LentAt w base v l) : Own w base v l := by
  obtain ⟨g, c, rfl, hb, C, h1, h2, h3, h4, h5⟩ := h
  have hl : (l ++ behindL 12).length = l.length + 12 := by simp [behindL_len]
  refine RowC.own (c := c) ⟨C, h1, h2, by omega, h4, fun i hi => ?_⟩ hb
  rw [h5 i (by omega), List.getD_eq_getElem?_getD, List.getElem?_append_left hi, ← List.getD_eq_getElem?_getD]
theorem LentAt.blk (h : LentAt w base v l) : ∀ b, v.ownBlock = some b → base ≤ b ∧ b < w.heap.size := h.own.blk
theorem LentAt.kept {S : Nat → Prop} (h : LentAt w base v l) (hk : Kept S w w') (hS : ∀ b, v.ownBlock = some b → ¬ S b) : LentAt w' base v l := by
  obtain ⟨g, c, rfl, hb, h1⟩ := h
  exact ⟨g, c, rfl, hb, h1.kept hk (hS g rfl)⟩
theorem LentAt.below (h : LentAt w base v l) (hb : Below w.heap.size w w') : LentAt w' base v l := h.kept (Kept.below hb) (fun _ _ h => h)
theorem LentAt.weaken {base' : Nat} (h : LentAt w base v l) (hb : base' ≤ base) : LentAt w base' v l := by
  obtain ⟨g, c, rfl, hb1, h1⟩ := h
  exact ⟨g, c, rfl, Nat.le_trans hb hb1, h1⟩
end

/-- Append of bytes, however many. -/
theorem app_own_many {ops : Array Oper} {rest : List Oper} {o : Oper} {a : Act} {Q : Exit → Act → World → Prop} {W : World}
    (hgd : o.guard = none) (s x : Operand) (ho : o.op = .call { callee := .builtin .append, args := #[s, x], argTypes := #[50, 50] })
    (base n m : Nat) (v : Value) (l1 l2 : List B) (hn : l1.length = n) (hm : l2.length = m) (hown : Own W base v l1) (p : Option Addr) (c : Nat) (hc : 0 < m → ∃ g off, p = some ⟨g, off, none⟩ ∧ ∀ i, i < m → W.cell? ⟨g, off + i, none⟩ = some (bv (l2.getD i 0)))
    (hs : a.eval s = v) (hx : a.eval x = .slice p m c) (hnm : n + m < 1000000000000) (hbase : base ≤ W.heap.size)
    (h : ∀ p' c' w', Own w' base (.slice p' (n + m) c') (l1 ++ l2) → Kept (fun k => v.ownBlock = some k) W w' → (∀ b, (Value.slice p' (n + m) c').ownBlock = some b → v.ownBlock = some b ∨ W.heap.size ≤ b) →
      wpList Tryz.prog ops Q rest (a.put o.dst (.slice p' (n + m) c')) w') : wpList Tryz.prog ops Q (o :: rest) a W := by
  by_cases h0 : m = 0
  · subst h0
    obtain rfl : l2 = [] := List.eq_nil_of_length_eq_zero hm
    obtain ⟨p', c', rfl⟩ := hown.shape
    have h1 := h p' c' W (by rw [List.append_nil, Nat.add_zero, ← hn]; exact hown) (Kept.refl _ _) (fun b hb => .inl (by rw [hn]; exact hb))
    refine app_none 50 5 1 1 (.int .u8 0) Tryz.underlying50 infoB hgd s x ho base l1.length (.slice p' l1.length c') (l1.map bv) hs hown p c hx ?_
    rw [hn]
    exact h1
  · obtain ⟨g, off, rfl, hcc⟩ := hc (by omega)
    refine app_bytes 50 Tryz.underlying50 hgd s x ho base n m v l1 l2 hn hm hs (by rw [← hn]; exact hown) g off c hx hcc (by omega) hnm hbase ?_
    intro g' c' w' hR hb hk hg
    refine h _ c' w' ?_ hk (fun b hb' => ?_)
    · have := hR.own hb
      rwa [List.length_append, hn, hm] at this
    · have e : g' = b := own_is hb'
      subst e
      exact hg

theorem make_own (w : World) (n : Nat) (hn : n ≤ 1000000000000) : RowC (w.alloc (.cells (Array.replicate n (.int .u8 0)) 5)) w.heap.size n [] := ⟨_, heap_alloc_new w _, by simp, by simp, by unfold maxLen; omega, fun i hi => by simp at hi⟩

theorem lentB_any (w : World) (v : Value) (l : List B) (hv : BytesAt w v l) (hl : l.length ≤ 1000000) :
    Calls Tryz.prog 25 #[v] w fun e w' => ∃ v', e = .returned v' ∧ LentAt w' w.heap.size v' l ∧ Below w.heap.size w w' := by
  obtain ⟨p, c, rfl, hh⟩ := hv
  have HH := Lib.hid hh
  obtain ⟨n, hn⟩ : ∃ n, l.length = n := ⟨_, rfl⟩
  rw [hn] at HH hl ⊢
  have HN := Lib.hid hn
  have hmk := run_make_cap (w := w) 50 5 (.int .u8 0) 1 Tryz.underlying50 infoB rfl (by omega) (n + 12) (by omega)
  rw [show ((n + 12 : Nat) : Int) = (n : Int) + 12 by omega] at hmk
  have HO := Lib.hid ((make_own w (n + 12) (by omega)).own (base := w.heap.size) (Nat.le_refl _))
  have HA := Lib.hid (bal' w (.cells (Array.replicate (n + 12) (.int .u8 0)) 5))
  have HSA := Lib.hid (show (w.alloc (.cells (Array.replicate (n + 12) (.int .u8 0)) 5)).heap.size = w.heap.size + 1 by simp)
  have HC := Lib.hid (show 0 < n → ∃ g off, p = some ⟨g, off, none⟩ ∧ ∀ i, i < n → (w.alloc (.cells (Array.replicate (n + 12) (.int .u8 0)) 5)).cell? ⟨g, off + i, none⟩ = some (bv (l.getD i 0)) from fun h0 => by
    obtain ⟨g, off, e, hc⟩ := HH.out h0
    exact ⟨g, off, e, fun i hi => (HA.out.cell (p := ⟨g, off + i, none⟩) (blt (hc i hi))).trans (hc i hi)⟩)
  clear hh hn
  go_enter Tryz.func25, Tryz.ntmps25
  go_wp2_with (at_builtin; refine app_own_many rfl _ _ rfl w.heap.size 0 n _ [] l rfl HN.out HO.out p _ HC.out rfl rfl (by omega) (by rw [HSA.out]; omega) ?_; intro p6 c6 w6 hR6 hk6 hg6)
  have HO6 := Lib.hid hR6
  have HB6 := Lib.hid (HA.out.trans ⟨hk6.os, hk6.tape, hk6.output, hk6.size, fun i hi => hk6.block i (by rw [HSA.out]; omega) (fun e => by have e2 : w.heap.size = i := own_is e; omega)⟩)
  clear hR6 hk6 hg6 hmk
  go_loopw [3, 4] (fun v i wr => ∃ k : Nat, k ≤ 12 ∧ i = .int .i64 (k : Int) ∧ Own wr w.heap.size v (l ++ behindL k) ∧ Below w.heap.size w wr) (fun _ i _ => 12 - (intOf i).toNat)
  case atStart => exact ⟨0, by omega, rfl, by have h := HO6.out; rw [Nat.zero_add] at h; rw [show behindL 0 = [] from rfl, List.append_nil]; exact h, HB6.out⟩
  case round =>
    obtain ⟨k, hk, rfl, ho, hB⟩ := hrel
    have hlen : (l ++ behindL k).length = n + k := by rw [List.length_append, behindL_len, HN.out]
    have HLEN := Lib.hid hlen
    have HBR := Lib.hid hB
    have hsr := hB.size
    by_cases hlt : k < 12
    · obtain ⟨pv, cv, rfl⟩ := ho.shape
      rw [hlen] at ho ⊢
      have HOV := Lib.hid ho
      have HS := Lib.hid (show (l ++ behindL k) ++ [mkB 1 k] = l ++ behindL (k + 1) by rw [behindL_succ, List.append_assoc])
      clear ho hlen hB
      go_wp2_with fail
      refine (markByte_any wr 1 k (by omega) (by omega)).mono ?_
      rintro e w5 ⟨rfl, rfl⟩
      go_wp2_with (at_builtin; refine app_own rfl _ _ rfl w.heap.size (n + k) _ _ (mkB 1 k) HLEN.out HOV.out rfl rfl (by omega) hsr ?_; intro g' c' w6 hR6 hk6 hs6 hg6)
      go_roundw
      case rel =>
        refine ⟨k + 1, by omega, by go_num, by rw [← HS.out]; exact hR6, HBR.out.trans (hk6.toBelow hsr (fun i hi => (HOV.out.blk i hi).1))⟩
      case measure => simp [intOf]; omega
    · obtain rfl : k = 12 := by omega
      obtain ⟨g, cv, e, hg, hrow⟩ := ho.row (by omega)
      have hcap : n + 12 ≤ cv := by
        obtain ⟨C, h1, h2, h3, _⟩ := hrow
        omega
      subst e
      rw [hlen]
      have HF := Lib.hid (show LentAt wr w.heap.size (.slice (some ⟨g, 0, none⟩) n cv) l from ⟨g, cv, by rw [HN.out], hg, hrow⟩)
      clear hrow ho hlen hB
      go_wp2
      go_ret
      exact ⟨_, rfl, HF.out, HBR.out⟩
end -- KitB

end Go.Proofs.YtanjchpkekehgaaGreat
