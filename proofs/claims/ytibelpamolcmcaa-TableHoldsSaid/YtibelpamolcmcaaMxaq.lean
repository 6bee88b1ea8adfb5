/-
  KitA: Walks of the kit: mark, markByte.
  KitB: Walks of the kit: LentBytes, KeptBytes.
  LayN: Layer 9, walks: Join: rows as bytes (slices.Grow, slices.Concat).
-/
import Derived.Test.YtibelpamolcmcaaMxap
import Derived.Test.YtibelpamolcmcaaMxao
import Derived.Test.YtibelpamolcmcaaMxal
import Derived.Lib.AppendZeros
namespace Go.Proofs.Ytibelpamolcmcaa

section -- KitA
open Go.RowKit Go.Maps
set_option linter.unusedVariables false
set_option maxRecDepth 100000
set_option maxHeartbeats 2000000

def mkN (k i : Nat) : Nat := 1000003 * (k + 7) + i
def mkB (k i : Nat) : B := ⟨mkN k i * 11400714819323198485 % 18446744073709551616 / 72057594037927936, by omega⟩
end -- KitA

section -- KitB
open Go.RowKit Go.Maps
set_option linter.unusedVariables false
set_option maxRecDepth 100000
set_option maxHeartbeats 2000000

/-- make of a length of 0, of such a capacity. -/
theorem run_make_cap {w : World} (t e : TypeId) (z : Value) (bytes : Nat) (ht : Try.prog.underlying t = some (.slice e)) (hinfo : (Try.prog.info? e).map (fun i => (i.zero, i.size, i.bytes)) = some (some z, 1, bytes)) (hz : z.cells = #[z]) (hby : bytes ≤ 64) (n : Nat) (hn : n ≤ 1000000000000) :
    (Instr.makeSlice t (.int .i64 0) (.int .i64 (n : Int))).run Try.prog w = .ok (.slice (some ⟨w.heap.size, 0, none⟩) 0 n) (w.alloc (.cells (Array.replicate n z) e)) := by
  obtain ⟨i, hi, hz', hsize, hbytes⟩ := info_parts hinfo
  subst hbytes
  have hb : i.bytes * n ≤ 64 * n := Nat.mul_le_mul_right n hby
  have hb' : (i.bytes : Int) * (n : Int) ≤ 281474976710656 := by
    have h : ((i.bytes * n : Nat) : Int) ≤ 281474976710656 := by omega
    rwa [Int.natCast_mul] at h
  have hr := run_make (P := Try.prog) w t e i z ht hi hz' .i64 .i64 0 n (Int.le_refl _) (by omega) hb' (by omega)
  simp only [Int.toNat_natCast, Int.toNat_zero] at hr
  rw [hr, hsize, Nat.mul_one, hz]
  have : madeCells #[z] n = Array.replicate n z := by
    rw [← Array.toList_inj, toList_madeCells_one, Array.toList_replicate]
  rw [this]

/-- The marks behind what is lent. -/
def behindL (m : Nat) : List B := (List.range m).map (mkB 1)
theorem behindL_len (m : Nat) : (behindL m).length = m := by simp [behindL]
theorem behindL_succ (m : Nat) : behindL (m + 1) = behindL m ++ [mkB 1 m] := by simp [behindL, List.range_succ]

/-- A slice that is lent: of its own block, the marks behind it. -/
def LentAt (w : World) (base : Nat) (v : Value) (l : List B) : Prop := ∃ g c, v = .slice (some ⟨g, 0, none⟩) l.length c ∧ base ≤ g ∧ RowC w g c (l ++ behindL 12)
section
variable {w w' : World} {base : Nat} {v : Value} {l : List B}
theorem LentAt.own (h : LentAt w base v l) : Own w base v l := by
  obtain ⟨g, c, rfl, hb, C, h1, h2, h3, h4, h5⟩ := h
  have hl : (l ++ behindL 12).length = l.length + 12 := by simp [behindL_len]
  refine RowC.own (c := c) ⟨C, h1, h2, by omega, h4, fun i hi => ?_⟩ hb
  rw [h5 i (by omega), List.getD_eq_getElem?_getD, List.getElem?_append_left hi, ← List.getD_eq_getElem?_getD]
theorem LentAt.blk (h : LentAt w base v l) : ∀ b, v.ownBlock = some b → base ≤ b ∧ b < w.heap.size := h.own.blk
theorem LentAt.kept {S : Nat → Prop} (h : LentAt w base v l) (hk : Kept S w w') (hS : ∀ b, v.ownBlock = some b → ¬ S b) : LentAt w' base v l := by
  obtain ⟨g, c, rfl, hb, h1⟩ := h
  exact ⟨g, c, rfl, hb, h1.kept hk (hS g rfl)⟩
theorem LentAt.below (h : LentAt w base v l) (hb : Below w.heap.size w w') : LentAt w' base v l := h.kept (Kept.below hb) (fun _ _ h => h)
theorem LentAt.weaken {base' : Nat} (h : LentAt w base v l) (hb : base' ≤ base) : LentAt w base' v l := by
  obtain ⟨g, c, rfl, hb1, h1⟩ := h
  exact ⟨g, c, rfl, Nat.le_trans hb hb1, h1⟩
end

/-- Append of bytes, however many. -/
theorem app_own_many {ops : Array Oper} {rest : List Oper} {o : Oper} {a : Act} {Q : Exit → Act → World → Prop} {W : World}
    (hgd : o.guard = none) (s x : Operand) (ho : o.op = .call { callee := .builtin .append, args := #[s, x], argTypes := #[32, 32] })
    (base n m : Nat) (v : Value) (l1 l2 : List B) (hn : l1.length = n) (hm : l2.length = m) (hown : Own W base v l1) (p : Option Addr) (c : Nat) (hc : 0 < m → ∃ g off, p = some ⟨g, off, none⟩ ∧ ∀ i, i < m → W.cell? ⟨g, off + i, none⟩ = some (bv (l2.getD i 0)))
    (hs : a.eval s = v) (hx : a.eval x = .slice p m c) (hnm : n + m < 1000000000000) (hbase : base ≤ W.heap.size)
    (h : ∀ p' c' w', Own w' base (.slice p' (n + m) c') (l1 ++ l2) → Kept (fun k => v.ownBlock = some k) W w' → (∀ b, (Value.slice p' (n + m) c').ownBlock = some b → v.ownBlock = some b ∨ W.heap.size ≤ b) →
      wpList Try.prog ops Q rest (a.put o.dst (.slice p' (n + m) c')) w') : wpList Try.prog ops Q (o :: rest) a W := by
  by_cases h0 : m = 0
  · subst h0
    obtain rfl : l2 = [] := List.eq_nil_of_length_eq_zero hm
    obtain ⟨p', c', rfl⟩ := hown.shape
    have h1 := h p' c' W (by rw [List.append_nil, Nat.add_zero, ← hn]; exact hown) (Kept.refl _ _) (fun b hb => .inl (by rw [hn]; exact hb))
    refine app_none 32 5 1 1 (.int .u8 0) Try.underlying32 infoB hgd s x ho base l1.length (.slice p' l1.length c') (l1.map bv) hs hown p c hx ?_
    rw [hn]
    exact h1
  · obtain ⟨g, off, rfl, hcc⟩ := hc (by omega)
    refine app_bytes 32 Try.underlying32 hgd s x ho base n m v l1 l2 hn hm hs (by rw [← hn]; exact hown) g off c hx hcc (by omega) hnm hbase ?_
    intro g' c' w' hR hb hk hg
    refine h _ c' w' ?_ hk (fun b hb' => ?_)
    · have := hR.own hb
      rwa [List.length_append, hn, hm] at this
    · have e : g' = b := own_is hb'
      subst e
      exact hg

theorem make_own (w : World) (n : Nat) (hn : n ≤ 1000000000000) : RowC (w.alloc (.cells (Array.replicate n (.int .u8 0)) 5)) w.heap.size n [] := ⟨_, heap_alloc_new w _, by simp, by simp, by unfold maxLen; omega, fun i hi => by simp at hi⟩
end -- KitB

section -- LayN
open Go.RowKit Go.Maps
set_option linter.unusedVariables false
set_option linter.unusedSimpArgs false
set_option maxRecDepth 100000
set_option maxHeartbeats 2000000

/-- Append of bytes, however many; of none, it is the same row. -/
theorem app_own_keep {ops : Array Oper} {rest : List Oper} {o : Oper} {a : Act} {Q : Exit → Act → World → Prop} {W : World}
    (hgd : o.guard = none) (s x : Operand) (ho : o.op = .call { callee := .builtin .append, args := #[s, x], argTypes := #[32, 32] })
    (base n m : Nat) (v : Value) (l1 l2 : List B) (hn : l1.length = n) (hm : l2.length = m) (hown : Own W base v l1) (p : Option Addr) (c : Nat) (hc : 0 < m → ∃ g off, p = some ⟨g, off, none⟩ ∧ ∀ i, i < m → W.cell? ⟨g, off + i, none⟩ = some (bv (l2.getD i 0)))
    (hs : a.eval s = v) (hx : a.eval x = .slice p m c) (hnm : n + m < 1000000000000) (hbase : base ≤ W.heap.size)
    (h : ∀ p' c' w', Own w' base (.slice p' (n + m) c') (l1 ++ l2) → Kept (fun k => v.ownBlock = some k) W w' → (∀ b, (Value.slice p' (n + m) c').ownBlock = some b → v.ownBlock = some b ∨ W.heap.size ≤ b) → (m = 0 → Value.slice p' (n + m) c' = v) →
      wpList Try.prog ops Q rest (a.put o.dst (.slice p' (n + m) c')) w') : wpList Try.prog ops Q (o :: rest) a W := by
  by_cases h0 : m = 0
  · subst h0
    obtain rfl : l2 = [] := List.eq_nil_of_length_eq_zero hm
    obtain ⟨p', c', rfl⟩ := hown.shape
    have h1 := h p' c' W (by rw [List.append_nil, Nat.add_zero, ← hn]; exact hown) (Kept.refl _ _) (fun b hb => .inl (by rw [hn]; exact hb)) (fun _ => by rw [hn]; rfl)
    refine app_none 32 5 1 1 (.int .u8 0) Try.underlying32 infoB hgd s x ho base l1.length (.slice p' l1.length c') (l1.map bv) hs hown p c hx ?_
    rw [hn]
    exact h1
  · obtain ⟨g, off, rfl, hcc⟩ := hc (by omega)
    refine app_bytes 32 Try.underlying32 hgd s x ho base n m v l1 l2 hn hm hs (by rw [← hn]; exact hown) g off c hx hcc (by omega) hnm hbase ?_
    intro g' c' w' hR hb hk hg
    refine h _ c' w' ?_ hk (fun b hb' => ?_) (fun h => absurd h h0)
    · have := hR.own hb
      rwa [List.length_append, hn, hm] at this
    · have e : g' = b := own_is hb'
      subst e
      exact hg

/-- Rows that are cut behind a length. -/
theorem own_cut {w : World} {base n c long : Nat} {p : Option Addr} {l : List B} (h : Own w base (.slice p n c) l) (hn : l.length = n) (hl : long ≤ n) (h0 : 0 < long) : OwnL w base (.slice p long long) (l.take long) := by
  obtain ⟨g, c', e, hb, hr⟩ := h.row (by omega)
  have e1 := (Value.slice.inj e).1
  subst e1
  have htl : (l.take long).length = long := by rw [List.length_take]; omega
  refine .inr ⟨g, by rw [htl], hb, by omega, ?_⟩
  obtain ⟨C, q1, q2, q3, q4, q5⟩ := hr
  refine ⟨C, q1, by rw [htl]; omega, fun i hi => ?_⟩
  rw [htl] at hi
  rw [q5 i (by omega), List.getD_eq_getElem?_getD, List.getD_eq_getElem?_getD, List.getElem?_take, if_pos hi]
end -- LayN

end Go.Proofs.Ytibelpamolcmcaa
