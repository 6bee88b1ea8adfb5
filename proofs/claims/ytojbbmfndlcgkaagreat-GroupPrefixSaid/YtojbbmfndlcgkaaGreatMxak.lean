/-
  CodeO: Rows of bytes that a call owns, each in its place; they grow by append.
  CodeLc: Walks of layer 4 (lagr): Table; code.New.
-/
import Derived.Test.YtojbbmfndlcgkaaGreatMxad
import Derived.Test.YtojbbmfndlcgkaaGreatMxaj
namespace Go.Proofs.YtojbbmfndlcgkaaGreat

section -- CodeO
open Go.RowKit Go.Maps
set_option linter.unusedVariables false

/-- Rows that are owned: the outer cells; what each reads as; none lies in the outer block. -/
def RowsOwn (w : World) (base : Nat) (v : Value) (ls : List (List B)) : Prop := ∃ us, w.ownsRow base 39 1 v ls.length us ∧
  ∀ i u, us[i]? = some u → BytesAt w u (ls.getD i []) ∧ ∀ b, u.ownBlock = some b → b < w.heap.size ∧ v.ownBlock ≠ some b

theorem RowsOwn.nil (w : World) (base : Nat) : RowsOwn w base (.slice none 0 0) [] := ⟨[], World.ownsRow_nil _ _ _ _, fun i u h => by simp at h⟩
theorem RowsOwn.rows {w : World} {base : Nat} {v : Value} {ls : List (List B)} (h : RowsOwn w base v ls) : RowsAt w v ls := by
  obtain ⟨us, h1, h2⟩ := h
  exact RowsAt.of_owns h1 (fun i u hi => (h2 i u hi).1)
theorem RowsOwn.kept {S : Nat → Prop} {w w' : World} {base : Nat} {v : Value} {ls : List (List B)} (h : RowsOwn w base v ls) (hk : Kept S w w') (hS : ∀ k, k < w.heap.size → base ≤ k → ¬ S k) (hu : ∀ k, k < w.heap.size → ¬ S k) : RowsOwn w' base v ls := by
  obtain ⟨us, h1, h2⟩ := h
  refine ⟨us, ownsRow_keptS h1 hk (fun g hg => hS g (h1.lt g hg).2 (h1.lt g hg).1), fun i u hi => ⟨(h2 i u hi).1.kept hk hu, fun b hb => ?_⟩⟩
  have := (h2 i u hi).2 b hb
  exact ⟨Nat.lt_of_lt_of_le this.1 hk.size, this.2⟩
theorem RowsOwn.below {w w' : World} {base : Nat} {v : Value} {ls : List (List B)} (h : RowsOwn w base v ls) (hb : Below w.heap.size w w') : RowsOwn w' base v ls := h.kept (Kept.below hb) (fun _ _ _ h => h) (fun _ _ h => h)
theorem RowsOwn.lt {w : World} {base : Nat} {v : Value} {ls : List (List B)} (h : RowsOwn w base v ls) : ∀ k, v.ownBlock = some k → base ≤ k ∧ k < w.heap.size := by
  obtain ⟨us, h1, _⟩ := h
  exact h1.lt

theorem RowsOwn.weaken {w : World} {base base' : Nat} {v : Value} {ls : List (List B)} (h : RowsOwn w base v ls) (hb : base' ≤ base) : RowsOwn w base' v ls := by
  obtain ⟨us, h1, h2⟩ := h
  exact ⟨us, ownsRow_weaken h1 hb, h2⟩
theorem own_is {g o b len cap : Nat} (hb : (Value.slice (some ⟨g, o, none⟩) len cap).ownBlock = some b) : g = b := by simpa [Value.ownBlock] using hb
theorem RowsAt.shape {w : World} {v : Value} {ls : List (List B)} (h : RowsAt w v ls) : ∃ p c, v = .slice p ls.length c := by
  obtain ⟨p, c, e, _⟩ := h
  exact ⟨p, c, e⟩
theorem BytesAt.shape {w : World} {v : Value} {l : List B} (h : BytesAt w v l) : ∃ p c, v = .slice p l.length c := by
  obtain ⟨p, c, e, _⟩ := h
  exact ⟨p, c, e⟩

/-- Append of a row. -/
theorem app_row {ops : Array Oper} {rest : List Oper} {o : Oper} {a : Act} {Q : Exit → Act → World → Prop} {W : World}
    (hgd : o.guard = none) (s x : Operand) (ho : o.op = .call { callee := .builtin .append, args := #[s, x], argTypes := #[22, 22] })
    (base n : Nat) (v : Value) (ls : List (List B)) (hln : ls.length = n) (hs : a.eval s = v) (hown : RowsOwn W base v ls) (u : Value) (l : List B) (hu : BytesAt W u l) (hub : ∀ b, u.ownBlock = some b → b < W.heap.size ∧ v.ownBlock ≠ some b) (hone : u.oneCell' = true)
    (hx : a.eval x = .slice (some ⟨W.heap.size, 0, none⟩) 1 1) (hn : n < 1000000000000) (hbase : base ≤ W.heap.size)
    (h : ∀ g' c' w', RowsOwn w' base (.slice (some ⟨g', 0, none⟩) (n + 1) c') (ls ++ [l]) → Kept (fun k => v.ownBlock = some k) W w' → W.heap.size < w'.heap.size → (v.ownBlock = some g' ∨ W.heap.size < g') →
      wpList Tryz.prog ops Q rest (a.put o.dst (.slice (some ⟨g', 0, none⟩) (n + 1) c')) w') : wpList Tryz.prog ops Q (o :: rest) a (W.alloc (.cells #[u] 39)) := by
  subst hln
  obtain ⟨us, h1, h2⟩ := hown
  refine app_el 22 39 1 24 (.slice none 0 0) Tryz.underlying22 infoR rfl (by decide) hgd s x ho base ls.length v us hs h1 [u] rfl (by simpa using hone) hx hn hbase ?_
  intro g' c' w' ho' hk hs' hg'
  refine h g' c' w' ⟨us ++ [u], by simpa using ho', fun i z hi => ?_⟩ hk hs' hg'
  have hul : us.length = ls.length := by have := h1.1; omega
  by_cases e : i < us.length
  · rw [List.getElem?_append_left e] at hi
    obtain ⟨q1, q2⟩ := h2 i z hi
    rw [getD_snoc_lt (by omega)]
    refine ⟨q1.kept1 hk (fun k hk' e => (q2 k hk').2 e), fun b hb => ?_⟩
    have := q2 b hb
    refine ⟨by omega, fun e => ?_⟩
    have e' : g' = b := by simpa [Value.ownBlock] using e
    rcases hg' with q | q
    · exact this.2 (by rw [q, e'])
    · omega
  · have hi' : i = us.length := by
      have := (List.getElem?_eq_some_iff.1 hi).1
      simp at this; omega
    subst hi'
    have hz : z = u := by simpa using hi.symm
    subst hz
    rw [hul, getD_snoc_last]
    refine ⟨hu.kept1 hk (fun k hk' e => (hub k hk').2 e), fun b hb => ?_⟩
    have := hub b hb
    refine ⟨by omega, fun e => ?_⟩
    have e' : g' = b := by simpa [Value.ownBlock] using e
    rcases hg' with q | q
    · exact this.2 (by rw [q, e'])
    · omega
end -- CodeO

section -- CodeLc
open Go.RowKit Go.Maps
set_option linter.unusedVariables false
set_option maxRecDepth 100000
set_option maxHeartbeats 2000000

/-- The weights of the first n bytes by the first k. -/
def tblL (k n : Nat) : List (List B) := (List.range n).map fun i => wtsL (ptsL k) (ofB i)
theorem tblL_len (k n : Nat) : (tblL k n).length = n := by simp [tblL]
theorem tblL_succ (k n : Nat) : tblL k (n + 1) = tblL k n ++ [wtsL (ptsL k) (ofB n)] := by simp [tblL, List.range_succ]
theorem ptsL_succ (k : Nat) : ptsL (k + 1) = ptsL k ++ [ofB k] := by simp [ptsL, List.range_succ]
theorem ofB_v {k : Nat} (h : k < 256) : (ofB k).v = k := by simp only [ofB]; omega
theorem tblL_get {k n i : Nat} (h : i < n) : (tblL k n).getD i [] = wtsL (ptsL k) (ofB i) := getD_range _ _ h

theorem table_bad (w : World) (k n : Int) (h : k < 1 ∨ n < k ∨ 255 < n) :
    Calls Tryz.prog 42 #[.int .i64 k, .int .i64 n] w fun e w' => e = .returned (.tuple #[.slice none 0 0, .int .i64 2]) ∧ w = w' := by
  by_cases h1 : k < 1
  · go_enter Tryz.func42, Tryz.ntmps42
    go_wp2
    go_ret2
    exact ⟨rfl, rfl⟩
  · have e1 : decide (k < 1) = false := by simpa using h1
    by_cases h2 : n < k
    · go_enter Tryz.func42, Tryz.ntmps42
      go_wp2
      go_ret2
      exact ⟨rfl, rfl⟩
    · have h3 : 255 < n := by omega
      have e2 : decide (n < k) = false := by simpa using h2
      go_enter Tryz.func42, Tryz.ntmps42
      go_wp2
      go_ret2
      exact ⟨rfl, rfl⟩

theorem table_any (w : World) (k n : Nat) (h1 : 1 ≤ k) (h2 : k ≤ n) (h3 : n ≤ 255) :
    Calls Tryz.prog 42 #[.int .i64 (k : Int), .int .i64 (n : Int)] w fun e w' => ∃ v, e = .returned (.tuple #[v, .int .i64 0]) ∧ RowsAt w' v (tblL k n) ∧ Below w.heap.size w w' := by
  have e1 : decide ((k : Int) < 1) = false := by simp; omega
  have e2 : ¬ n < k := by omega
  have e3 : ¬ (255 : Int) < n := by omega
  have e4 : decide (n < k) = false := by simp; omega
  have e5 : decide ((255 : Int) < n) = false := by simp; omega
  go_enter Tryz.func42, Tryz.ntmps42
  go_wp2
  clear e1 e2 e3 e4 e5
  go_loopw [6, 7, 22] (fun v _ i wr => ∃ j : Nat, j ≤ k ∧ i = .int .i64 (j : Int) ∧ wr.ownsRow w.heap.size 5 1 v j ((ptsL j).map bv) ∧ Below w.heap.size w wr) (fun _ _ i _ => k - (intOf i).toNat)
  case atStart => exact ⟨0, Nat.zero_le _, rfl, World.ownsRow_nil _ _ _ _, Below.refl _ _⟩
  case round =>
    obtain ⟨j, hj, rfl, ho, hB⟩ := hrel
    have HO := Lib.hid ho
    clear ho
    have hsz := hB.size
    by_cases hlt : j < k
    · go_wp2_with (at_builtin; refine app_el 39 5 1 1 (.int .u8 0) Tryz.underlying39 infoB rfl (by decide) rfl _ _ rfl w.heap.size j _ _ rfl HO.out [.int .u8 (j : Int)] rfl (by simp [Value.oneCell']) rfl (by omega) hsz ?_; intro g' c' w3 ho3 hk3 hs3 hg3)
      go_roundw
      case rel =>
        refine ⟨j + 1, by omega, by go_num, ?_, ?_⟩
        · rw [ptsL_succ, ← map_snoc_bv]
          have : bv (ofB j) = .int .u8 (j : Int) := by show Value.int .u8 (((ofB j).v : Nat) : Int) = _; rw [ofB_v (by omega)]
          rw [this]
          exact ho3
        · exact hB.trans (hk3.toBelow hsz (fun i h => (HO.out.lt i h).1))
      case measure => simp [intOf]; omega
    · obtain rfl : j = k := by omega
      have hp : BytesAt wr u6 (ptsL j) := BytesAt.of_owns (base := w.heap.size) (by rw [ptsL_len]; exact HO.out)
      have HP := Lib.hid hp
      clear hp
      go_wp2_with fail
      refine (over_any wr u6 (ptsL j) HP.out (by rw [ptsL_len]; omega)).mono ?_
      rintro e w2 ⟨bw, bf, va, rfl, hov, hB2⟩
      have HOV := Lib.hid hov
      have hB3 : Below w.heap.size w w2 := hB.trans ⟨hB2.os, hB2.tape, hB2.output, hB2.size, fun i hi => hB2.block i (by omega)⟩
      clear hov hB2 hB hlt hsz
      have HNN := Lib.hid (ptsL_nodup (k := j) (by omega))
      have HPL := Lib.hid (ptsL_len j)
      go_wp2
      go_loopw [4, 9, 34] (fun v _ i w4 => ∃ m : Nat, m ≤ n ∧ i = .int .i64 (m : Int) ∧ RowsOwn w4 w2.heap.size v (tblL j m) ∧ Below w2.heap.size w2 w4) (fun _ _ i _ => n - (intOf i).toNat)
      case atStart => exact ⟨0, Nat.zero_le _, rfl, RowsOwn.nil _ _, Below.refl _ _⟩
      case round =>
        obtain ⟨m, hm, rfl, ho, hB4⟩ := hrel
        have HR := Lib.hid ho
        clear ho
        have hs4 := hB4.size
        by_cases hlt : m < n
        · have HW := Lib.hid (HOV.out.kept (Kept.below hB4) (fun _ _ h => h))
          have hmm : bv (ofB m) = .int .u8 (m : Int) := by show Value.int .u8 (((ofB m).v : Nat) : Int) = _; rw [ofB_v (by omega)]
          have HMM := Lib.hid hmm
          clear hmm
          go_wp2_with fail
          rw [← HMM.out]
          refine (weights_any _ bw bf _ va (ptsL j) (ofB m) HW.out HNN.out (by rw [HPL.out]; omega) (by rw [HPL.out]; omega)).mono ?_
          rintro e w5 ⟨g, rfl, hrw, hgb, hB5⟩
          rw [HPL.out]
          have HB := Lib.hid (hrw.toBytes j)
          have hgl := hrw.lt
          have hs5 := hB5.size
          have HR5 := Lib.hid (HR.out.below hB5)
          have hlv := HR.out.lt
          have hb6 : Below w2.heap.size w2 w5 := hB4.trans ⟨hB5.os, hB5.tape, hB5.output, hB5.size, fun i hi => hB5.block i (by omega)⟩
          have HLV := Lib.hid hlv
          have HL2 := Lib.hid (show BytesAt w5 (.slice (some ⟨g, 0, none⟩) j j) (wtsL (ptsL j) (ofB m)) by have := HB.out; rw [wtsL_len, HPL.out] at this; exact this)
          clear hrw hB5 hB4 hlv
          go_wp2_with (at_builtin; refine app_row rfl _ _ rfl w2.heap.size m _ _ (tblL_len j m) rfl HR5.out (.slice (some ⟨g, 0, none⟩) j j) _ HL2.out (fun b hb => own_is hb ▸ ⟨hgl, fun h => by have := (HLV.out _ h).2; omega⟩) rfl rfl (by omega) (by omega) ?_; intro g' c' w6 hR6 hk6 hs6 hg6)
          go_roundw
          case rel =>
            refine ⟨m + 1, by omega, by go_num, by rw [tblL_succ]; exact hR6, hb6.trans (hk6.toBelow (by omega) (fun i h => (HLV.out i h).1))⟩
          case measure => simp [intOf]; omega
        · obtain rfl : m = n := by omega
          go_wp2
          go_ret2
          exact ⟨_, rfl, HR.out.rows, hB3.trans ⟨hB4.os, hB4.tape, hB4.output, hB4.size, fun i hi => hB4.block i (by have := hB3.size; omega)⟩⟩

/-- A coder of n symbols, k of which are enough. -/
structure CoderAt (w : World) (bc n k : Nat) (bf : Nat) (vt : Value) : Prop where
  cells : w.heap[bc]? = some (.cells #[.pointer (some ⟨bf, 0, none⟩), vt, .int .i64 (k : Int)] 91 (0, 0))
  field : FieldAt w bf
  table : RowsAt w vt (tblL k n)
  k1 : 1 ≤ k
  kn : k ≤ n
  n255 : n ≤ 255
section
variable {w w' : World} {bc n k bf : Nat} {vt : Value}
theorem CoderAt.c0 (h : CoderAt w bc n k bf vt) : w.cell? ⟨bc, 0, none⟩ = some (.pointer (some ⟨bf, 0, none⟩)) := by rw [cell_of h.cells]; rfl
theorem CoderAt.c1 (h : CoderAt w bc n k bf vt) : w.cell? ⟨bc, 1, none⟩ = some vt := by rw [cell_of h.cells]; rfl
theorem CoderAt.c2 (h : CoderAt w bc n k bf vt) : w.cell? ⟨bc, 2, none⟩ = some (.int .i64 (k : Int)) := by rw [cell_of h.cells]; rfl
theorem CoderAt.lt (h : CoderAt w bc n k bf vt) : bc < w.heap.size := (Array.getElem?_eq_some_iff.1 h.cells).1
theorem CoderAt.kept {S : Nat → Prop} (h : CoderAt w bc n k bf vt) (hk : Kept S w w') (hS : ∀ i, i < w.heap.size → ¬ S i) : CoderAt w' bc n k bf vt :=
  ⟨(hk.block bc h.lt (hS _ h.lt)).trans h.cells, h.field.kept hk (hS _ h.field.lt), h.table.kept hk hS, h.k1, h.kn, h.n255⟩
theorem CoderAt.below (h : CoderAt w bc n k bf vt) (hb : Below w.heap.size w w') : CoderAt w' bc n k bf vt := h.kept (Kept.below hb) (fun _ _ h => h)
theorem CoderAt.dr (h : CoderAt w bc n k bf vt) (m : Nat) : CoderAt (w.drewN m) bc n k bf vt := ⟨h.cells, h.field, h.table, h.k1, h.kn, h.n255⟩
end

theorem cnew_bad (w : World) (n k : Int) (h : k < 1 ∨ n < k ∨ 255 < n) :
    Calls Tryz.prog 29 #[.int .i64 n, .int .i64 k] w fun e w' => e = .returned (.tuple #[.pointer none, .int .i64 2]) ∧ w = w' := by
  have HT := Lib.hid (table_bad w k n h)
  clear h
  go_enter Tryz.func29, Tryz.ntmps29
  go_wp2_with fail
  refine HT.out.mono ?_
  rintro e w' ⟨rfl, rfl⟩
  go_wp2
  go_ret2
  exact ⟨rfl, rfl⟩

theorem cnew_any (w : World) (n k : Nat) (h1 : 1 ≤ k) (h2 : k ≤ n) (h3 : n ≤ 255) :
    Calls Tryz.prog 29 #[.int .i64 (n : Int), .int .i64 (k : Int)] w fun e w' => ∃ bc bf vt, e = .returned (.tuple #[.pointer (some ⟨bc, 0, none⟩), .int .i64 0]) ∧ CoderAt w' bc n k bf vt ∧ Below w.heap.size w w' := by
  have HT := Lib.hid (table_any w k n h1 h2 h3)
  go_enter Tryz.func29, Tryz.ntmps29
  go_wp2_with fail
  refine HT.out.mono ?_
  rintro e w1 ⟨vt, rfl, hr, hB⟩
  obtain ⟨pt, ct, rfl⟩ := hr.shape
  have HR := Lib.hid hr
  clear hr
  have HTL := Lib.hid (tblL_len k n)
  go_wp2_with fail
  refine (fnew_any w1).mono ?_
  rintro e w2 ⟨bf, rfl, hf, hfb, hB2⟩
  have HF := Lib.hid hf
  have HR2 := Lib.hid (HR.out.below hB2)
  have hb3 : Below w.heap.size w w2 := hB.trans ⟨hB2.os, hB2.tape, hB2.output, hB2.size, fun i hi => hB2.block i (by have := hB.size; omega)⟩
  have hs3 := hb3.size
  clear hf hB hB2
  go_wp2
  go_ret2
  exact ⟨_, bf, _, rfl, ⟨heap_alloc_new w2 _, HF.out.kept (Kept.alloc (fun _ => False) _ _) (fun h => h), HR2.out.kept (Kept.alloc (fun _ => False) _ _) (fun _ _ h => h), h1, h2, h3⟩, hb3.alloc hs3 _⟩
end -- CodeLc

end Go.Proofs.YtojbbmfndlcgkaaGreat
