/-
  Rows of bytes that a call owns, each in its place; they grow by append.
-/
import Derived.Test.YtlmpagicjgldkaaCodeN
namespace Go.Proofs.Ytlmpagicjgldkaa
open Go.RowKit Go.Maps
set_option linter.unusedVariables false

/-- Rows that are owned: the outer cells; what each reads as; none lies in the outer block. -/
def RowsOwn (w : World) (base : Nat) (v : Value) (ls : List (List B)) : Prop := ∃ us, w.ownsRow base 57 1 v ls.length us ∧
  ∀ i u, us[i]? = some u → BytesAt w u (ls.getD i []) ∧ ∀ b, u.ownBlock = some b → b < w.heap.size ∧ v.ownBlock ≠ some b

theorem RowsOwn.nil (w : World) (base : Nat) : RowsOwn w base (.slice none 0 0) [] := ⟨[], World.ownsRow_nil _ _ _ _, fun i u h => by simp at h⟩
theorem RowsOwn.rows {w : World} {base : Nat} {v : Value} {ls : List (List B)} (h : RowsOwn w base v ls) : RowsAt w v ls := by
  obtain ⟨us, h1, h2⟩ := h
  exact RowsAt.of_owns h1 (fun i u hi => (h2 i u hi).1)
theorem RowsOwn.kept {S : Nat → Prop} {w w' : World} {base : Nat} {v : Value} {ls : List (List B)} (h : RowsOwn w base v ls) (hk : Kept S w w') (hS : ∀ k, k < w.heap.size → base ≤ k → ¬ S k) (hu : ∀ k, k < w.heap.size → ¬ S k) : RowsOwn w' base v ls := by
  obtain ⟨us, h1, h2⟩ := h
  refine ⟨us, ownsRow_keptS h1 hk (fun g hg => hS g (h1.lt g hg).2 (h1.lt g hg).1), fun i u hi => ⟨(h2 i u hi).1.kept hk hu, fun b hb => ?_⟩⟩
  have := (h2 i u hi).2 b hb
  exact ⟨Nat.lt_of_lt_of_le this.1 hk.size, this.2⟩
theorem RowsOwn.below {w w' : World} {base : Nat} {v : Value} {ls : List (List B)} (h : RowsOwn w base v ls) (hb : Below w.heap.size w w') : RowsOwn w' base v ls := h.kept (Kept.below hb) (fun _ _ _ h => h) (fun _ _ h => h)
theorem RowsOwn.lt {w : World} {base : Nat} {v : Value} {ls : List (List B)} (h : RowsOwn w base v ls) : ∀ k, v.ownBlock = some k → base ≤ k ∧ k < w.heap.size := by
  obtain ⟨us, h1, _⟩ := h
  exact h1.lt

theorem RowsOwn.weaken {w : World} {base base' : Nat} {v : Value} {ls : List (List B)} (h : RowsOwn w base v ls) (hb : base' ≤ base) : RowsOwn w base' v ls := by
  obtain ⟨us, h1, h2⟩ := h
  exact ⟨us, ownsRow_weaken h1 hb, h2⟩
theorem own_is {g o b len cap : Nat} (hb : (Value.slice (some ⟨g, o, none⟩) len cap).ownBlock = some b) : g = b := by simpa [Value.ownBlock] using hb
theorem RowsAt.shape {w : World} {v : Value} {ls : List (List B)} (h : RowsAt w v ls) : ∃ p c, v = .slice p ls.length c := by
  obtain ⟨p, c, e, _⟩ := h
  exact ⟨p, c, e⟩
theorem BytesAt.shape {w : World} {v : Value} {l : List B} (h : BytesAt w v l) : ∃ p c, v = .slice p l.length c := by
  obtain ⟨p, c, e, _⟩ := h
  exact ⟨p, c, e⟩

/-- Append of a row. -/
theorem app_row {ops : Array Oper} {rest : List Oper} {o : Oper} {a : Act} {Q : Exit → Act → World → Prop} {W : World}
    (hgd : o.guard = none) (s x : Operand) (ho : o.op = .call { callee := .builtin .append, args := #[s, x], argTypes := #[33, 33] })
    (base n : Nat) (v : Value) (ls : List (List B)) (hln : ls.length = n) (hs : a.eval s = v) (hown : RowsOwn W base v ls) (u : Value) (l : List B) (hu : BytesAt W u l) (hub : ∀ b, u.ownBlock = some b → b < W.heap.size ∧ v.ownBlock ≠ some b) (hone : u.oneCell' = true)
    (hx : a.eval x = .slice (some ⟨W.heap.size, 0, none⟩) 1 1) (hn : n < 1000000000000) (hbase : base ≤ W.heap.size)
    (h : ∀ g' c' w', RowsOwn w' base (.slice (some ⟨g', 0, none⟩) (n + 1) c') (ls ++ [l]) → Kept (fun k => v.ownBlock = some k) W w' → W.heap.size < w'.heap.size → (v.ownBlock = some g' ∨ W.heap.size < g') →
      wpList Try.prog ops Q rest (a.put o.dst (.slice (some ⟨g', 0, none⟩) (n + 1) c')) w') : wpList Try.prog ops Q (o :: rest) a (W.alloc (.cells #[u] 57)) := by
  subst hln
  obtain ⟨us, h1, h2⟩ := hown
  refine app_el 33 57 1 24 (.slice none 0 0) Try.underlying33 infoR rfl (by decide) hgd s x ho base ls.length v us hs h1 [u] rfl (by simpa using hone) hx hn hbase ?_
  intro g' c' w' ho' hk hs' hg'
  refine h g' c' w' ⟨us ++ [u], by simpa using ho', fun i z hi => ?_⟩ hk hs' hg'
  have hul : us.length = ls.length := by have := h1.1; omega
  by_cases e : i < us.length
  · rw [List.getElem?_append_left e] at hi
    obtain ⟨q1, q2⟩ := h2 i z hi
    rw [getD_snoc_lt (by omega)]
    refine ⟨q1.kept1 hk (fun k hk' e => (q2 k hk').2 e), fun b hb => ?_⟩
    have := q2 b hb
    refine ⟨by omega, fun e => ?_⟩
    have e' : g' = b := by simpa [Value.ownBlock] using e
    rcases hg' with q | q
    · exact this.2 (by rw [q, e'])
    · omega
  · have hi' : i = us.length := by
      have := (List.getElem?_eq_some_iff.1 hi).1
      simp at this; omega
    subst hi'
    have hz : z = u := by simpa using hi.symm
    subst hz
    rw [hul, getD_snoc_last]
    refine ⟨hu.kept1 hk (fun k hk' e => (hub k hk').2 e), fun b hb => ?_⟩
    have := hub b hb
    refine ⟨by omega, fun e => ?_⟩
    have e' : g' = b := by simpa [Value.ownBlock] using e
    rcases hg' with q | q
    · exact this.2 (by rw [q, e'])
    · omega

end Go.Proofs.Ytlmpagicjgldkaa
