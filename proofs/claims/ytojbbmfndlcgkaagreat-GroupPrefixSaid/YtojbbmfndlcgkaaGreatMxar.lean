/-
  Rows of bytes, each in a block of its own: no two in one.
-/
import Derived.Test.YtojbbmfndlcgkaaGreatMxak
namespace Go.Proofs.YtojbbmfndlcgkaaGreat
open Go.RowKit Go.Maps
set_option linter.unusedVariables false

/-- A slice of bytes that owns its block. -/
def Own (w : World) (base : Nat) (v : Value) (l : List B) : Prop := w.ownsRow base 5 1 v l.length (l.map bv)

section
variable {w w' : World} {base : Nat} {v : Value} {l : List B}
theorem Own.bytes (h : Own w base v l) : BytesAt w v l := BytesAt.of_owns h
theorem Own.kept {S : Nat → Prop} (h : Own w base v l) (hk : Kept S w w') (hS : ∀ b, v.ownBlock = some b → ¬ S b) : Own w' base v l := ownsRow_keptS h hk hS
theorem Own.below (h : Own w base v l) (hb : Below w.heap.size w w') : Own w' base v l := h.kept (Kept.below hb) (fun _ _ h => h)
theorem Own.blk (h : Own w base v l) : ∀ b, v.ownBlock = some b → base ≤ b ∧ b < w.heap.size := World.ownsRow.lt h
theorem Own.weaken {base' : Nat} (h : Own w base v l) (hb : base' ≤ base) : Own w base' v l := ownsRow_weaken h hb
theorem Own.nil (w : World) (base : Nat) : Own w base (.slice none 0 0) [] := World.ownsRow_nil _ _ _ _
theorem Own.shape (h : Own w base v l) : ∃ p c, v = .slice p l.length c := h.bytes.shape
theorem Own.row (h : Own w base v l) (hl : 0 < l.length) : ∃ g c, v = .slice (some ⟨g, 0, none⟩) l.length c ∧ base ≤ g ∧ RowC w g c l := by
  have h' := h
  obtain ⟨h0, h1⟩ := h
  rcases h1 with ⟨_, hz⟩ | ⟨g, cap, cur, e, h2, h3, h4, h5, h6, h7⟩
  · omega
  · exact ⟨g, cap, e, h2, RowC.of_owns (base := base) (by rw [← e]; exact h')⟩
theorem RowF.own {g : Nat} (h : RowF w g l) (hb : base ≤ g) (hl : l.length ≤ maxLen) : Own w base (.slice (some ⟨g, 0, none⟩) l.length l.length) l := (h.toC hl).owns hb
theorem RowC.own {g c : Nat} (h : RowC w g c l) (hb : base ≤ g) : Own w base (.slice (some ⟨g, 0, none⟩) l.length c) l := h.owns hb
theorem Own.alloc (h : Own w base v l) (x : Obj) : Own (w.alloc x) base v l := h.kept (Kept.alloc (fun _ => False) w x) (fun _ _ h => h)
theorem Own.set (h : Own w base v l) {i : Nat} (hi : i < l.length) {g c : Nat} (e : v = .slice (some ⟨g, 0, none⟩) l.length c) (x : B) : Own (w.setCell ⟨g, i, none⟩ (bv x)) base v (l.set i x) := by
  subst e
  have hb := (h.blk g (by simp [Value.ownBlock])).1
  have := (RowC.of_owns h).set hi x
  have h2 := this.own hb
  rwa [List.length_set] at h2
end

/-- Rows that are owned, each one in a block that is no other's. -/
def RowsLone (w : World) (base : Nat) (v : Value) (ls : List (List B)) : Prop := ∃ us, w.ownsRow base 39 1 v ls.length us ∧
  (∀ i u, us[i]? = some u → Own w base u (ls.getD i []) ∧ ∀ b, u.ownBlock = some b → v.ownBlock ≠ some b) ∧
  ∀ (i j : Nat) (u z : Value) (b : Nat), us[i]? = some u → us[j]? = some z → u.ownBlock = some b → z.ownBlock = some b → i = j

section
variable {w w' : World} {base : Nat} {v : Value} {ls : List (List B)}
theorem RowsLone.nil (w : World) (base : Nat) : RowsLone w base (.slice none 0 0) [] := ⟨[], World.ownsRow_nil _ _ _ _, fun i u h => by simp at h, fun i j u z b h => by simp at h⟩
theorem RowsLone.own (h : RowsLone w base v ls) : RowsOwn w base v ls := by
  obtain ⟨us, h1, h2, h3⟩ := h
  exact ⟨us, h1, fun i u hi => ⟨(h2 i u hi).1.bytes, fun b hb => ⟨((h2 i u hi).1.blk b hb).2, (h2 i u hi).2 b hb⟩⟩⟩
theorem RowsLone.rows (h : RowsLone w base v ls) : RowsAt w v ls := h.own.rows
theorem RowsLone.lt (h : RowsLone w base v ls) : ∀ k, v.ownBlock = some k → base ≤ k ∧ k < w.heap.size := h.own.lt
theorem RowsLone.kept {S : Nat → Prop} (h : RowsLone w base v ls) (hk : Kept S w w') (hS : ∀ k, k < w.heap.size → base ≤ k → ¬ S k) : RowsLone w' base v ls := by
  obtain ⟨us, h1, h2, h3⟩ := h
  exact ⟨us, ownsRow_keptS h1 hk (fun g hg => hS g (h1.lt g hg).2 (h1.lt g hg).1), fun i u hi => ⟨(h2 i u hi).1.kept hk (fun b hb => hS b ((h2 i u hi).1.blk b hb).2 ((h2 i u hi).1.blk b hb).1), (h2 i u hi).2⟩, h3⟩
theorem RowsLone.below (h : RowsLone w base v ls) (hb : Below w.heap.size w w') : RowsLone w' base v ls := h.kept (Kept.below hb) (fun _ _ _ h => h)
theorem RowsLone.weaken {base' : Nat} (h : RowsLone w base v ls) (hb : base' ≤ base) : RowsLone w base' v ls := by
  obtain ⟨us, h1, h2, h3⟩ := h
  exact ⟨us, ownsRow_weaken h1 hb, fun i u hi => ⟨(h2 i u hi).1.weaken hb, (h2 i u hi).2⟩, h3⟩
end

/-- Append of a row that is new. -/
theorem app_lone {ops : Array Oper} {rest : List Oper} {o : Oper} {a : Act} {Q : Exit → Act → World → Prop} {W : World}
    (hgd : o.guard = none) (s x : Operand) (ho : o.op = .call { callee := .builtin .append, args := #[s, x], argTypes := #[22, 22] })
    (base n : Nat) (v : Value) (ls : List (List B)) (hln : ls.length = n) (W0 : World) (hB : Below W0.heap.size W0 W) (hown : RowsLone W0 base v ls) (u : Value) (l : List B) (hu : Own W W0.heap.size u l) (hone : u.oneCell' = true)
    (hs : a.eval s = v) (hx : a.eval x = .slice (some ⟨W.heap.size, 0, none⟩) 1 1) (hn : n < 1000000000000) (hbase : base ≤ W0.heap.size)
    (h : ∀ g' c' w', RowsLone w' base (.slice (some ⟨g', 0, none⟩) (n + 1) c') (ls ++ [l]) → Kept (fun k => v.ownBlock = some k) W w' → W.heap.size < w'.heap.size → (v.ownBlock = some g' ∨ W.heap.size < g') →
      wpList Tryz.prog ops Q rest (a.put o.dst (.slice (some ⟨g', 0, none⟩) (n + 1) c')) w') : wpList Tryz.prog ops Q (o :: rest) a (W.alloc (.cells #[u] 39)) := by
  subst hln
  have hv0 : ∀ k, v.ownBlock = some k → k < W0.heap.size := fun k hk => (hown.lt k hk).2
  have hsz := hB.size
  have hown' := hown.below hB
  obtain ⟨us, q1, q2, q3⟩ := hown
  have hr0 : ∀ (i : Nat) (z : Value), us[i]? = some z → ∀ b, z.ownBlock = some b → b < W0.heap.size := fun i z hi b hb => ((q2 i z hi).1.blk b hb).2
  have h1 := ownsRow_keptS q1 (Kept.below hB) (fun _ _ h => h)
  have h2 : ∀ i u, us[i]? = some u → Own W base u (ls.getD i []) ∧ ∀ b, u.ownBlock = some b → v.ownBlock ≠ some b := fun i z hi => ⟨(q2 i z hi).1.below hB, (q2 i z hi).2⟩
  have h3 := q3
  clear q1 q2 q3 hown'
  refine app_el 22 39 1 24 (.slice none 0 0) Tryz.underlying22 infoR rfl (by decide) hgd s x ho base ls.length v us hs h1 [u] rfl (by simpa using hone) hx hn (by omega) ?_
  intro g' c' w' ho' hk hs' hg'
  have hul : us.length = ls.length := by have := h1.1; omega
  have get : ∀ i z, (us ++ [u])[i]? = some z → (i < us.length ∧ us[i]? = some z) ∨ (i = us.length ∧ z = u) := by
    intro i z hi
    by_cases e : i < us.length
    · rw [List.getElem?_append_left e] at hi; exact .inl ⟨e, hi⟩
    · have hi' : i = us.length := by
        have := (List.getElem?_eq_some_iff.1 hi).1
        simp at this; omega
      subst hi'
      exact .inr ⟨rfl, by simpa using hi.symm⟩
  have old : ∀ b, v.ownBlock = some b ∨ W.heap.size < b → ∀ c, c < W.heap.size → v.ownBlock ≠ some c → b ≠ c := by
    intro b hb c hc hne e
    subst e
    rcases hb with q | q
    · exact hne q
    · omega
  refine h g' c' w' ⟨us ++ [u], by simpa using ho', fun i z hi => ?_, fun i j y z b hi hj hy hz => ?_⟩ hk hs' hg'
  · rcases get i z hi with ⟨e, hi⟩ | ⟨rfl, rfl⟩
    · obtain ⟨q1, q2⟩ := h2 i z hi
      rw [getD_snoc_lt (by omega)]
      refine ⟨q1.kept hk (fun b hb e => q2 b hb e), fun b hb e => ?_⟩
      exact old g' hg' b (q1.blk b hb).2 (q2 b hb) (by simpa [Value.ownBlock] using e)
    · rw [hul, getD_snoc_last]
      have q2 : ∀ b, z.ownBlock = some b → v.ownBlock ≠ some b := fun b hb e => by have := (hu.blk b hb).1; have := hv0 b e; omega
      refine ⟨(hu.kept hk (fun b hb e => q2 b hb e)).weaken hbase, fun b hb e => ?_⟩
      exact old g' hg' b (hu.blk b hb).2 (q2 b hb) (by simpa [Value.ownBlock] using e)
  · rcases get i y hi with ⟨e1, hi'⟩ | ⟨ei, ey⟩ <;> rcases get j z hj with ⟨e2, hj'⟩ | ⟨ej, ez⟩
    · exact h3 i j y z b hi' hj' hy hz
    · have := hr0 i y hi' b hy
      subst ez
      have := (hu.blk b hz).1
      omega
    · have := hr0 j z hj' b hz
      subst ey
      have := (hu.blk b hy).1
      omega
    · rw [ei, ej]

end Go.Proofs.YtojbbmfndlcgkaaGreat
