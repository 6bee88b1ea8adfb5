/-
  LayU: Rows of bytes that are their own, but perhaps cut behind their last byte.
  RefA: Polynomials as the reference makes them (plain): what each step does to the value.
-/
import Derived.Test.YtanjchpkekehgaaMxao
import Derived.Test.YtanjchpkekehgaaMxad
namespace Go.Proofs.Ytanjchpkekehgaa

section -- LayU
open Go.RowKit Go.Maps
set_option linter.unusedVariables false
set_option maxRecDepth 100000

/-- Cut behind its last byte. -/
def CutAt (w : World) (base : Nat) (v : Value) (l : List B) : Prop := ∃ g, v = .slice (some ⟨g, 0, none⟩) l.length l.length ∧ base ≤ g ∧ 0 < l.length ∧ RowW w g l
/-- A row of its own: with its spare room, or cut. -/
def OwnL (w : World) (base : Nat) (v : Value) (l : List B) : Prop := Own w base v l ∨ CutAt w base v l
section
variable {w w' : World} {base : Nat} {v : Value} {l : List B}
theorem OwnL.bytes (h : OwnL w base v l) : BytesAt w v l := by
  rcases h with h | ⟨g, rfl, _, _, h⟩
  · exact h.bytes
  · exact h.toBytes _
theorem OwnL.kept {S : Nat → Prop} (h : OwnL w base v l) (hk : Kept S w w') (hS : ∀ b, v.ownBlock = some b → ¬ S b) : OwnL w' base v l := by
  rcases h with h | ⟨g, rfl, h1, h2, h3⟩
  · exact .inl (h.kept hk hS)
  · exact .inr ⟨g, rfl, h1, h2, h3.kept hk (hS g rfl)⟩
theorem OwnL.below (h : OwnL w base v l) (hb : Below w.heap.size w w') : OwnL w' base v l := h.kept (Kept.below hb) (fun _ _ h => h)
theorem OwnL.blk (h : OwnL w base v l) : ∀ b, v.ownBlock = some b → base ≤ b ∧ b < w.heap.size := by
  rcases h with h | ⟨g, rfl, h1, h2, h3⟩
  · exact h.blk
  · intro b hb
    have := own_is hb
    subst this
    exact ⟨h1, h3.lt⟩
theorem OwnL.weaken {base' : Nat} (h : OwnL w base v l) (hb : base' ≤ base) : OwnL w base' v l := by
  rcases h with h | ⟨g, rfl, h1, h2, h3⟩
  · exact .inl (h.weaken hb)
  · exact .inr ⟨g, rfl, by omega, h2, h3⟩
end

/-- Rows that are owned, each one in a block that is no other's. -/
def RowsCut (w : World) (base : Nat) (v : Value) (ls : List (List B)) : Prop := ∃ us, w.ownsRow base 37 1 v ls.length us ∧
  (∀ i u, us[i]? = some u → OwnL w base u (ls.getD i []) ∧ ∀ b, u.ownBlock = some b → v.ownBlock ≠ some b) ∧
  ∀ (i j : Nat) (u z : Value) (b : Nat), us[i]? = some u → us[j]? = some z → u.ownBlock = some b → z.ownBlock = some b → i = j

section
variable {w w' : World} {base : Nat} {v : Value} {ls : List (List B)}
theorem RowsCut.nil (w : World) (base : Nat) : RowsCut w base (.slice none 0 0) [] := ⟨[], World.ownsRow_nil _ _ _ _, fun i u h => by simp at h, fun i j u z b h => by simp at h⟩
theorem RowsCut.own (h : RowsCut w base v ls) : RowsOwn w base v ls := by
  obtain ⟨us, h1, h2, h3⟩ := h
  exact ⟨us, h1, fun i u hi => ⟨(h2 i u hi).1.bytes, fun b hb => ⟨((h2 i u hi).1.blk b hb).2, (h2 i u hi).2 b hb⟩⟩⟩
theorem RowsCut.rows (h : RowsCut w base v ls) : RowsAt w v ls := h.own.rows
theorem RowsCut.lt (h : RowsCut w base v ls) : ∀ k, v.ownBlock = some k → base ≤ k ∧ k < w.heap.size := h.own.lt
theorem RowsCut.kept {S : Nat → Prop} (h : RowsCut w base v ls) (hk : Kept S w w') (hS : ∀ k, k < w.heap.size → base ≤ k → ¬ S k) : RowsCut w' base v ls := by
  obtain ⟨us, h1, h2, h3⟩ := h
  exact ⟨us, ownsRow_keptS h1 hk (fun g hg => hS g (h1.lt g hg).2 (h1.lt g hg).1), fun i u hi => ⟨(h2 i u hi).1.kept hk (fun b hb => hS b ((h2 i u hi).1.blk b hb).2 ((h2 i u hi).1.blk b hb).1), (h2 i u hi).2⟩, h3⟩
theorem RowsCut.below (h : RowsCut w base v ls) (hb : Below w.heap.size w w') : RowsCut w' base v ls := h.kept (Kept.below hb) (fun _ _ _ h => h)
theorem RowsCut.weaken {base' : Nat} (h : RowsCut w base v ls) (hb : base' ≤ base) : RowsCut w base' v ls := by
  obtain ⟨us, h1, h2, h3⟩ := h
  exact ⟨us, ownsRow_weaken h1 hb, fun i u hi => ⟨(h2 i u hi).1.weaken hb, (h2 i u hi).2⟩, h3⟩
end

/-- Append of a row that is new. -/
theorem app_cut {ops : Array Oper} {rest : List Oper} {o : Oper} {a : Act} {Q : Exit → Act → World → Prop} {W : World}
    (hgd : o.guard = none) (s x : Operand) (ho : o.op = .call { callee := .builtin .append, args := #[s, x], argTypes := #[32, 32] })
    (base n : Nat) (v : Value) (ls : List (List B)) (hln : ls.length = n) (W0 : World) (hB : Below W0.heap.size W0 W) (hown : RowsCut W0 base v ls) (u : Value) (l : List B) (hu : OwnL W W0.heap.size u l) (hone : u.oneCell' = true)
    (hs : a.eval s = v) (hx : a.eval x = .slice (some ⟨W.heap.size, 0, none⟩) 1 1) (hn : n < 1000000000000) (hbase : base ≤ W0.heap.size)
    (h : ∀ g' c' w', RowsCut w' base (.slice (some ⟨g', 0, none⟩) (n + 1) c') (ls ++ [l]) → Kept (fun k => v.ownBlock = some k) W w' → W.heap.size < w'.heap.size → (v.ownBlock = some g' ∨ W.heap.size < g') →
      wpList Try.prog ops Q rest (a.put o.dst (.slice (some ⟨g', 0, none⟩) (n + 1) c')) w') : wpList Try.prog ops Q (o :: rest) a (W.alloc (.cells #[u] 37)) := by
  subst hln
  have hv0 : ∀ k, v.ownBlock = some k → k < W0.heap.size := fun k hk => (hown.lt k hk).2
  have hsz := hB.size
  have hown' := hown.below hB
  obtain ⟨us, q1, q2, q3⟩ := hown
  have hr0 : ∀ (i : Nat) (z : Value), us[i]? = some z → ∀ b, z.ownBlock = some b → b < W0.heap.size := fun i z hi b hb => ((q2 i z hi).1.blk b hb).2
  have h1 := ownsRow_keptS q1 (Kept.below hB) (fun _ _ h => h)
  have h2 : ∀ i u, us[i]? = some u → OwnL W base u (ls.getD i []) ∧ ∀ b, u.ownBlock = some b → v.ownBlock ≠ some b := fun i z hi => ⟨(q2 i z hi).1.below hB, (q2 i z hi).2⟩
  have h3 := q3
  clear q1 q2 q3 hown'
  refine app_el 32 37 1 24 (.slice none 0 0) Try.underlying32 infoR rfl (by decide) hgd s x ho base ls.length v us hs h1 [u] rfl (by simpa using hone) hx hn (by omega) ?_
  intro g' c' w' ho' hk hs' hg'
  have hul : us.length = ls.length := by have := h1.1; omega
  have get : ∀ i z, (us ++ [u])[i]? = some z → (i < us.length ∧ us[i]? = some z) ∨ (i = us.length ∧ z = u) := by
    intro i z hi
    by_cases e : i < us.length
    · rw [List.getElem?_append_left e] at hi; exact .inl ⟨e, hi⟩
    · have hi' : i = us.length := by
        have := (List.getElem?_eq_some_iff.1 hi).1
        simp at this; omega
      subst hi'
      exact .inr ⟨rfl, by simpa using hi.symm⟩
  have old : ∀ b, v.ownBlock = some b ∨ W.heap.size < b → ∀ c, c < W.heap.size → v.ownBlock ≠ some c → b ≠ c := by
    intro b hb c hc hne e
    subst e
    rcases hb with q | q
    · exact hne q
    · omega
  refine h g' c' w' ⟨us ++ [u], by simpa using ho', fun i z hi => ?_, fun i j y z b hi hj hy hz => ?_⟩ hk hs' hg'
  · rcases get i z hi with ⟨e, hi⟩ | ⟨rfl, rfl⟩
    · obtain ⟨q1, q2⟩ := h2 i z hi
      rw [getD_snoc_lt (by omega)]
      refine ⟨q1.kept hk (fun b hb e => q2 b hb e), fun b hb e => ?_⟩
      exact old g' hg' b (q1.blk b hb).2 (q2 b hb) (by simpa [Value.ownBlock] using e)
    · rw [hul, getD_snoc_last]
      have q2 : ∀ b, z.ownBlock = some b → v.ownBlock ≠ some b := fun b hb e => by have := (hu.blk b hb).1; have := hv0 b e; omega
      refine ⟨(hu.kept hk (fun b hb e => q2 b hb e)).weaken hbase, fun b hb e => ?_⟩
      exact old g' hg' b (hu.blk b hb).2 (q2 b hb) (by simpa [Value.ownBlock] using e)
  · rcases get i y hi with ⟨e1, hi'⟩ | ⟨ei, ey⟩ <;> rcases get j z hj with ⟨e2, hj'⟩ | ⟨ej, ez⟩
    · exact h3 i j y z b hi' hj' hy hz
    · have := hr0 i y hi' b hy
      subst ez
      have := (hu.blk b hz).1
      omega
    · have := hr0 j z hj' b hz
      subst ey
      have := (hu.blk b hy).1
      omega
    · rw [ei, ej]
end -- LayU

section -- RefA
set_option linter.unusedVariables false

/-- A power. -/
def pw (x : B) : Nat → B
  | 0 => 1
  | i + 1 => pw x i * x

theorem ev_snoc : ∀ (p : List B) (a x : B), ev (p ++ [a]) x = ev p x + a * pw x p.length
  | [], a, x => by show a + x * 0 = 0 + a * 1; grind
  | b :: p, a, x => by
    show b + x * ev (p ++ [a]) x = b + x * ev p x + a * (pw x p.length * x)
    rw [ev_snoc p a x]; grind
theorem ev_take {p : List B} {i : Nat} (h : i < p.length) (x : B) : ev (p.take (i + 1)) x = ev (p.take i) x + p.getD i 0 * pw x i := by
  rw [take_snocD h, ev_snoc]
  simp only [List.length_take]
  rw [Nat.min_eq_left (by omega)]
theorem ev_zero : ∀ (n : Nat) (x : B), ev (List.replicate n 0) x = 0
  | 0, x => rfl
  | n + 1, x => by
    rw [List.replicate_succ]
    show 0 + x * ev (List.replicate n 0) x = 0
    rw [ev_zero n x]; grind
theorem ev_set : ∀ (o : List B) (j : Nat) (c x : B), j < o.length → ev (o.set j (o.getD j 0 + c)) x = ev o x + c * pw x j
  | [], j, c, x, h => absurd h (by simp)
  | a :: o, 0, c, x, h => by
    show (a + c) + x * ev o x = a + x * ev o x + c * 1
    grind
  | a :: o, j + 1, c, x, h => by
    have := ev_set o j c x (by simpa using h)
    show a + x * ev (o.set j (o.getD j 0 + c)) x = a + x * ev o x + c * (pw x j * x)
    rw [this]; grind
theorem ev_set0 {o : List B} {j : Nat} (c x : B) (h : j < o.length) (hz : o.getD j 0 = 0) : ev (o.set j c) x = ev o x + c * pw x j := by
  have := ev_set o j c x h
  rw [hz] at this
  rw [← this]
  congr 2
  grind
theorem pw_add (x : B) (i : Nat) : ∀ k, pw x (i + k) = pw x i * pw x k
  | 0 => by show pw x i = pw x i * 1; grind
  | k + 1 => by
    show pw x (i + k) * x = pw x i * (pw x k * x)
    rw [pw_add x i k]; grind
theorem getD_set_ne {o : List B} {i j : Nat} {c : B} (h : i ≠ j) : (o.set i c).getD j 0 = o.getD j 0 := by
  rw [List.getD_eq_getElem?_getD, List.getD_eq_getElem?_getD, List.getElem?_set_ne h]
/-- A coefficient of nothing goes. -/
theorem ev_drop {p : List B} {i : Nat} (h : i < p.length) (hz : p.getD i 0 = 0) (x : B) : ev (p.take (i + 1)) x = ev (p.take i) x := by
  rw [ev_take h, hz]; grind
theorem ev_two (a x : B) : ev [a, 1] x = x + a := by
  show a + x * (1 + x * 0) = x + a
  grind
theorem ev_one (a x : B) : ev [a] x = a := by
  show a + x * 0 = a
  grind
end -- RefA

end Go.Proofs.Ytanjchpkekehgaa
