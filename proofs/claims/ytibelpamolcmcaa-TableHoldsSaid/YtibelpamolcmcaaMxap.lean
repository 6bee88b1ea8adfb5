/-
  LayU: Rows of bytes that are their own, but perhaps cut behind their last byte.
  RefA: Polynomials as the reference makes them (plain): what each step does to the value.
  RefC: Walks of the reference, layer 2 (poly): Value, Lean, Add.
-/
import Derived.Test.YtibelpamolcmcaaMxak
import Derived.Test.YtibelpamolcmcaaMxac
import Derived.Test.YtibelpamolcmcaaMxai
import Derived.Lib.MinMax
namespace Go.Proofs.Ytibelpamolcmcaa

section -- LayU
open Go.RowKit Go.Maps
set_option linter.unusedVariables false
set_option maxRecDepth 100000

/-- Cut behind its last byte. -/
def CutAt (w : World) (base : Nat) (v : Value) (l : List B) : Prop := ∃ g, v = .slice (some ⟨g, 0, none⟩) l.length l.length ∧ base ≤ g ∧ 0 < l.length ∧ RowW w g l
/-- A row of its own: with its spare room, or cut. -/
def OwnL (w : World) (base : Nat) (v : Value) (l : List B) : Prop := Own w base v l ∨ CutAt w base v l
section
variable {w w' : World} {base : Nat} {v : Value} {l : List B}
theorem OwnL.bytes (h : OwnL w base v l) : BytesAt w v l := by
  rcases h with h | ⟨g, rfl, _, _, h⟩
  · exact h.bytes
  · exact h.toBytes _
theorem OwnL.kept {S : Nat → Prop} (h : OwnL w base v l) (hk : Kept S w w') (hS : ∀ b, v.ownBlock = some b → ¬ S b) : OwnL w' base v l := by
  rcases h with h | ⟨g, rfl, h1, h2, h3⟩
  · exact .inl (h.kept hk hS)
  · exact .inr ⟨g, rfl, h1, h2, h3.kept hk (hS g rfl)⟩
theorem OwnL.below (h : OwnL w base v l) (hb : Below w.heap.size w w') : OwnL w' base v l := h.kept (Kept.below hb) (fun _ _ h => h)
theorem OwnL.blk (h : OwnL w base v l) : ∀ b, v.ownBlock = some b → base ≤ b ∧ b < w.heap.size := by
  rcases h with h | ⟨g, rfl, h1, h2, h3⟩
  · exact h.blk
  · intro b hb
    have := own_is hb
    subst this
    exact ⟨h1, h3.lt⟩
theorem OwnL.weaken {base' : Nat} (h : OwnL w base v l) (hb : base' ≤ base) : OwnL w base' v l := by
  rcases h with h | ⟨g, rfl, h1, h2, h3⟩
  · exact .inl (h.weaken hb)
  · exact .inr ⟨g, rfl, by omega, h2, h3⟩
end

/-- Rows that are owned, each one in a block that is no other's. -/
def RowsCut (w : World) (base : Nat) (v : Value) (ls : List (List B)) : Prop := ∃ us, w.ownsRow base 32 1 v ls.length us ∧
  (∀ i u, us[i]? = some u → OwnL w base u (ls.getD i []) ∧ ∀ b, u.ownBlock = some b → v.ownBlock ≠ some b) ∧
  ∀ (i j : Nat) (u z : Value) (b : Nat), us[i]? = some u → us[j]? = some z → u.ownBlock = some b → z.ownBlock = some b → i = j

section
variable {w w' : World} {base : Nat} {v : Value} {ls : List (List B)}
theorem RowsCut.nil (w : World) (base : Nat) : RowsCut w base (.slice none 0 0) [] := ⟨[], World.ownsRow_nil _ _ _ _, fun i u h => by simp at h, fun i j u z b h => by simp at h⟩
theorem RowsCut.own (h : RowsCut w base v ls) : RowsOwn w base v ls := by
  obtain ⟨us, h1, h2, h3⟩ := h
  exact ⟨us, h1, fun i u hi => ⟨(h2 i u hi).1.bytes, fun b hb => ⟨((h2 i u hi).1.blk b hb).2, (h2 i u hi).2 b hb⟩⟩⟩
theorem RowsCut.rows (h : RowsCut w base v ls) : RowsAt w v ls := h.own.rows
theorem RowsCut.lt (h : RowsCut w base v ls) : ∀ k, v.ownBlock = some k → base ≤ k ∧ k < w.heap.size := h.own.lt
theorem RowsCut.kept {S : Nat → Prop} (h : RowsCut w base v ls) (hk : Kept S w w') (hS : ∀ k, k < w.heap.size → base ≤ k → ¬ S k) : RowsCut w' base v ls := by
  obtain ⟨us, h1, h2, h3⟩ := h
  exact ⟨us, ownsRow_keptS h1 hk (fun g hg => hS g (h1.lt g hg).2 (h1.lt g hg).1), fun i u hi => ⟨(h2 i u hi).1.kept hk (fun b hb => hS b ((h2 i u hi).1.blk b hb).2 ((h2 i u hi).1.blk b hb).1), (h2 i u hi).2⟩, h3⟩
theorem RowsCut.below (h : RowsCut w base v ls) (hb : Below w.heap.size w w') : RowsCut w' base v ls := h.kept (Kept.below hb) (fun _ _ _ h => h)
theorem RowsCut.weaken {base' : Nat} (h : RowsCut w base v ls) (hb : base' ≤ base) : RowsCut w base' v ls := by
  obtain ⟨us, h1, h2, h3⟩ := h
  exact ⟨us, ownsRow_weaken h1 hb, fun i u hi => ⟨(h2 i u hi).1.weaken hb, (h2 i u hi).2⟩, h3⟩
end
end -- LayU

section -- RefA
set_option linter.unusedVariables false

/-- A power. -/
def pw (x : B) : Nat → B
  | 0 => 1
  | i + 1 => pw x i * x

theorem ev_snoc : ∀ (p : List B) (a x : B), ev (p ++ [a]) x = ev p x + a * pw x p.length
  | [], a, x => by show a + x * 0 = 0 + a * 1; grind
  | b :: p, a, x => by
    show b + x * ev (p ++ [a]) x = b + x * ev p x + a * (pw x p.length * x)
    rw [ev_snoc p a x]; grind
theorem ev_take {p : List B} {i : Nat} (h : i < p.length) (x : B) : ev (p.take (i + 1)) x = ev (p.take i) x + p.getD i 0 * pw x i := by
  rw [take_snocD h, ev_snoc]
  simp only [List.length_take]
  rw [Nat.min_eq_left (by omega)]
theorem ev_zero : ∀ (n : Nat) (x : B), ev (List.replicate n 0) x = 0
  | 0, x => rfl
  | n + 1, x => by
    rw [List.replicate_succ]
    show 0 + x * ev (List.replicate n 0) x = 0
    rw [ev_zero n x]; grind
theorem ev_set : ∀ (o : List B) (j : Nat) (c x : B), j < o.length → ev (o.set j (o.getD j 0 + c)) x = ev o x + c * pw x j
  | [], j, c, x, h => absurd h (by simp)
  | a :: o, 0, c, x, h => by
    show (a + c) + x * ev o x = a + x * ev o x + c * 1
    grind
  | a :: o, j + 1, c, x, h => by
    have := ev_set o j c x (by simpa using h)
    show a + x * ev (o.set j (o.getD j 0 + c)) x = a + x * ev o x + c * (pw x j * x)
    rw [this]; grind
theorem ev_set0 {o : List B} {j : Nat} (c x : B) (h : j < o.length) (hz : o.getD j 0 = 0) : ev (o.set j c) x = ev o x + c * pw x j := by
  have := ev_set o j c x h
  rw [hz] at this
  rw [← this]
  congr 2
  grind
theorem pw_add (x : B) (i : Nat) : ∀ k, pw x (i + k) = pw x i * pw x k
  | 0 => by show pw x i = pw x i * 1; grind
  | k + 1 => by
    show pw x (i + k) * x = pw x i * (pw x k * x)
    rw [pw_add x i k]; grind
theorem getD_set_ne {o : List B} {i j : Nat} {c : B} (h : i ≠ j) : (o.set i c).getD j 0 = o.getD j 0 := by
  rw [List.getD_eq_getElem?_getD, List.getD_eq_getElem?_getD, List.getElem?_set_ne h]
/-- A coefficient of nothing goes. -/
theorem ev_drop {p : List B} {i : Nat} (h : i < p.length) (hz : p.getD i 0 = 0) (x : B) : ev (p.take (i + 1)) x = ev (p.take i) x := by
  rw [ev_take h, hz]; grind
theorem ev_two (a x : B) : ev [a, 1] x = x + a := by
  show a + x * (1 + x * 0) = x + a
  grind
theorem ev_one (a x : B) : ev [a] x = a := by
  show a + x * 0 = a
  grind
end -- RefA

section -- RefC
open Go.RowKit Go.Maps
set_option linter.unusedVariables false
set_option maxRecDepth 100000
set_option maxHeartbeats 2000000

/-- Append of nothing. -/
theorem app_none {ops : Array Oper} {rest : List Oper} {o : Oper} {a : Act} {Q : Exit → Act → World → Prop} {W : World} (t e : TypeId) (size bytes : Nat) (z : Value) (ht : Try.prog.underlying t = some (.slice e))
    (hinfo : (Try.prog.info? e).map (fun i => (i.zero, i.size, i.bytes)) = some (some z, size, bytes))
    (hgd : o.guard = none) (s x : Operand) (ho : o.op = .call { callee := .builtin .append, args := #[s, x], argTypes := #[t, t] })
    (base n : Nat) (v : Value) (us : List Value) (hs : a.eval s = v) (hown : W.ownsRow base e size v n us) (p : Option Addr) (c : Nat)
    (hx : a.eval x = .slice p 0 c)
    (h : wpList Try.prog ops Q rest (a.put o.dst v) W) : wpList Try.prog ops Q (o :: rest) a W := by
  obtain ⟨i, hi, hz, hsize, hbytes⟩ := info_parts hinfo
  have hr : (Builtin.append_ #[t, t] o.type #[v, .slice p 0 c]).run Try.prog W = .ok v W := by
    have hld : ∀ b : Addr, (loadCells b 0).run Try.prog W = .ok #[] W := fun b => run_loadCells_list (P := Try.prog) (w := W) b [] (fun j v h => by simp at h)
    rcases hown.2 with ⟨rfl, rfl⟩ | ⟨g, cap, cur, rfl, _, _, hnc, _⟩
    · cases p <;> simp [Builtin.append_, run_underlying ht, sizeOf, typeInfo, hi, Builtin.lenOf, Builtin.firstCells, hld]
    · cases p <;> simp [Builtin.append_, run_underlying ht, sizeOf, typeInfo, hi, Builtin.lenOf, Builtin.firstCells, hnc, storeCells, hld]
  refine wpList_plain hgd fun K hK => ?_
  unfold Oper.wp execOp
  simp only [ho, resolve, invoke, builtin, Sem.run_bind, Sem.run_pure, Result.andThen_ok, List.map_toArray, List.map_cons, List.map_nil, hs, hx, hr]
  exact hK _ _ h

/-- A polynomial that is made: as long at most, of that value everywhere. -/
def PolyAt (w : World) (base n : Nat) (f : B → B) (v : Value) : Prop := ∃ l, Own w base v l ∧ l.length ≤ n ∧ ∀ x, ev l x = f x

theorem empty_own (w : World) : Own (w.alloc (.cells #[] 5)) w.heap.size (.slice (some ⟨w.heap.size, 0, none⟩) 0 0) [] := World.ownsRow_lit w #[] 0 (Nat.le_refl _) (by unfold maxLen; omega) rfl

theorem ev_full {l : List B} {n : Nat} (h : l.length = n) (x : B) : ev (l.take n) x = ev l x := by rw [← h, List.take_length]
end -- RefC

end Go.Proofs.Ytibelpamolcmcaa
