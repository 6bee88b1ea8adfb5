/-
  RefF: Walks of the reference, layer 2 (poly): Through.
  RefG: Walks of the reference, layer 4 (lagr): Value, Weights, Values.
-/
import Derived.Test.YtanjchpkekehgaaMxay
namespace Go.Proofs.Ytanjchpkekehgaa

section -- RefF
open Go.RowKit Go.Maps
set_option linter.unusedVariables false
set_option maxRecDepth 100000
set_option maxHeartbeats 4000000

section
variable {w w' : World} {base n : Nat} {f : B → B} {v : Value}
theorem PolyAt.below (h : PolyAt w base n f v) (hb : Below w.heap.size w w') : PolyAt w' base n f v := by
  obtain ⟨l, h1, h2, h3⟩ := h
  exact ⟨l, h1.below hb, h2, h3⟩
theorem PolyAt.lower {base' : Nat} (h : PolyAt w base n f v) (hb : base' ≤ base) : PolyAt w base' n f v := by
  obtain ⟨l, h1, h2, h3⟩ := h
  exact ⟨l, h1.weaken hb, h2, h3⟩
theorem PolyAt.to {n' : Nat} {g : B → B} (h : PolyAt w base n f v) (hn : n ≤ n') (hg : ∀ x, f x = g x) : PolyAt w base n' g v := by
  obtain ⟨l, h1, h2, h3⟩ := h
  exact ⟨l, h1, Nat.le_trans h2 hn, fun x => (h3 x).trans (hg x)⟩
theorem PolyAt.shape (h : PolyAt w base n f v) : ∃ p k c, v = .slice p k c := by
  obtain ⟨l, h1, h2, h3⟩ := h
  obtain ⟨p, c, e⟩ := h1.shape
  exact ⟨p, _, c, e⟩
end

theorem nodup_getD {xs : List B} (hn : xs.Nodup) {i k : Nat} (hi : i < xs.length) (hk : k < xs.length) (h : i ≠ k) : (xs.getD i 0).v ≠ (xs.getD k 0).v := by
  intro e
  have e2 := B.ext e
  rw [List.getD_eq_getElem?_getD, List.getD_eq_getElem?_getD, List.getElem?_eq_getElem hi, List.getElem?_eq_getElem hk] at e2
  exact h (nodup_inj hn hi hk (by simpa using e2))
theorem lit_one (w : World) (x : B) : BytesAt (w.alloc (.cells #[bv x] 5)) (.slice (some ⟨w.heap.size, 0, none⟩) 1 1) [x] :=
  ⟨_, _, rfl, fun _ => ⟨_, _, rfl, fun i hi => by
    obtain rfl : i = 0 := by simp at hi; omega
    exact (World.cell?_alloc_new w _ _ 0).trans rfl⟩⟩
theorem lit_two (w : World) (x y : B) : BytesAt (w.alloc (.cells #[bv x, bv y] 5)) (.slice (some ⟨w.heap.size, 0, none⟩) 2 2) [x, y] :=
  ⟨_, _, rfl, fun _ => ⟨_, _, rfl, fun i hi => by
    obtain rfl | rfl : i = 0 ∨ i = 1 := by simp at hi; omega
    · exact (World.cell?_alloc_new w _ _ 0).trans rfl
    · exact (World.cell?_alloc_new w _ _ 1).trans rfl⟩⟩
theorem BytesAt.al {w : World} {v : Value} {l : List B} (h : BytesAt w v l) (x : Obj) : BytesAt (w.alloc x) v l := h.kept (Kept.alloc (fun _ => False) w x) (fun _ _ h => h)
theorem one_poly (w : World) (base : Nat) (hb : base ≤ w.heap.size) : PolyAt (w.alloc (.cells #[.int .u8 1] 5)) base 1 (fun _ => 1) (.slice (some ⟨w.heap.size, 0, none⟩) 1 1) :=
  ⟨[1], (World.ownsRow_lit w #[.int .u8 1] 1 hb (by unfold maxLen; omega) rfl), by simp, fun x => ev_one 1 x⟩
theorem bal' (w : World) (x : Obj) : Below w.heap.size w (w.alloc x) := (Kept.alloc (fun _ => False) w x).toBelow (Nat.le_refl _) (fun _ h => h.elim)
theorem lagSum {xs ys : List B} {m : Nat} (c : B) (hm : m < xs.length) (hc : ys.getD m 0 * (pr (xs.eraseIdx m) (xs.getD m 0)).inv = c) (x : B) :
    sm m (fun i => lag xs i x * ys.getD i 0) + pS xs m x xs.length * c = sm (m + 1) (fun i => lag xs i x * ys.getD i 0) := by
  show _ = sm m _ + lag xs m x * ys.getD m 0
  rw [pS_eq xs m x xs.length (Nat.le_refl _), List.take_length, ← hc]
  unfold lag
  grind
end -- RefF

section -- RefG
open Go.RowKit Go.Maps
set_option linter.unusedVariables false
set_option maxRecDepth 100000
set_option maxHeartbeats 2000000

/-- Append of one byte. -/
theorem app_own {ops : Array Oper} {rest : List Oper} {o : Oper} {a : Act} {Q : Exit → Act → World → Prop} {W : World}
    (hgd : o.guard = none) (s x : Operand) (ho : o.op = .call { callee := .builtin .append, args := #[s, x], argTypes := #[37, 37] })
    (base n : Nat) (v : Value) (l : List B) (y : B) (hln : l.length = n) (hown : Own W base v l) (hs : a.eval s = v)
    (hx : a.eval x = .slice (some ⟨W.heap.size, 0, none⟩) 1 1) (hn : n < 1000000000000) (hbase : base ≤ W.heap.size)
    (h : ∀ g' c' w', Own w' base (.slice (some ⟨g', 0, none⟩) (n + 1) c') (l ++ [y]) → Kept (fun k => v.ownBlock = some k) W w' → W.heap.size < w'.heap.size → (v.ownBlock = some g' ∨ W.heap.size < g') →
      wpList Try.prog ops Q rest (a.put o.dst (.slice (some ⟨g', 0, none⟩) (n + 1) c')) w') : wpList Try.prog ops Q (o :: rest) a (W.alloc (.cells #[bv y] 5)) := by
  subst hln
  refine app_el 37 5 1 1 (.int .u8 0) Try.underlying37 infoB rfl (by decide) hgd s x ho base l.length v (l.map bv) hs hown [bv y] rfl (one_bv y) hx hn hbase ?_
  intro g' c' w' ho' hk hs' hg'
  refine h g' c' w' ?_ hk hs' hg'
  unfold Own
  rw [List.length_append, ← map_snoc_bv]
  exact ho'
theorem RowF.made1 (w : World) (n k : Nat) (x : B) : RowF (w.alloc (.cells ((Array.replicate n (.int .u8 0)).setIfInBounds k (bv x)) 5)) w.heap.size ((List.replicate n 0).set k x) := by
  refine (heap_alloc_new w _).trans ?_
  rw [List.map_set, show (List.replicate n (0 : B)).map bv = List.replicate n (.int .u8 0) from by rw [List.map_replicate]; rfl]
  rw [← List.setIfInBounds_toArray, List.toArray_replicate]

theorem wts_unit {xs : List B} {j : Nat} (hj : j < xs.length) (x : B) : sm xs.length (fun i => lag xs i x * ((List.replicate xs.length 0).set j 1).getD i 0) = lag xs j x := by
  rw [sm_one hj (fun i hi hne => by
    rw [getD_set_ne (fun e => hne e.symm), List.getD_eq_getElem?_getD, List.getElem?_replicate]
    simp [hi]
    grind)]
  rw [List.getD_eq_getElem?_getD, List.getElem?_set_self (by simpa using hj)]
  show lag xs j x * 1 = _
  grind
end -- RefG

end Go.Proofs.Ytanjchpkekehgaa
