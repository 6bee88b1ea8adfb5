/-
  The walk of CodeAny.
-/
import Derived.Test.YtaaahbpeaamjgaaCodeVc
namespace Go.Proofs.Ytaaahbpeaamjgaa
open Go.RowKit Go.Maps
set_option linter.unusedVariables false
set_option maxRecDepth 100000
set_option maxHeartbeats 8000000

/-- Which indexes are taken. -/
def TakenAt (W : World) (b all : Nat) (xs : List Nat) : Prop := ∃ C : Array Value, W.heap[b]? = some (.cells C 3 (0, 0)) ∧ C.size = all ∧ ∀ a, a < all → C[a]? = some (.int .i64 (if a ∈ xs then 1 else 0))
theorem TakenAt.cell {W : World} {b all : Nat} {xs : List Nat} (h : TakenAt W b all xs) {a : Nat} (ha : a < all) : W.cell? ⟨b, a, none⟩ = some (.int .i64 (if a ∈ xs then 1 else 0)) := by
  obtain ⟨C, h1, h2, h3⟩ := h
  rw [cell_of h1, h3 a ha]
theorem TakenAt.fz {W : World} {b all : Nat} {xs : List Nat} (h : TakenAt W b all xs) (o : Nat) : W.frozen? ⟨b, o, none⟩ = false := by
  obtain ⟨C, h1, _⟩ := h
  exact fz_of h1 o
theorem TakenAt.lt {W : World} {b all : Nat} {xs : List Nat} (h : TakenAt W b all xs) : b < W.heap.size := by
  obtain ⟨C, h1, _⟩ := h
  exact (Array.getElem?_eq_some_iff.1 h1).1
theorem TakenAt.kept {S : Nat → Prop} {W W' : World} {b all : Nat} {xs : List Nat} (h : TakenAt W b all xs) (hk : Kept S W W') (hS : ¬ S b) : TakenAt W' b all xs := by
  obtain ⟨C, h1, h2⟩ := h
  exact ⟨C, (hk.block b (Array.getElem?_eq_some_iff.1 h1).1 hS).trans h1, h2⟩
theorem TakenAt.set {W : World} {b all : Nat} {xs xs' : List Nat} (h : TakenAt W b all xs) {a : Nat} (ha : a < all) (hx : ∀ y, y ∈ xs' ↔ y = a ∨ y ∈ xs) : TakenAt (W.setCell ⟨b, a, none⟩ (.int .i64 1)) b all xs' := by
  obtain ⟨C, h1, h2, h3⟩ := h
  refine ⟨_, heap_set h1 _, by simpa using h2, fun j hj => ?_⟩
  rw [Array.getElem?_setIfInBounds]
  by_cases e : a = j
  · subst e
    rw [if_pos rfl, if_pos (by omega), if_pos ((hx a).2 (.inl rfl))]
  · rw [if_neg e, h3 j hj]
    by_cases q : j ∈ xs
    · rw [if_pos q, if_pos ((hx j).2 (.inr q))]
    · rw [if_neg q, if_neg (fun h => ((hx j).1 h).elim (fun h => e h.symm) q)]
theorem TakenAt.made (w : World) (all : Nat) : TakenAt (w.alloc (.cells (Array.replicate all (.int .i64 0)) 3)) w.heap.size all [] :=
  ⟨_, heap_alloc_new w _, by simp, fun a ha => by simp [ha]⟩

/-- Held symbols that a call owns. -/
def HeldOwn (w W : World) (base : Nat) (v : Value) (hs : List (Int × List B)) : Prop := ∃ us, W.ownsRow base 38 2 v hs.length us ∧
  ∀ i, i < hs.length → us[i * 2]? = some (.int .i64 (hs.getD i (0, [])).1) ∧ ∃ u, us[i * 2 + 1]? = some u ∧ BytesAt w u (hs.getD i (0, [])).2
theorem HeldOwn.nil (w W : World) (base : Nat) : HeldOwn w W base (.slice none 0 0) [] := ⟨[], World.ownsRow_nil _ _ _ _, fun i h => absurd h (by simp)⟩
theorem HeldOwn.kept {S : Nat → Prop} {w W W' : World} {base : Nat} {v : Value} {hs : List (Int × List B)} (h : HeldOwn w W base v hs) (hk : Kept S W W') (hS : ∀ g, v.ownBlock = some g → ¬ S g) : HeldOwn w W' base v hs := by
  obtain ⟨us, h1, h2⟩ := h
  exact ⟨us, ownsRow_keptS h1 hk hS, h2⟩
theorem HeldOwn.lt {w W : World} {base : Nat} {v : Value} {hs : List (Int × List B)} (h : HeldOwn w W base v hs) : ∀ g, v.ownBlock = some g → base ≤ g ∧ g < W.heap.size := by
  obtain ⟨us, h1, _⟩ := h
  exact h1.lt
theorem HeldOwn.toAt {w W : World} {base : Nat} {v : Value} {hs : List (Int × List B)} (h : HeldOwn w W base v hs) (hB : Below w.heap.size w W) : HeldAt W v hs := by
  obtain ⟨us, h1, h2⟩ := h
  rcases h1.2 with ⟨rfl, h0⟩ | ⟨g, cap, cur, rfl, hb, hg, hnc, hcm, hcs, ht⟩
  · rw [List.eq_nil_of_length_eq_zero h0]
    exact ⟨none, 0, rfl, Nat.le_refl _, fun h => absurd h (by simp)⟩
  · have hc := h1.cells (g := g) rfl
    refine ⟨_, cap, rfl, hnc, fun _ => ⟨g, 0, rfl, fun i hi => ?_⟩⟩
    obtain ⟨e1, u, e2, e3⟩ := h2 i hi
    have c1 := hc _ _ e1
    have c2 := hc _ _ e2
    rw [add_zero_off] at c1 c2
    rw [Nat.zero_add]
    exact ⟨c1, u, c2, e3.below hB⟩
theorem HeldOwn.snoc {w W : World} {base n : Nat} {v' : Value} {hs : List (Int × List B)} {us : List Value} {ix : Int} {u : Value} {l : List B} (hn : hs.length = n) (hl : us.length = n * 2) (h2 : ∀ i, i < hs.length → us[i * 2]? = some (.int .i64 (hs.getD i (0, [])).1) ∧ ∃ u, us[i * 2 + 1]? = some u ∧ BytesAt w u (hs.getD i (0, [])).2)
    (hu : BytesAt w u l) (ho : W.ownsRow base 38 2 v' (n + 1) (us ++ [.int .i64 ix, u])) : HeldOwn w W base v' (hs ++ [(ix, l)]) := by
  refine ⟨us ++ [.int .i64 ix, u], by simpa [hn] using ho, fun i hi => ?_⟩
  by_cases e : i < hs.length
  · obtain ⟨a, y, b, c⟩ := h2 i e
    rw [List.getElem?_append_left (by omega), List.getElem?_append_left (by omega)]
    rw [show (hs ++ [(ix, l)]).getD i (0, []) = hs.getD i (0, []) by simp [List.getD_eq_getElem?_getD, List.getElem?_append_left e]]
    exact ⟨a, y, b, c⟩
  · have hi' : i = hs.length := by simp at hi; omega
    subst hi'
    rw [List.getElem?_append_right (by omega), List.getElem?_append_right (by omega)]
    rw [show (hs ++ [(ix, l)]).getD hs.length (0, []) = (ix, l) by simp [List.getD_eq_getElem?_getD]]
    rw [show hs.length * 2 - us.length = 0 by omega, show hs.length * 2 + 1 - us.length = 1 by omega]
    exact ⟨rfl, u, rfl, hu⟩

/-- What the first loop keeps. -/
structure CInv (w1 : World) (L : List (List B)) (all k : Nat) (xs : List Nat) (vh vi : Value) (W : World) : Prop where
  tk : TakenAt W w1.heap.size all xs
  held : HeldOwn w1 W (w1.heap.size + 1) vh (hsOf L xs)
  ints : W.ownsRow (w1.heap.size + 1) 3 1 vi xs.length (xs.map fun (x : Nat) => Value.int .i64 (x : Int))
  ne : ∀ g, vh.ownBlock = some g → vi.ownBlock ≠ some g
  nodup : xs.Nodup
  rng : ∀ x ∈ xs, x < all
  len : xs.length ≤ k + 3
  below : Below w1.heap.size w1 W

theorem CInv.start (w1 : World) (L : List (List B)) (all k : Nat) : CInv w1 L all k [] (.slice none 0 0) (.slice none 0 0) (w1.alloc (.cells (Array.replicate all (.int .i64 0)) 3)) :=
  ⟨TakenAt.made w1 all, HeldOwn.nil _ _ _, World.ownsRow_nil _ _ _ _, (fun g h => by cases h), List.nodup_nil, (fun x h => by cases h), Nat.zero_le _, bal _ _⟩
theorem CInv.stay {w1 W : World} {L : List (List B)} {all k a : Nat} {xs : List Nat} {vh vi : Value} (h : CInv w1 L all k xs vh vi W) (ha : a < all) (hx : a ∈ xs) : CInv w1 L all k xs vh vi (W.setCell ⟨w1.heap.size, a, none⟩ (.int .i64 1)) := by
  have hk := Kept.set1 W w1.heap.size a (.int .i64 1)
  refine ⟨h.tk.set ha (fun y => ⟨fun q => .inr q, fun q => q.elim (fun e => by rw [e]; exact hx) id⟩), h.held.kept hk (fun g hg e => by have := (h.held.lt g hg).1; omega), ownsRow_keptS h.ints hk (fun g hg e => by have := (h.ints.lt g hg).1; omega), h.ne, h.nodup, h.rng, h.len,
    h.below.trans (hk.toBelow h.below.size (fun i e => by omega))⟩

/-- Behind the appends, and the store. -/
theorem CInv.more {w1 W W1 W2 : World} {L : List (List B)} {all k a : Nat} {xs : List Nat} {vh vi vh' vi' : Value} (h : CInv w1 L all k xs vh vi W) (ha : a < all) (hx : a ∉ xs) (hlen : xs.length < k + 3) {us : List Value} {u : Value}
    (hul : us.length = xs.length * 2) (h2 : ∀ i, i < (hsOf L xs).length → us[i * 2]? = some (.int .i64 ((hsOf L xs).getD i (0, [])).1) ∧ ∃ u, us[i * 2 + 1]? = some u ∧ BytesAt w1 u ((hsOf L xs).getD i (0, [])).2) (hu : BytesAt w1 u (L.getD a []))
    (ho : W1.ownsRow (w1.heap.size + 1) 38 2 vh' (xs.length + 1) (us ++ [.int .i64 (a : Int), u])) (hk1 : Kept (fun q => vh.ownBlock = some q) W W1) (hg1 : ∀ g, vh'.ownBlock = some g → vh.ownBlock = some g ∨ W.heap.size < g)
    (hi : W2.ownsRow (w1.heap.size + 1) 3 1 vi' (xs.length + 1) ((xs.map fun (x : Nat) => Value.int .i64 (x : Int)) ++ [.int .i64 (a : Int)])) (hk2 : Kept (fun q => vi.ownBlock = some q) W1 W2) (hg2 : ∀ g, vi'.ownBlock = some g → vi.ownBlock = some g ∨ W1.heap.size < g) :
    CInv w1 L all k (xs ++ [a]) vh' vi' (W2.setCell ⟨w1.heap.size, a, none⟩ (.int .i64 1)) := by
  have hB1 := h.below.trans (hk1.toBelow h.below.size (fun i e => by have := (h.held.lt i e).1; omega))
  have hB2 := hB1.trans (hk2.toBelow hB1.size (fun i e => by have := (h.ints.lt i e).1; omega))
  have hk := Kept.set1 W2 w1.heap.size a (.int .i64 1)
  have n1 : ¬ vh.ownBlock = some w1.heap.size := fun e => by have := (h.held.lt _ e).1; omega
  have n2 : ¬ vi.ownBlock = some w1.heap.size := fun e => by have := (h.ints.lt _ e).1; omega
  have hh1 := HeldOwn.snoc (hs := hsOf L xs) (n := xs.length) (hsOf_len L xs) hul h2 hu ho
  rw [← hsOf_snoc] at hh1
  have hne : ∀ g, vh'.ownBlock = some g → ¬ vi.ownBlock = some g := fun g hg e => (hg1 g hg).elim (fun q => h.ne g q e) (fun q => by have := (h.ints.lt g e).2; omega)
  refine ⟨((h.tk.kept hk1 n1).kept hk2 n2).set ha (fun y => by simp [or_comm]), (hh1.kept hk2 hne).kept hk (fun g hg e => by have := (hh1.lt g hg).1; omega), ?_, fun g hg e => ?_, ?_, fun x hx' => ?_, by simp; omega,
    hB2.trans (hk.toBelow hB2.size (fun i e => by omega))⟩
  · rw [List.length_append, List.length_singleton, List.map_append]
    exact ownsRow_keptS hi hk (fun g hg e => by have := (hi.lt g hg).1; omega)
  · rcases hg2 g e with q | q
    · exact hne g hg q
    · have := (hh1.lt g hg).2; omega
  · rw [List.nodup_append]
    refine ⟨h.nodup, by simp, fun x hx' y hy => ?_⟩
    simp at hy
    subst hy
    exact fun e => hx (by rw [← e]; exact hx')
  · rcases List.mem_append.1 hx' with q | q
    · exact h.rng x q
    · simp at q; omega

end Go.Proofs.Ytaaahbpeaamjgaa
