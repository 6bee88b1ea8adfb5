/-
  What LayPrefix and LayMore keep: which bodies are taken, held bodies that a call owns.
-/
import Derived.Test.YtanjchpkekehgaaMxbo
namespace Go.Proofs.Ytanjchpkekehgaa
open Go.RowKit Go.Maps
set_option linter.unusedVariables false
set_option maxRecDepth 100000
set_option maxHeartbeats 8000000

theorem pick_any (w : World) (n : Int) (m : Nat) (h1 : 1 ≤ m) (h2 : m ≤ 1000000) :
    Calls Try.prog 17 #[.int .i64 n, .int .i64 (m : Int)] w fun e w' => (∃ p : Nat, e = .returned (.int .i64 (p : Int)) ∧ p < m) ∧ w = w' := by
  have e1 : ¬ ((m : Int) < 1) := by omega
  have e2 : ((m : Int) == 0) = false := by simp; omega
  have t1 : n.tmod m < m := Int.tmod_lt_of_pos _ (by omega)
  have t2 : -(m : Int) < n.tmod m := by
    have := Int.tmod_lt_of_pos (-n) (b := (m : Int)) (by omega)
    rw [Int.neg_tmod] at this
    omega
  have hw : wrap64 (n.tmod m + m) = n.tmod m + m := by unfold wrap64; omega
  by_cases hneg : n.tmod m < 0
  · have e3 : ¬ 0 ≤ n.tmod m := by omega
    go_enter Try.func17, Try.ntmps17
    go_wp2
    go_ret
    exact ⟨⟨(n.tmod m + m).toNat, by show Ending.returned (Value.int .i64 (n.tmod m + m)) = _; congr 2; omega, by omega⟩, rfl⟩
  · have e3 : 0 ≤ n.tmod m := by omega
    go_enter Try.func17, Try.ntmps17
    go_wp2
    go_ret
    exact ⟨⟨(n.tmod m).toNat, by show Ending.returned (Value.int .i64 (n.tmod m)) = _; congr 2; omega, by omega⟩, rfl⟩

/-- Which indexes are taken. -/
def TakenAt (W : World) (b all : Nat) (xs : List Nat) : Prop := ∃ C : Array Value, W.heap[b]? = some (.cells C 3 (0, 0)) ∧ C.size = all ∧ ∀ a, a < all → C[a]? = some (.int .i64 (if a ∈ xs then 1 else 0))
theorem TakenAt.cell {W : World} {b all : Nat} {xs : List Nat} (h : TakenAt W b all xs) {a : Nat} (ha : a < all) : W.cell? ⟨b, a, none⟩ = some (.int .i64 (if a ∈ xs then 1 else 0)) := by
  obtain ⟨C, h1, h2, h3⟩ := h
  rw [cell_of h1, h3 a ha]
theorem TakenAt.fz {W : World} {b all : Nat} {xs : List Nat} (h : TakenAt W b all xs) (o : Nat) : W.frozen? ⟨b, o, none⟩ = false := by
  obtain ⟨C, h1, _⟩ := h
  exact fz_of h1 o
theorem TakenAt.lt {W : World} {b all : Nat} {xs : List Nat} (h : TakenAt W b all xs) : b < W.heap.size := by
  obtain ⟨C, h1, _⟩ := h
  exact (Array.getElem?_eq_some_iff.1 h1).1
theorem TakenAt.kept {S : Nat → Prop} {W W' : World} {b all : Nat} {xs : List Nat} (h : TakenAt W b all xs) (hk : Kept S W W') (hS : ¬ S b) : TakenAt W' b all xs := by
  obtain ⟨C, h1, h2⟩ := h
  exact ⟨C, (hk.block b (Array.getElem?_eq_some_iff.1 h1).1 hS).trans h1, h2⟩
theorem TakenAt.set {W : World} {b all : Nat} {xs xs' : List Nat} (h : TakenAt W b all xs) {a : Nat} (ha : a < all) (hx : ∀ y, y ∈ xs' ↔ y = a ∨ y ∈ xs) : TakenAt (W.setCell ⟨b, a, none⟩ (.int .i64 1)) b all xs' := by
  obtain ⟨C, h1, h2, h3⟩ := h
  refine ⟨_, heap_set h1 _, by simpa using h2, fun j hj => ?_⟩
  rw [Array.getElem?_setIfInBounds]
  by_cases e : a = j
  · subst e
    rw [if_pos rfl, if_pos (by omega), if_pos ((hx a).2 (.inl rfl))]
  · rw [if_neg e, h3 j hj]
    by_cases q : j ∈ xs
    · rw [if_pos q, if_pos ((hx j).2 (.inr q))]
    · rw [if_neg q, if_neg (fun h => ((hx j).1 h).elim (fun h => e h.symm) q)]
theorem TakenAt.made (w : World) (all : Nat) : TakenAt (w.alloc (.cells (Array.replicate all (.int .i64 0)) 3)) w.heap.size all [] :=
  ⟨_, heap_alloc_new w _, by simp, fun a ha => by simp [ha]⟩

/-- Held bodies that a call owns; each is no longer than it may be. -/
def HeldL (w W : World) (base : Nat) (v : Value) (hs : List (Int × List B)) : Prop := ∃ us, W.ownsRow base 43 2 v hs.length us ∧
  ∀ i, i < hs.length → us[i * 2]? = some (.int .i64 (hs.getD i (0, [])).1) ∧ ∃ p c, us[i * 2 + 1]? = some (.slice p (hs.getD i (0, [])).2.length c) ∧ (hs.getD i (0, [])).2.length ≤ c ∧ BytesAt w (.slice p (hs.getD i (0, [])).2.length c) (hs.getD i (0, [])).2
theorem HeldL.nil (w W : World) (base : Nat) : HeldL w W base (.slice none 0 0) [] := ⟨[], World.ownsRow_nil _ _ _ _, fun i h => absurd h (by simp)⟩
theorem HeldL.kept {S : Nat → Prop} {w W W' : World} {base : Nat} {v : Value} {hs : List (Int × List B)} (h : HeldL w W base v hs) (hk : Kept S W W') (hS : ∀ g, v.ownBlock = some g → ¬ S g) : HeldL w W' base v hs := by
  obtain ⟨us, h1, h2⟩ := h
  exact ⟨us, ownsRow_keptS h1 hk hS, h2⟩
theorem HeldL.lt {w W : World} {base : Nat} {v : Value} {hs : List (Int × List B)} (h : HeldL w W base v hs) : ∀ g, v.ownBlock = some g → base ≤ g ∧ g < W.heap.size := by
  obtain ⟨us, h1, _⟩ := h
  exact h1.lt
theorem HeldL.toAt {w W : World} {base : Nat} {v : Value} {hs : List (Int × List B)} (h : HeldL w W base v hs) (hB : Below w.heap.size w W) : HeldAt W v hs := by
  obtain ⟨us, h1, h2⟩ := h
  rcases h1.2 with ⟨rfl, h0⟩ | ⟨g, cap, cur, rfl, hb, hg, hnc, hcm, hcs, ht⟩
  · rw [List.eq_nil_of_length_eq_zero h0]
    exact ⟨none, 0, rfl, Nat.le_refl _, fun h => absurd h (by simp)⟩
  · have hc := h1.cells (g := g) rfl
    refine ⟨_, cap, rfl, hnc, fun _ => ⟨g, 0, rfl, fun i hi => ?_⟩⟩
    obtain ⟨e1, p, c, e2, _, e3⟩ := h2 i hi
    have c1 := hc _ _ e1
    have c2 := hc _ _ e2
    rw [add_zero_off] at c1 c2
    rw [Nat.zero_add]
    exact ⟨c1, _, c2, e3.below hB⟩
theorem HeldL.cap {w W : World} {base : Nat} {v : Value} {hs : List (Int × List B)} (h : HeldL w W base v hs) : ∀ g o c, v = .slice (some ⟨g, o, none⟩) hs.length c → ∀ i, i < hs.length → ∀ p n c', W.cell? ⟨g, o + i * 2 + 1, none⟩ = some (.slice p n c') → n ≤ c' := by
  intro g o c e i hi p n c' hcell
  obtain ⟨us, h1, h2⟩ := h
  rcases h1.2 with ⟨e0, _⟩ | ⟨g', cap, cur, e0, _⟩
  · rw [e0] at e; cases e
  · have e3 := e0.symm.trans e
    obtain ⟨e4, _, _⟩ := Value.slice.inj e3
    simp at e4
    obtain ⟨rfl, rfl⟩ := e4
    have hc := h1.cells (g := g') (by rw [e0]; rfl)
    obtain ⟨_, p2, c2, e2, hle, _⟩ := h2 i hi
    have c3 := hc _ _ e2
    rw [add_zero_off] at c3
    rw [Nat.zero_add, c3] at hcell
    obtain ⟨_, q1, q2⟩ := Value.slice.inj (Option.some.inj hcell)
    omega
theorem HeldL.snoc {w W : World} {base n : Nat} {v' : Value} {hs : List (Int × List B)} {us : List Value} {ix : Int} {p : Option Addr} {lu c : Nat} {l : List B} (hn : hs.length = n) (hl : us.length = n * 2) (h2 : ∀ i, i < hs.length → us[i * 2]? = some (.int .i64 (hs.getD i (0, [])).1) ∧ ∃ p c, us[i * 2 + 1]? = some (.slice p (hs.getD i (0, [])).2.length c) ∧ (hs.getD i (0, [])).2.length ≤ c ∧ BytesAt w (.slice p (hs.getD i (0, [])).2.length c) (hs.getD i (0, [])).2)
    (hlu : l.length = lu) (hc : lu ≤ c) (hu : BytesAt w (.slice p lu c) l) (ho : W.ownsRow base 43 2 v' (n + 1) (us ++ [.int .i64 ix, .slice p lu c])) : HeldL w W base v' (hs ++ [(ix, l)]) := by
  subst hlu
  refine ⟨us ++ [.int .i64 ix, .slice p l.length c], by simpa [hn] using ho, fun i hi => ?_⟩
  by_cases e : i < hs.length
  · obtain ⟨a, y, z, b, c, d⟩ := h2 i e
    rw [List.getElem?_append_left (by omega), List.getElem?_append_left (by omega)]
    rw [show (hs ++ [(ix, l)]).getD i (0, []) = hs.getD i (0, []) by simp [List.getD_eq_getElem?_getD, List.getElem?_append_left e]]
    exact ⟨a, y, z, b, c, d⟩
  · have hi' : i = hs.length := by simp at hi; omega
    subst hi'
    rw [List.getElem?_append_right (by omega), List.getElem?_append_right (by omega)]
    rw [show (hs ++ [(ix, l)]).getD hs.length (0, []) = (ix, l) by simp [List.getD_eq_getElem?_getD]]
    rw [show hs.length * 2 - us.length = 0 by omega, show hs.length * 2 + 1 - us.length = 1 by omega]
    exact ⟨rfl, p, c, rfl, hc, hu⟩

/-- What the second loop keeps. -/
structure PInvL (w1 : World) (L : List (List B)) (all k : Nat) (xs : List Nat) (vh : Value) (W : World) : Prop where
  tk : TakenAt W w1.heap.size all xs
  held : HeldL w1 W (w1.heap.size + 1) vh (hsOf L xs)
  nodup : xs.Nodup
  rng : ∀ x ∈ xs, x < all
  len : xs.length ≤ k
  below : Below w1.heap.size w1 W
theorem PInvL.start (w1 : World) (L : List (List B)) (all : Nat) : PInvL w1 L all 0 [] (.slice none 0 0) (w1.alloc (.cells (Array.replicate all (.int .i64 0)) 3)) :=
  ⟨TakenAt.made w1 all, HeldL.nil _ _ _, List.nodup_nil, (fun x h => by cases h), Nat.zero_le _, balT _ _⟩
theorem PInvL.stay {w1 W : World} {L : List (List B)} {all k a : Nat} {xs : List Nat} {vh : Value} (h : PInvL w1 L all k xs vh W) (ha : a < all) (hx : a ∈ xs) : PInvL w1 L all (k + 1) xs vh (W.setCell ⟨w1.heap.size, a, none⟩ (.int .i64 1)) := by
  have hk := Kept.set1 W w1.heap.size a (.int .i64 1)
  exact ⟨h.tk.set ha (fun y => ⟨fun q => .inr q, fun q => q.elim (fun e => by rw [e]; exact hx) id⟩), h.held.kept hk (fun g hg e => by have := (h.held.lt g hg).1; omega), h.nodup, h.rng, Nat.le_succ_of_le h.len,
    h.below.trans (hk.toBelow h.below.size (fun i e => by omega))⟩
theorem PInvL.more {w1 W W1 : World} {L : List (List B)} {all k a : Nat} {xs : List Nat} {vh vh' : Value} (h : PInvL w1 L all k xs vh W) (ha : a < all) (hx : a ∉ xs) (hh : HeldL w1 W1 (w1.heap.size + 1) vh' (hsOf L xs ++ [((a : Int), L.getD a [])])) (hk1 : Kept (fun q => vh.ownBlock = some q) W W1) :
    PInvL w1 L all (k + 1) (xs ++ [a]) vh' (W1.setCell ⟨w1.heap.size, a, none⟩ (.int .i64 1)) := by
  have hB1 := h.below.trans (hk1.toBelow h.below.size (fun i e => by have := (h.held.lt i e).1; omega))
  have hk := Kept.set1 W1 w1.heap.size a (.int .i64 1)
  have n1 : ¬ vh.ownBlock = some w1.heap.size := fun e => by have := (h.held.lt _ e).1; omega
  rw [← hsOf_snoc] at hh
  refine ⟨(h.tk.kept hk1 n1).set ha (fun y => by simp [or_comm]), hh.kept hk (fun g hg e => by have := (hh.lt g hg).1; omega), ?_, fun x hx' => ?_, by simp; have := h.len; omega, hB1.trans (hk.toBelow hB1.size (fun i e => by omega))⟩
  · rw [List.nodup_append]
    refine ⟨h.nodup, by simp, fun x hx' y hy => ?_⟩
    simp at hy
    subst hy
    exact fun e => hx (by rw [← e]; exact hx')
  · rcases List.mem_append.1 hx' with q | q
    · exact h.rng x q
    · simp at q; omega

theorem own_shapeL {W : World} {base size n : Nat} {e : TypeId} {v : Value} {us : List Value} (h : W.ownsRow base e size v n us) : ∃ p c, v = .slice p n c := by
  rcases h.2 with ⟨rfl, h0⟩ | ⟨g, cap, cur, rfl, _⟩
  · exact ⟨none, 0, by rw [h0]⟩
  · exact ⟨_, _, rfl⟩

/-- Append of one element within a drawn region. -/
theorem step_appN {ops : Array Oper} {o : Oper} {a : Act} {W : World} {K : Act → World → Prop} {Q : Exit → Act → World → Prop} {E : Prop} (t e : TypeId) (size bytes : Nat) (z : Value) (ht : Try.prog.underlying t = some (.slice e))
    (hinfo : (Try.prog.info? e).map (fun i => (i.zero, i.size, i.bytes)) = some (some z, size, bytes)) (hzs : z.cells.size = size) (hby : bytes ≤ 64)
    (hw : Region.wanted o (yielded ops a.tmps) = true) (s x : Operand) (ho : o.op = .call { callee := .builtin .append, args := #[s, x], argTypes := #[t, t] })
    (base n : Nat) (v : Value) (us : List Value) (hs : a.eval s = v) (hown : W.ownsRow base e size v n us) (g : Nat) (news : List Value) (hl : news.length = size) (h1 : ∀ u ∈ news, u.oneCell' = true)
    (hx : a.eval x = .slice (some ⟨g, 0, none⟩) 1 1) (hc : ∀ j u, news[j]? = some u → W.cell? ⟨g, j, none⟩ = some u) (hn : n < 1000000000000) (hbase : base ≤ W.heap.size)
    (h : ∀ g' c' w', w'.ownsRow base e size (.slice (some ⟨g', 0, none⟩) (n + 1) c') (n + 1) (us ++ news) → Kept (fun k => v.ownBlock = some k) W w' → (v.ownBlock = some g' ∨ W.heap.size ≤ g') →
      K (a.put o.dst (.slice (some ⟨g', 0, none⟩) (n + 1) c')) w') :
    if Region.wanted o (yielded ops a.tmps) = true then Oper.wp Try.prog o a W K Q else E := by
  rw [if_pos hw]
  obtain ⟨i, hi, hz, hsize, hbytes⟩ := info_parts hinfo
  rw [← hsize] at hown
  obtain ⟨g', c', w', hr, h3, h4, h5⟩ := run_app (P := Try.prog) (w := W) base t o.type e i z ht hi hz (by rw [hzs, hsize]) v n us hown g 0 1 1 news (by rw [hl, hsize]; omega) (by omega) (fun j y hj => by
      rw [add_off, Nat.zero_add]
      exact hc j y hj) h1 (by omega) (by rw [hbytes]; have := Nat.mul_le_mul_left (n + 1) hby; omega) hbase
  rw [hsize] at h3
  have h6 := h g' c' w' h3 h4 h5
  unfold Oper.wp execOp
  simp only [ho, resolve, invoke, builtin, Sem.run_bind, Sem.run_pure, Result.andThen_ok, List.map_toArray, List.map_cons, List.map_nil, hs, hx, hr]
  exact h6
end Go.Proofs.Ytanjchpkekehgaa
