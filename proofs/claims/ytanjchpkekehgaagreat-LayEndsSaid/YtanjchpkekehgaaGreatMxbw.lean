/-
  LayBa: ApartRows: two groups.
  LayYa: What LayPrefix and LayMore keep: which bodies are taken, held bodies that a call owns.
  RefP: Walks of the reference, layer 9 (strip): Cut.
  StepL: A law of a list of operations, used at one operation of a drawn region.
-/
import Derived.Test.YtanjchpkekehgaaGreatMxbu
import Derived.Test.YtanjchpkekehgaaGreatMxbn
import Derived.Test.YtanjchpkekehgaaGreatMxas
import Derived.Test.YtanjchpkekehgaaGreatMxap
namespace Go.Proofs.YtanjchpkekehgaaGreat

section -- LayBa
open Go.RowKit Go.Maps
set_option linter.unusedVariables false
set_option maxRecDepth 100000
set_option maxHeartbeats 4000000

theorem apart2_any (w : World) (B0 B1 Bm g : Nat) (v0 v1 : Value) (us0 us1 : List Value) (h0 : GroupAt w B0 v0 us0) (h1 : GroupAt w B1 v1 us1) (x01 : GroupNe v0 us0 v1 us1)
    (hb0 : Bm ≤ B0) (hb1 : Bm ≤ B1) (hbw : Bm ≤ w.heap.size) (hn0 : us0.length ≤ 300) (hn1 : us1.length ≤ 300) (hg : w.heap.size = g) :
    Calls Tryz.prog 15 #[.slice (some ⟨g, 0, none⟩) 2 2] (w.alloc (.cells #[v0, v1] 22)) fun e w' => e = .returned (.bool true) ∧ Below Bm w w' := by
  subst hg
  have hal := bal' w (.cells #[v0, v1] 22)
  have g0 := h0.below hal
  have g1 := h1.below hal
  have shp : ∀ {v : Value} {us : List Value} {lo : Nat}, GroupAt (w.alloc (.cells #[v0, v1] 22)) lo v us → ∃ p c, v = .slice p us.length c ∧ (0 < us.length → p = some ⟨v.ownBlock.getD 0, 0, none⟩) ∧ (0 < us.length → v.ownBlock = some (v.ownBlock.getD 0)) := by
    intro v us lo h
    rcases h.outer.2 with ⟨e, hz⟩ | ⟨g, c, cur, e, _⟩
    · exact ⟨none, 0, by rw [e, hz], fun h => by omega, fun h => by omega⟩
    · exact ⟨_, c, e, fun _ => by rw [e]; rfl, fun _ => by rw [e]; rfl⟩
  have out : ∀ {v : Value} {us : List Value} {lo : Nat}, GroupAt (w.alloc (.cells #[v0, v1] 22)) lo v us → 0 < us.length → ∃ C : Array Value, (w.alloc (.cells #[v0, v1] 22)).heap[v.ownBlock.getD 0]? = some (.cells C 50 (0, 0)) ∧ us.length ≤ C.size ∧ ∀ i, i < us.length → C[i]? = us[i]? := by
    intro v us lo h h0
    rcases h.outer.2 with ⟨e, hz⟩ | ⟨g, c, cur, e, h2, h3, h4, h5, h6, h7⟩
    · omega
    · subst e
      refine ⟨cur, h3, by omega, fun i hi => ?_⟩
      have e : (cur.toList.take (us.length * 1))[i]? = us[i]? := by rw [h7]
      rw [List.getElem?_take, if_pos (by omega), Array.getElem?_toList] at e
      exact e
  have hall : allU (fun t => if t = 0 then us0 else us1) 2 = us0 ++ us1 := by simp [allU]
  have two : ∀ {P : Nat → Prop}, P 0 → P 1 → ∀ t, t < 2 → P t := by
    intro P a b t ht
    obtain rfl | rfl : t = 0 ∨ t = 1 := by omega
    · exact a
    · exact b
  have hgt : ∀ {v : Value} {us : List Value} {lo : Nat}, GroupAt w lo v us → ∀ b, (v.ownBlock = some b ∨ ∃ u ∈ us, u.ownBlock = some b) → b ≠ w.heap.size := fun h b e z => by have := (h.top b e).2; omega
  obtain ⟨p0, c0, e0, q0, o0⟩ := shp g0
  obtain ⟨p1, c1, e1, q1, o1⟩ := shp g1
  have hAp : ApIn (w.alloc (.cells #[v0, v1] 22)) w.heap.size 0 2 (fun t => if t = 0 then v0 else v1) (fun t => if t = 0 then us0.length else us1.length) (fun t => if t = 0 then v0.ownBlock.getD 0 else v1.ownBlock.getD 0) (fun t => if t = 0 then us0 else us1) := by
    refine ⟨two ?_ ?_, two ⟨p0, c0, e0, q0⟩ ⟨p1, c1, e1, q1⟩, two (out g0) (out g1), two rfl rfl, ?_, ?_, ?_, two ?_ ?_, ?_⟩
    · exact (World.cell?_alloc_new w _ _ 0).trans rfl
    · exact (World.cell?_alloc_new w _ _ 1).trans rfl
    · rw [hall]
      intro u hu
      rcases List.mem_append.1 hu with hu | hu
      · exact g0.rows u hu
      · exact g1.rows u hu
    · rw [hall]
      exact InjU.append h0.inj h1.inj (fun u hu z hz b e1 e2 => x01 b (.inr ⟨u, hu, e1⟩) (.inr ⟨z, hz, e2⟩))
    · rw [hall]
      intro u hu b hb
      rcases List.mem_append.1 hu with hu | hu
      · exact ⟨hgt h0 b (.inr ⟨u, hu, hb⟩), two (fun hp e => h0.ne u hu b hb (by rw [o0 hp]; exact congrArg some e.symm)) (fun hp e => x01 b (.inr ⟨u, hu, hb⟩) (.inl (by rw [o1 hp]; exact congrArg some e.symm)))⟩
      · exact ⟨hgt h1 b (.inr ⟨u, hu, hb⟩), two (fun hp e => x01 b (.inl (by rw [o0 hp]; exact congrArg some e.symm)) (.inr ⟨u, hu, hb⟩)) (fun hp e => h1.ne u hu b hb (by rw [o1 hp]; exact congrArg some e.symm))⟩
    · exact fun hp => hgt h0 _ (.inl (o0 hp))
    · exact fun hp => hgt h1 _ (.inl (o1 hp))
    · intro s t hs' ht'
      have hs3 : s = 0 ∨ s = 1 := by omega
      have ht3 : t = 0 ∨ t = 1 := by omega
      rcases hs3 with rfl | rfl <;> rcases ht3 with rfl | rfl <;> intro hs ht e
      · rfl
      · exact absurd (.inl (by rw [o1 ht]; exact congrArg some (show v1.ownBlock.getD 0 = v0.ownBlock.getD 0 from e.symm))) (x01 _ (.inl (o0 hs)))
      · exact absurd (.inl (by rw [o1 hs]; exact congrArg some (show v1.ownBlock.getD 0 = v0.ownBlock.getD 0 from e))) (x01 _ (.inl (o0 ht)))
      · rfl
  refine (apartR_any _ w.heap.size 0 2 2 _ _ _ _ hAp (by omega) (two hn0 hn1) (fun m hm => ?_)).mono ?_
  · obtain rfl | rfl | rfl : m = 0 ∨ m = 1 ∨ m = 2 := by omega
    · simp [allU]
    · simp [allU]; omega
    · simp [allU]; omega
  · rintro e w' ⟨rfl, hk⟩
    refine ⟨rfl, ?_⟩
    have hlow : ∀ b, ((∃ u ∈ allU (fun t => if t = 0 then us0 else us1) 2, u.ownBlock = some b) ∨ outB 2 (fun t => if t = 0 then us0.length else us1.length) (fun t => if t = 0 then v0.ownBlock.getD 0 else v1.ownBlock.getD 0) b) → Bm ≤ b := by
      rintro b (⟨u, hu, e⟩ | ⟨t, ht, hp, e⟩)
      · rw [hall] at hu
        rcases List.mem_append.1 hu with hu | hu
        · have := h0.lowu u hu b e; omega
        · have := h1.lowu u hu b e; omega
      · obtain rfl | rfl : t = 0 ∨ t = 1 := by omega
        · have := h0.lowv b (by rw [o0 hp]; exact congrArg some e); omega
        · have := h1.lowv b (by rw [o1 hp]; exact congrArg some e); omega
    have hb1 : Below Bm w (w.alloc (.cells #[v0, v1] 22)) := ⟨hal.os, hal.tape, hal.output, hal.size, fun i hi => hal.block i (by omega)⟩
    exact hb1.trans (hk.toBelow (by simp; omega) hlow)
end -- LayBa

section -- LayYa
open Go.RowKit Go.Maps
set_option linter.unusedVariables false
set_option maxRecDepth 100000
set_option maxHeartbeats 8000000

/-- Which indexes are taken. -/
def TakenAt (W : World) (b all : Nat) (xs : List Nat) : Prop := ∃ C : Array Value, W.heap[b]? = some (.cells C 3 (0, 0)) ∧ C.size = all ∧ ∀ a, a < all → C[a]? = some (.int .i64 (if a ∈ xs then 1 else 0))
theorem TakenAt.cell {W : World} {b all : Nat} {xs : List Nat} (h : TakenAt W b all xs) {a : Nat} (ha : a < all) : W.cell? ⟨b, a, none⟩ = some (.int .i64 (if a ∈ xs then 1 else 0)) := by
  obtain ⟨C, h1, h2, h3⟩ := h
  rw [cell_of h1, h3 a ha]
theorem TakenAt.fz {W : World} {b all : Nat} {xs : List Nat} (h : TakenAt W b all xs) (o : Nat) : W.frozen? ⟨b, o, none⟩ = false := by
  obtain ⟨C, h1, _⟩ := h
  exact fz_of h1 o
theorem TakenAt.lt {W : World} {b all : Nat} {xs : List Nat} (h : TakenAt W b all xs) : b < W.heap.size := by
  obtain ⟨C, h1, _⟩ := h
  exact (Array.getElem?_eq_some_iff.1 h1).1
theorem TakenAt.kept {S : Nat → Prop} {W W' : World} {b all : Nat} {xs : List Nat} (h : TakenAt W b all xs) (hk : Kept S W W') (hS : ¬ S b) : TakenAt W' b all xs := by
  obtain ⟨C, h1, h2⟩ := h
  exact ⟨C, (hk.block b (Array.getElem?_eq_some_iff.1 h1).1 hS).trans h1, h2⟩
theorem TakenAt.set {W : World} {b all : Nat} {xs xs' : List Nat} (h : TakenAt W b all xs) {a : Nat} (ha : a < all) (hx : ∀ y, y ∈ xs' ↔ y = a ∨ y ∈ xs) : TakenAt (W.setCell ⟨b, a, none⟩ (.int .i64 1)) b all xs' := by
  obtain ⟨C, h1, h2, h3⟩ := h
  refine ⟨_, heap_set h1 _, by simpa using h2, fun j hj => ?_⟩
  rw [Array.getElem?_setIfInBounds]
  by_cases e : a = j
  · subst e
    rw [if_pos rfl, if_pos (by omega), if_pos ((hx a).2 (.inl rfl))]
  · rw [if_neg e, h3 j hj]
    by_cases q : j ∈ xs
    · rw [if_pos q, if_pos ((hx j).2 (.inr q))]
    · rw [if_neg q, if_neg (fun h => ((hx j).1 h).elim (fun h => e h.symm) q)]
theorem TakenAt.made (w : World) (all : Nat) : TakenAt (w.alloc (.cells (Array.replicate all (.int .i64 0)) 3)) w.heap.size all [] :=
  ⟨_, heap_alloc_new w _, by simp, fun a ha => by simp [ha]⟩

/-- Held bodies that a call owns; each is no longer than it may be. -/
def HeldL (w W : World) (base : Nat) (v : Value) (hs : List (Int × List B)) : Prop := ∃ us, W.ownsRow base 54 2 v hs.length us ∧
  ∀ i, i < hs.length → us[i * 2]? = some (.int .i64 (hs.getD i (0, [])).1) ∧ ∃ p c, us[i * 2 + 1]? = some (.slice p (hs.getD i (0, [])).2.length c) ∧ (hs.getD i (0, [])).2.length ≤ c ∧ BytesAt w (.slice p (hs.getD i (0, [])).2.length c) (hs.getD i (0, [])).2
theorem HeldL.nil (w W : World) (base : Nat) : HeldL w W base (.slice none 0 0) [] := ⟨[], World.ownsRow_nil _ _ _ _, fun i h => absurd h (by simp)⟩
theorem HeldL.kept {S : Nat → Prop} {w W W' : World} {base : Nat} {v : Value} {hs : List (Int × List B)} (h : HeldL w W base v hs) (hk : Kept S W W') (hS : ∀ g, v.ownBlock = some g → ¬ S g) : HeldL w W' base v hs := by
  obtain ⟨us, h1, h2⟩ := h
  exact ⟨us, ownsRow_keptS h1 hk hS, h2⟩
theorem HeldL.lt {w W : World} {base : Nat} {v : Value} {hs : List (Int × List B)} (h : HeldL w W base v hs) : ∀ g, v.ownBlock = some g → base ≤ g ∧ g < W.heap.size := by
  obtain ⟨us, h1, _⟩ := h
  exact h1.lt
theorem HeldL.toAt {w W : World} {base : Nat} {v : Value} {hs : List (Int × List B)} (h : HeldL w W base v hs) (hB : Below w.heap.size w W) : HeldAt W v hs := by
  obtain ⟨us, h1, h2⟩ := h
  rcases h1.2 with ⟨rfl, h0⟩ | ⟨g, cap, cur, rfl, hb, hg, hnc, hcm, hcs, ht⟩
  · rw [List.eq_nil_of_length_eq_zero h0]
    exact ⟨none, 0, rfl, Nat.le_refl _, fun h => absurd h (by simp)⟩
  · have hc := h1.cells (g := g) rfl
    refine ⟨_, cap, rfl, hnc, fun _ => ⟨g, 0, rfl, fun i hi => ?_⟩⟩
    obtain ⟨e1, p, c, e2, _, e3⟩ := h2 i hi
    have c1 := hc _ _ e1
    have c2 := hc _ _ e2
    rw [add_zero_off] at c1 c2
    rw [Nat.zero_add]
    exact ⟨c1, _, c2, e3.below hB⟩
theorem HeldL.cap {w W : World} {base : Nat} {v : Value} {hs : List (Int × List B)} (h : HeldL w W base v hs) : ∀ g o c, v = .slice (some ⟨g, o, none⟩) hs.length c → ∀ i, i < hs.length → ∀ p n c', W.cell? ⟨g, o + i * 2 + 1, none⟩ = some (.slice p n c') → n ≤ c' := by
  intro g o c e i hi p n c' hcell
  obtain ⟨us, h1, h2⟩ := h
  rcases h1.2 with ⟨e0, _⟩ | ⟨g', cap, cur, e0, _⟩
  · rw [e0] at e; cases e
  · have e3 := e0.symm.trans e
    obtain ⟨e4, _, _⟩ := Value.slice.inj e3
    simp at e4
    obtain ⟨rfl, rfl⟩ := e4
    have hc := h1.cells (g := g') (by rw [e0]; rfl)
    obtain ⟨_, p2, c2, e2, hle, _⟩ := h2 i hi
    have c3 := hc _ _ e2
    rw [add_zero_off] at c3
    rw [Nat.zero_add, c3] at hcell
    obtain ⟨_, q1, q2⟩ := Value.slice.inj (Option.some.inj hcell)
    omega
theorem HeldL.snoc {w W : World} {base n : Nat} {v' : Value} {hs : List (Int × List B)} {us : List Value} {ix : Int} {p : Option Addr} {lu c : Nat} {l : List B} (hn : hs.length = n) (hl : us.length = n * 2) (h2 : ∀ i, i < hs.length → us[i * 2]? = some (.int .i64 (hs.getD i (0, [])).1) ∧ ∃ p c, us[i * 2 + 1]? = some (.slice p (hs.getD i (0, [])).2.length c) ∧ (hs.getD i (0, [])).2.length ≤ c ∧ BytesAt w (.slice p (hs.getD i (0, [])).2.length c) (hs.getD i (0, [])).2)
    (hlu : l.length = lu) (hc : lu ≤ c) (hu : BytesAt w (.slice p lu c) l) (ho : W.ownsRow base 54 2 v' (n + 1) (us ++ [.int .i64 ix, .slice p lu c])) : HeldL w W base v' (hs ++ [(ix, l)]) := by
  subst hlu
  refine ⟨us ++ [.int .i64 ix, .slice p l.length c], by simpa [hn] using ho, fun i hi => ?_⟩
  by_cases e : i < hs.length
  · obtain ⟨a, y, z, b, c, d⟩ := h2 i e
    rw [List.getElem?_append_left (by omega), List.getElem?_append_left (by omega)]
    rw [show (hs ++ [(ix, l)]).getD i (0, []) = hs.getD i (0, []) by simp [List.getD_eq_getElem?_getD, List.getElem?_append_left e]]
    exact ⟨a, y, z, b, c, d⟩
  · have hi' : i = hs.length := by simp at hi; omega
    subst hi'
    rw [List.getElem?_append_right (by omega), List.getElem?_append_right (by omega)]
    rw [show (hs ++ [(ix, l)]).getD hs.length (0, []) = (ix, l) by simp [List.getD_eq_getElem?_getD]]
    rw [show hs.length * 2 - us.length = 0 by omega, show hs.length * 2 + 1 - us.length = 1 by omega]
    exact ⟨rfl, p, c, rfl, hc, hu⟩

/-- What the second loop keeps. -/
structure PInvL (w1 : World) (L : List (List B)) (all k : Nat) (xs : List Nat) (vh : Value) (W : World) : Prop where
  tk : TakenAt W w1.heap.size all xs
  held : HeldL w1 W (w1.heap.size + 1) vh (hsOf L xs)
  nodup : xs.Nodup
  rng : ∀ x ∈ xs, x < all
  len : xs.length ≤ k
  below : Below w1.heap.size w1 W
theorem PInvL.start (w1 : World) (L : List (List B)) (all : Nat) : PInvL w1 L all 0 [] (.slice none 0 0) (w1.alloc (.cells (Array.replicate all (.int .i64 0)) 3)) :=
  ⟨TakenAt.made w1 all, HeldL.nil _ _ _, List.nodup_nil, (fun x h => by cases h), Nat.zero_le _, balT _ _⟩
theorem PInvL.stay {w1 W : World} {L : List (List B)} {all k a : Nat} {xs : List Nat} {vh : Value} (h : PInvL w1 L all k xs vh W) (ha : a < all) (hx : a ∈ xs) : PInvL w1 L all (k + 1) xs vh (W.setCell ⟨w1.heap.size, a, none⟩ (.int .i64 1)) := by
  have hk := Kept.set1 W w1.heap.size a (.int .i64 1)
  exact ⟨h.tk.set ha (fun y => ⟨fun q => .inr q, fun q => q.elim (fun e => by rw [e]; exact hx) id⟩), h.held.kept hk (fun g hg e => by have := (h.held.lt g hg).1; omega), h.nodup, h.rng, Nat.le_succ_of_le h.len,
    h.below.trans (hk.toBelow h.below.size (fun i e => by omega))⟩
theorem PInvL.more {w1 W W1 : World} {L : List (List B)} {all k a : Nat} {xs : List Nat} {vh vh' : Value} (h : PInvL w1 L all k xs vh W) (ha : a < all) (hx : a ∉ xs) (hh : HeldL w1 W1 (w1.heap.size + 1) vh' (hsOf L xs ++ [((a : Int), L.getD a [])])) (hk1 : Kept (fun q => vh.ownBlock = some q) W W1) :
    PInvL w1 L all (k + 1) (xs ++ [a]) vh' (W1.setCell ⟨w1.heap.size, a, none⟩ (.int .i64 1)) := by
  have hB1 := h.below.trans (hk1.toBelow h.below.size (fun i e => by have := (h.held.lt i e).1; omega))
  have hk := Kept.set1 W1 w1.heap.size a (.int .i64 1)
  have n1 : ¬ vh.ownBlock = some w1.heap.size := fun e => by have := (h.held.lt _ e).1; omega
  rw [← hsOf_snoc] at hh
  refine ⟨(h.tk.kept hk1 n1).set ha (fun y => by simp [or_comm]), hh.kept hk (fun g hg e => by have := (hh.lt g hg).1; omega), ?_, fun x hx' => ?_, by simp; have := h.len; omega, hB1.trans (hk.toBelow hB1.size (fun i e => by omega))⟩
  · rw [List.nodup_append]
    refine ⟨h.nodup, by simp, fun x hx' y hy => ?_⟩
    simp at hy
    subst hy
    exact fun e => hx (by rw [← e]; exact hx')
  · rcases List.mem_append.1 hx' with q | q
    · exact h.rng x q
    · simp at q; omega

theorem own_shapeL {W : World} {base size n : Nat} {e : TypeId} {v : Value} {us : List Value} (h : W.ownsRow base e size v n us) : ∃ p c, v = .slice p n c := by
  rcases h.2 with ⟨rfl, h0⟩ | ⟨g, cap, cur, rfl, _⟩
  · exact ⟨none, 0, by rw [h0]⟩
  · exact ⟨_, _, rfl⟩

/-- Append of one element within a drawn region. -/
theorem step_appN {ops : Array Oper} {o : Oper} {a : Act} {W : World} {K : Act → World → Prop} {Q : Exit → Act → World → Prop} {E : Prop} (t e : TypeId) (size bytes : Nat) (z : Value) (ht : Tryz.prog.underlying t = some (.slice e))
    (hinfo : (Tryz.prog.info? e).map (fun i => (i.zero, i.size, i.bytes)) = some (some z, size, bytes)) (hzs : z.cells.size = size) (hby : bytes ≤ 64)
    (hw : Region.wanted o (yielded ops a.tmps) = true) (s x : Operand) (ho : o.op = .call { callee := .builtin .append, args := #[s, x], argTypes := #[t, t] })
    (base n : Nat) (v : Value) (us : List Value) (hs : a.eval s = v) (hown : W.ownsRow base e size v n us) (g : Nat) (news : List Value) (hl : news.length = size) (h1 : ∀ u ∈ news, u.oneCell' = true)
    (hx : a.eval x = .slice (some ⟨g, 0, none⟩) 1 1) (hc : ∀ j u, news[j]? = some u → W.cell? ⟨g, j, none⟩ = some u) (hn : n < 1000000000000) (hbase : base ≤ W.heap.size)
    (h : ∀ g' c' w', w'.ownsRow base e size (.slice (some ⟨g', 0, none⟩) (n + 1) c') (n + 1) (us ++ news) → Kept (fun k => v.ownBlock = some k) W w' → (v.ownBlock = some g' ∨ W.heap.size ≤ g') →
      K (a.put o.dst (.slice (some ⟨g', 0, none⟩) (n + 1) c')) w') :
    if Region.wanted o (yielded ops a.tmps) = true then Oper.wp Tryz.prog o a W K Q else E := by
  rw [if_pos hw]
  obtain ⟨i, hi, hz, hsize, hbytes⟩ := info_parts hinfo
  rw [← hsize] at hown
  obtain ⟨g', c', w', hr, h3, h4, h5⟩ := run_app (P := Tryz.prog) (w := W) base t o.type e i z ht hi hz (by rw [hzs, hsize]) v n us hown g 0 1 1 news (by rw [hl, hsize]; omega) (by omega) (fun j y hj => by
      rw [add_off, Nat.zero_add]
      exact hc j y hj) h1 (by omega) (by rw [hbytes]; have := Nat.mul_le_mul_left (n + 1) hby; omega) hbase
  rw [hsize] at h3
  have h6 := h g' c' w' h3 h4 h5
  unfold Oper.wp execOp
  simp only [ho, resolve, invoke, builtin, Sem.run_bind, Sem.run_pure, Result.andThen_ok, List.map_toArray, List.map_cons, List.map_nil, hs, hx, hr]
  exact h6
end -- LayYa

section -- RefP
open Go.RowKit Go.Maps
set_option linter.unusedVariables false
set_option linter.unusedSimpArgs false
set_option maxRecDepth 100000
set_option maxHeartbeats 4000000

theorem progL_none (n : Nat) (f : Nat → B) : List.replicate n (0 : B) = progL n f (fun _ => 0) 0 := by
  unfold progL rowL
  apply List.ext_getElem <;> simp
theorem progL_same {n t : Nat} {f : Nat → B} (h : f t = 0) : progL n f (fun _ => 0) (t + 1) = progL n f (fun _ => 0) t := by
  refine rowL_congr fun i hi => ?_
  by_cases e : i = t
  · subst e
    rw [if_pos (by omega), if_neg (by omega), h]
  · by_cases q : i < t
    · rw [if_pos (by omega), if_pos q]
    · rw [if_neg (by omega), if_neg q]

theorem rcut_any (w : World) (vb : Value) (b : List B) (k : Nat) (hb : BytesAt w vb b) (h1 : 1 ≤ k) (h2 : k ≤ 255) (hl : b.length ≤ 65535) :
    Calls Tryz.prog 31 #[vb, .int .i64 (k : Int)] w fun e w' => ∃ v, e = .returned (.tuple #[v, .int .i64 0]) ∧ RowsAt w' v (cutL b k (wdN b.length k)) ∧ Below w.heap.size w w' := by
  have hwl := wdN_le (long := b.length) h1
  have HB := Lib.hid hb
  obtain ⟨pb, cb, rfl, hbb⟩ := hb
  have HBB := Lib.hid hbb
  have HW := Lib.hid (rwidth9_any w b.length k hl h1 h2)
  obtain ⟨L, hL⟩ : ∃ L, b.length = L := ⟨_, rfl⟩
  have HL := Lib.hid hL
  rw [hL] at HBB HW hl hwl ⊢
  obtain ⟨wd, hwd⟩ : ∃ wd, wdN L k = wd := ⟨_, rfl⟩
  rw [hwd] at HW hwl ⊢
  have HCS := Lib.hid (show ∀ r, r < k → (cutL b k wd).take r ++ [rowL wd fun c => b.getD (r * wd + c) 0] = (cutL b k wd).take (r + 1) from fun r hr => by
    rw [List.take_add_one, List.getElem?_eq_getElem (by rw [cutL_len]; exact hr), Option.toList_some]
    congr 2
    have := cutL_get (b := b) (w := wd) hr
    rw [List.getD_eq_getElem?_getD, List.getElem?_eq_getElem (by rw [cutL_len]; exact hr), Option.getD_some] at this
    exact this.symm)
  have HCL := Lib.hid (show ∀ r, r ≤ k → ((cutL b k wd).take r).length = r from fun r hr => by rw [List.length_take, cutL_len]; omega)
  have HCA := Lib.hid (show (cutL b k wd).take k = cutL b k wd from List.take_of_length_le (by rw [cutL_len]; exact Nat.le_refl _))
  clear hL hwd hbb
  go_enter Tryz.func31, Tryz.ntmps31
  go_wp2_with fail
  refine HW.out.mono ?_
  rintro e w' ⟨rfl, rfl⟩
  go_wp2
  go_loopw [8, 9, 10, 11] (fun v i _ _ wr => ∃ r : Nat, r ≤ k ∧ i = .int .i64 (r : Int) ∧ RowsOwn wr w.heap.size v ((cutL b k wd).take r) ∧ Below w.heap.size w wr) (fun _ i _ _ _ => k - (intOf i).toNat)
  case atStart => exact ⟨0, Nat.zero_le _, rfl, by rw [List.take_zero]; exact RowsOwn.nil _ _, Below.refl _ _⟩
  case round =>
    obtain ⟨wo, rfl⟩ : ∃ wo, wo = wr := ⟨_, rfl⟩
    obtain ⟨r, hr, rfl, ho, hB⟩ := hrel
    have HO := Lib.hid ho
    have HB1 := Lib.hid hB
    obtain ⟨pv, cv, rfl⟩ := ho.rows.shape
    rw [HCL.out r hr] at HO ⊢
    clear ho hB
    by_cases hlt : r < k
    · have hmk := run_make_one (w := wo) 50 5 (.int .u8 0) 1 Tryz.underlying50 infoB rfl (by omega) wd (by omega)
      have hz := RowF.made wo wd
      rw [progL_none wd (fun c => b.getD (r * wd + c) 0)] at hz
      have HZ := Lib.hid hz
      have HBG := Lib.hid (balT wo (.cells (Array.replicate wd (.int .u8 0)) 5))
      have hs1 := HB1.out.size
      have HB2 := Lib.hid (HB1.out.alloc hs1 (.cells (Array.replicate wd (.int .u8 0)) 5))
      have HNE := Lib.hid (show ∀ g, (Value.slice pv r cv).ownBlock = some g → g < wo.heap.size from fun g hg => (HO.out.lt g hg).2)
      have hs2 : wo.heap.size < (wo.alloc (.cells (Array.replicate wd (.int .u8 0)) 5)).heap.size := by simp
      have hrw : r * wd ≤ 65535 * 255 := Nat.le_trans (Nat.mul_le_mul (show r ≤ 255 by omega) (show wd ≤ 65535 by omega)) (by omega)
      have hmul : (r : Int) * (wd : Int) = ((r * wd : Nat) : Int) := by rw [Int.natCast_mul]
      obtain ⟨p, hp⟩ : ∃ p, r * wd = p := ⟨_, rfl⟩
      have HP := Lib.hid hp
      rw [hp] at hrw hmul HZ
      have hmw : IntKind.i64.wrap ((r : Int) * (wd : Int)) = (p : Int) := by rw [hmul]; exact IntWalk.i64_in _ (by omega)
      clear hz hp
      go_wp2
      clear hmk
      obtain ⟨g, hg⟩ : ∃ x, wo.heap.size = x := ⟨_, rfl⟩
      have HG := Lib.hid hg
      rw [hg] at HZ HNE hs1 hs2 HBG ⊢
      clear hg
      generalize (wo.alloc (.cells (Array.replicate wd (.int .u8 0)) 5)) = w3 at *
      go_loopw [11] (fun i wr => ∃ c : Nat, c ≤ wd ∧ i = .int .i64 (c : Int) ∧ RowF wr g (progL wd (fun c => b.getD (p + c) 0) (fun _ => 0) c) ∧ Kept (fun q => q = g) w3 wr) (fun i _ => wd - (intOf i).toNat)
      case atStart => exact ⟨0, Nat.zero_le _, rfl, HZ.out, Kept.refl _ _⟩
      case round =>
        obtain ⟨w4, rfl⟩ : ∃ x, x = wr := ⟨_, rfl⟩
        obtain ⟨c, hc, rfl, hf, hk⟩ := hrel
        have HF := Lib.hid hf
        have HK := Lib.hid hk
        clear hf hk
        by_cases hcl : c < wd
        · have hadd : IntKind.i64.wrap ((p : Int) + (c : Int)) = ((p + c : Nat) : Int) := by rw [← Int.natCast_add]; exact IntWalk.i64_in _ (by omega)
          by_cases hin : p + c < L
          · obtain ⟨gb, ob, rfl, hbc⟩ := HBB.out (by omega)
            have d0 := hbc (p + c) hin
            have hgl := blt d0
            have d0 := (HK.out.cell (p := ⟨gb, ob + (p + c), none⟩) (by have := HB2.out.size; show gb < _; omega) (by show gb ≠ g; have := HB1.out.size; omega)).trans ((HB2.out.cell (p := ⟨gb, ob + (p + c), none⟩) hgl).trans d0)
            obtain ⟨x, hx⟩ : ∃ x, b.getD (p + c) 0 = x := ⟨_, rfl⟩
            have HX := Lib.hid hx
            rw [hx] at d0
            have f0 := HF.out.fz c
            have c0 := HF.out.cell (i := c) (by rw [progL_len]; exact hcl)
            have hset := HF.out.set (i := c) (by rw [progL_len]; exact hcl) x
            rw [← hx, progL_set (fun c => b.getD (p + c) 0) (fun _ => 0) hcl, hx] at hset
            have HSET := Lib.hid hset
            clear hbc hx hset
            go_wp2
            go_roundw
            case rel => exact ⟨c + 1, by omega, by go_num, HSET.out, HK.out.setCell' rfl _⟩
            case measure => simp [intOf]; omega
          · have hz : b.getD (p + c) 0 = 0 := by
              rw [List.getD_eq_getElem?_getD, List.getElem?_eq_none (by rw [HL.out]; omega)]
              rfl
            have HS := Lib.hid (progL_same (n := wd) (f := fun c => b.getD (p + c) 0) hz)
            clear hz
            go_wp2
            go_roundw
            case rel => exact ⟨c + 1, by omega, by go_num, by rw [HS.out]; exact HF.out, HK.out⟩
            case measure => simp [intOf]; omega
        · obtain rfl : c = wd := by omega
          have hro := HF.out.toBytes c
          rw [progL_len, progL_all] at hro
          have HRO := Lib.hid hro
          have HB4 := Lib.hid (HBG.out.trans (HK.out.toBelow (by omega) (fun i e => by omega)))
          have HO4 := Lib.hid (HO.out.below (by rw [HG.out]; exact HB4.out))
          have HBW := Lib.hid (HB1.out.trans (HB4.out.mono hs1))
          have hsw := HBW.out.size
          have hgw := HF.out.lt
          have hcs := HCS.out r hlt
          have HPP := Lib.hid (show (rowL c fun c' => b.getD (r * c + c') 0) = rowL c fun c' => b.getD (p + c') 0 from by rw [HP.out])
          rw [HPP.out] at hcs
          have HCQ := Lib.hid hcs
          clear hro hcs
          go_wp2_with (at_builtin; refine app_row rfl _ _ rfl w.heap.size r _ _ (HCL.out r hr) rfl HO4.out _ _ HRO.out (fun q e => by have e2 := own_is e; subst e2; exact ⟨hgw, fun h => by have := HNE.out _ h; omega⟩) rfl rfl (by omega) hsw ?_; intro g' c' w6 hR6 hk6 hs6 hg6)
          go_roundw
          case rel => exact ⟨r + 1, by omega, by go_num, by rw [← HCQ.out]; exact hR6, HBW.out.trans (hk6.toBelow hsw (fun i hi => (HO4.out.lt i hi).1))⟩
          case measure => simp [intOf]; omega
    · obtain rfl : r = k := by omega
      have HR := Lib.hid HO.out.rows
      rw [HCA.out] at HR
      go_wp2
      go_ret2
      exact ⟨_, rfl, HR.out, HB1.out⟩
end -- RefP

section -- StepL
open Go.RowKit Go.Maps
set_option linter.unusedVariables false

section
variable {P : Program} {ops : Array Oper} {Q : Exit → Act → World → Prop} {K : Act → World → Prop} {o : Oper} {a : Act} {w : World}
/-- Going on, or panicking as before. -/
def NormP (K : Act → World → Prop) (Q : Exit → Act → World → Prop) : Exit → Act → World → Prop
  | .normal, a, w => K a w
  | .panic c, a, w => Q (.panic c) a w
  | _, _, _ => False
theorem NormP.shut : ¬ LetsOut (NormP K Q) := fun ⟨_, _, h⟩ => (h : False)
theorem upon_normP {r : Result Next} (h : o.upon P a K (NormP K Q) r) : o.upon P a K Q r := by
  cases r with
  | ok x w' =>
    cases x <;> simp only [Oper.upon] at h ⊢ <;> first | exact h | skip
    case enter f args => exact Calls.mono h (fun e w'' he => by cases e <;> first | exact he | exact absurd he NormP.shut)
  | halt x w' => cases x <;> simp only [Oper.upon] at h ⊢ <;> exact h
theorem step_of_list {E : Prop} (hgd : o.guard = none) (h : wpList P #[] (NormP K Q) [o] a w) : if Region.wanted o (yielded ops a.tmps) = true then Oper.wp P o a w K Q else E := by
  rw [if_pos (by simp [Region.wanted, hgd])]
  unfold wpList at h
  rw [if_pos (by simp [Region.wanted, hgd])] at h
  rcases h with h | ⟨_, h⟩
  · exact upon_normP h
  · exact absurd h NormP.shut
end
end -- StepL

end Go.Proofs.YtanjchpkekehgaaGreat
