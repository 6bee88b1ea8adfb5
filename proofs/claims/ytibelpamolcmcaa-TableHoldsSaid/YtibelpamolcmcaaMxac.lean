/-
  CodeI: Walks of layer 1 (field): is, Add, Mul, Inv, Div.
  CodePa: Weights as the program makes them; sums of rows: plain.
  CodeM: Slices of bytes, rows of bytes: what they read as; rows that are written.
-/
import Derived.Test.YtibelpamolcmcaaMxaa
import Derived.Test.YtibelpamolcmcaaKept
import Derived.Laws.MakeOwn
import Derived.Laws.AppendOwn
namespace Go.Proofs.Ytibelpamolcmcaa

section -- CodeI
open Go.RowKit Go.Maps

set_option maxRecDepth 100000
set_option maxHeartbeats 2000000

/-- A byte, as a value. -/
abbrev bv (x : B) : Value := .int .u8 ((x.v : Nat) : Int)

section
variable {w w' : World} {b : Nat}
end

theorem Kept.drewN {S : Nat → Prop} {a w : World} (h : Kept S a w) (n : Nat) : Kept S a (w.drewN n) := ⟨h.os, h.tape, h.output, h.size, h.block⟩
end -- CodeI

section -- CodePa
set_option linter.unusedVariables false

theorem pr_snoc : ∀ (l : List B) (a x : B), pr (l ++ [a]) x = pr l x * (x + a)
  | [], a, x => by show (x + a) * 1 = 1 * (x + a); grind
  | b :: l, a, x => by
    show (x + b) * pr (l ++ [a]) x = (x + b) * pr l x * (x + a)
    rw [pr_snoc l a x]; grind

/-- The product of the distances from the first m points, that number k left out. -/
def pS (xs : List B) (k : Nat) (x : B) : Nat → B
  | 0 => 1
  | m + 1 => if m = k then pS xs k x m else pS xs k x m * (x + xs.getD m 0)

theorem take_snocD {xs : List B} {m : Nat} (h : m < xs.length) : xs.take (m + 1) = xs.take m ++ [xs.getD m 0] := by
  rw [List.take_succ_eq_append_getElem h, List.getD_eq_getElem?_getD, List.getElem?_eq_getElem h]; rfl

theorem pS_eq (xs : List B) (k : Nat) (x : B) : ∀ m, m ≤ xs.length → pS xs k x m = pr ((xs.take m).eraseIdx k) x
  | 0, _ => by simp [pS, pr]
  | m + 1, h => by
    have ih := pS_eq xs k x m (by omega)
    have hl : (xs.take m).length = m := by simp; omega
    rw [take_snocD (by omega)]
    show (if m = k then _ else _) = _
    by_cases e : m = k
    · rw [if_pos e, ih, List.eraseIdx_of_length_le (by omega), List.eraseIdx_append_of_length_le (by omega)]
      rw [hl, e, Nat.sub_self]
      simp
    · rw [if_neg e, ih]
      by_cases q : k < m
      · rw [List.eraseIdx_append_of_lt_length (by omega), pr_snoc]
      · rw [List.eraseIdx_of_length_le (by omega), List.eraseIdx_of_length_le (by simp; omega), pr_snoc]

/-- The product of the distances from the first m points. -/
theorem pr_take {xs : List B} {m : Nat} (h : m < xs.length) (x : B) : pr (xs.take (m + 1)) x = pr (xs.take m) x * (x + xs.getD m 0) := by
  rw [take_snocD h, pr_snoc]

theorem pr_out : ∀ (xs : List B) (k : Nat) (x : B), k < xs.length → pr xs x = (x + xs.getD k 0) * pr (xs.eraseIdx k) x
  | a :: l, 0, x, _ => by simp [pr]
  | a :: l, k + 1, x, h => by
    have := pr_out l k x (by simpa using h)
    show (x + a) * pr l x = (x + l.getD k 0) * ((x + a) * pr (l.eraseIdx k) x)
    rw [this]; grind

theorem B.inv_one : (1 : B).inv = 1 := by decide
theorem B.mul_inv_eq {a b c : B} (hb : b ≠ 0) (h : c * b = a) : a * b.inv = c := by
  have := B.mul_inv hb
  rw [← h]
  grind
theorem B.inv_ne {a : B} (h : a ≠ 0) : a.inv ≠ 0 := fun e => by
  have := B.mul_inv h
  rw [e] at this
  exact B.one_ne (by grind)

/-- The products of each point's distances from the others. -/
def apartL (xs : List B) : List B := (List.range xs.length).map fun k => pr (xs.eraseIdx k) (xs.getD k 0)
/-- The weights. -/
def wtsL (xs : List B) (x : B) : List B := (List.range xs.length).map fun k => lag xs k x

theorem apartL_len (xs : List B) : (apartL xs).length = xs.length := by simp [apartL]
theorem wtsL_len (xs : List B) (x : B) : (wtsL xs x).length = xs.length := by simp [wtsL]

theorem getD_range {α : Type} {n k : Nat} (f : Nat → α) (d : α) (h : k < n) : ((List.range n).map f).getD k d = f k := by
  rw [List.getD_eq_getElem?_getD]; simp [h]

theorem wtsL_get {xs : List B} {x : B} {k : Nat} (h : k < xs.length) : (wtsL xs x).getD k 0 = lag xs k x := getD_range _ _ h

/-- The weight, as it is worked out. -/
theorem lag_div {xs : List B} (hn : xs.Nodup) {x : B} (hx : x ∉ xs) {k : Nat} (hk : k < xs.length) :
    pr xs x * ((x + xs.getD k 0) * pr (xs.eraseIdx k) (xs.getD k 0)).inv = lag xs k x := by
  have h1 : x + xs.getD k 0 ≠ 0 := fun e => hx (by
    rw [B.add_eq_zero e, List.getD_eq_getElem?_getD, List.getElem?_eq_getElem hk]
    exact List.getElem_mem hk)
  have h2 := pr_ne (nodup_erase hn hk)
  refine B.mul_inv_eq (B.mul_ne h1 h2) ?_
  rw [pr_out xs k x hk]
  unfold lag
  have := B.mul_inv h2
  grind
theorem lag_ne {xs : List B} (hn : xs.Nodup) {x : B} (hx : x ∉ xs) {k : Nat} (hk : k < xs.length) : (x + xs.getD k 0) * pr (xs.eraseIdx k) (xs.getD k 0) ≠ 0 := by
  refine B.mul_ne (fun e => hx ?_) (pr_ne (nodup_erase hn hk))
  rw [B.add_eq_zero e, List.getD_eq_getElem?_getD, List.getElem?_eq_getElem hk]
  exact List.getElem_mem hk

theorem wtsL_unit {xs : List B} (hn : xs.Nodup) {k : Nat} (hk : k < xs.length) : wtsL xs (xs.getD k 0) = (List.replicate xs.length 0).set k 1 := by
  apply List.ext_getElem
  · simp [wtsL]
  · intro i h1 h2
    simp [wtsL] at h1
    rw [List.getElem_set]
    simp only [wtsL, List.getElem_map, List.getElem_range, List.getElem_replicate]
    by_cases e : k = i
    · subst e; rw [if_pos rfl, lag_self hn hk]
    · rw [if_neg e, lag_other hk e]

/-- The first bytes. -/
def ofB (n : Nat) : B := ⟨n % 256, by omega⟩
def ptsL (k : Nat) : List B := (List.range k).map ofB
theorem ptsL_len (k : Nat) : (ptsL k).length = k := by simp [ptsL]
theorem ptsL_get {k i : Nat} (h : i < k) : (ptsL k).getD i 0 = ofB i := getD_range _ _ h
theorem ofB_inj {i j : Nat} (hi : i < 256) (hj : j < 256) (h : ofB i = ofB j) : i = j := by
  have := congrArg B.v h
  simp only [ofB] at this
  omega
theorem map_ofB_nodup {l : List Nat} (hl : ∀ i ∈ l, i < 256) (hn : l.Nodup) : (l.map ofB).Nodup := by
  rw [List.nodup_iff_pairwise_ne, List.pairwise_map]
  exact (List.nodup_iff_pairwise_ne.1 hn).imp_of_mem (fun ha hb hne e => hne (ofB_inj (hl _ ha) (hl _ hb) e))
theorem ptsL_nodup {k : Nat} (hk : k ≤ 256) : (ptsL k).Nodup := map_ofB_nodup (fun i hi => by have := List.mem_range.1 hi; omega) List.nodup_range

/-- A sum of rows, each by a weight. -/
def mixL (ws : List B) (l : List (List B)) (wide : Nat) : List B := (List.range wide).map fun i => sm ws.length fun k => (l.getD k []).getD i 0 * ws.getD k 0
theorem mixL_len (ws : List B) (l : List (List B)) (wide : Nat) : (mixL ws l wide).length = wide := by simp [mixL]
theorem mixL_get {ws : List B} {l : List (List B)} {wide i : Nat} (h : i < wide) : (mixL ws l wide).getD i 0 = sm ws.length fun k => (l.getD k []).getD i 0 * ws.getD k 0 := getD_range _ _ h

/-- The symbols. -/
def encL (n k : Nat) (l : List (List B)) (wide : Nat) : List (List B) := (List.range n).map fun i => mixL (wtsL (ptsL k) (ofB i)) l wide
/-- The source of symbols. -/
def turnL (k : Nat) (ys : List B) : List (List B) := (List.range k).map fun r => wtsL ys (ofB r)
def decL (k : Nat) (ys : List B) (l : List (List B)) (wide : Nat) : List (List B) := (turnL k ys).map fun ws => mixL ws l wide

/-- A column, as a polynomial. -/
theorem column (xs : List B) (c : Nat → B) : ∃ p : List B, p.length ≤ xs.length ∧ (∀ x, ev p x = sm xs.length fun k => c k * lag xs k x) := by
  refine ⟨smP xs.length fun k => scP (c k) (lagC xs k), smP_len _ _ _ (fun i hi => by rw [scP_len, lagC_len hi]; exact Nat.le_refl _), fun x => ?_⟩
  rw [smP_ev]
  exact sm_congr (fun i _ => by rw [scP_ev, lagC_ev])

/-- Any symbols tell those of the source. -/
theorem through {xs ys : List B} (hx : xs.Nodup) (hy : ys.Nodup) (hl : ys.length = xs.length) (c : Nat → B) (x : B) :
    (sm ys.length fun s => (sm xs.length fun k => c k * lag xs k (ys.getD s 0)) * lag ys s x) = sm xs.length fun k => c k * lag xs k x := by
  obtain ⟨p, hp, he⟩ := column xs c
  have := exactly (xs := ys) (p := p) hy (by omega) x
  rw [he x] at this
  rw [← this]
  exact sm_congr (fun i _ => by rw [he]; grind)

theorem sm_unit {xs : List B} (hn : xs.Nodup) (c : Nat → B) {r : Nat} (hr : r < xs.length) : (sm xs.length fun k => c k * lag xs k (xs.getD r 0)) = c r := by
  rw [sm_one hr (fun i hi hne => by rw [lag_other hr (fun e => hne e.symm)]; grind), lag_self hn hr]; grind
end -- CodePa

section -- CodeM
open Go.RowKit Go.Maps
set_option linter.unusedVariables false

/-- Block g begins with the bytes l. -/
def RowW (w : World) (g : Nat) (l : List B) : Prop := ∃ C : Array Value, w.heap[g]? = some (.cells C 5 (0, 0)) ∧ l.length ≤ C.size ∧ ∀ i, i < l.length → C[i]? = some (bv (l.getD i 0))

/-- A slice reads as bytes. -/
def BytesAt (w : World) (v : Value) (l : List B) : Prop := ∃ p cap, v = .slice p l.length cap ∧ (0 < l.length → ∃ g off, p = some ⟨g, off, none⟩ ∧ ∀ i, i < l.length → w.cell? ⟨g, off + i, none⟩ = some (bv (l.getD i 0)))

/-- A slice reads as rows of bytes. -/
def RowsAt (w : World) (v : Value) (ls : List (List B)) : Prop := ∃ p cap, v = .slice p ls.length cap ∧ (0 < ls.length → ∃ g off, p = some ⟨g, off, none⟩ ∧ ∀ i, i < ls.length → ∃ u, w.cell? ⟨g, off + i, none⟩ = some u ∧ BytesAt w u (ls.getD i []))

section
variable {w w' : World} {g : Nat} {l : List B} {v : Value} {ls : List (List B)}
theorem RowW.cell (h : RowW w g l) {i : Nat} (hi : i < l.length) : w.cell? ⟨g, i, none⟩ = some (bv (l.getD i 0)) := by
  obtain ⟨C, h1, h2, h3⟩ := h
  simp [World.cell?, h1, h3 i hi]
theorem RowW.fz (h : RowW w g l) (o : Nat) : w.frozen? ⟨g, o, none⟩ = false := by
  obtain ⟨C, h1, _⟩ := h
  simp [World.frozen?, h1]
theorem RowW.lt (h : RowW w g l) : g < w.heap.size := by
  obtain ⟨C, h1, _⟩ := h
  exact (Array.getElem?_eq_some_iff.1 h1).1
theorem RowW.kept {S : Nat → Prop} (h : RowW w g l) (hk : Kept S w w') (hS : ¬ S g) : RowW w' g l := by
  obtain ⟨C, h1, h2⟩ := h
  exact ⟨C, (hk.block g (Array.getElem?_eq_some_iff.1 h1).1 hS).trans h1, h2⟩
theorem RowW.set (h : RowW w g l) {i : Nat} (hi : i < l.length) (x : B) : RowW (w.setCell ⟨g, i, none⟩ (bv x)) g (l.set i x) := by
  obtain ⟨C, h1, h2, h3⟩ := h
  refine ⟨C.setIfInBounds i (bv x), ?_, by simpa using h2, fun j hj => ?_⟩
  · simp [World.setCell, Array.getElem?_modify, h1]
  · simp at hj
    rw [Array.getElem?_setIfInBounds]
    by_cases e : i = j
    · subst e
      rw [if_pos rfl, if_pos (by omega), List.getD_eq_getElem?_getD, List.getElem?_set_self hi]; rfl
    · rw [if_neg e, h3 j hj, List.getD_eq_getElem?_getD, List.getD_eq_getElem?_getD, List.getElem?_set_ne e]
theorem RowW.made (w : World) (n : Nat) : RowW (w.alloc (.cells (Array.replicate n (.int .u8 0)) 5)) w.heap.size (List.replicate n 0) := by
  refine ⟨_, heap_alloc_new w _, by simp, fun i hi => ?_⟩
  simp at hi
  rw [List.getD_eq_getElem?_getD]
  simp [hi]
  rfl
theorem RowW.toBytes (h : RowW w g l) (cap : Nat) : BytesAt w (.slice (some ⟨g, 0, none⟩) l.length cap) l :=
  ⟨_, _, rfl, fun _ => ⟨g, 0, rfl, fun i hi => by rw [Nat.zero_add]; exact h.cell hi⟩⟩
theorem map_getD_bv {l : List B} {i : Nat} (h : i < l.length) : (l.map bv)[i]? = some (bv (l.getD i 0)) := by
  rw [List.getElem?_map, List.getD_eq_getElem?_getD, List.getElem?_eq_getElem h]; rfl

/-- Block g is just the bytes l. -/
def RowF (w : World) (g : Nat) (l : List B) : Prop := w.heap[g]? = some (.cells (l.map bv).toArray 5 (0, 0))
theorem RowF.toW (h : RowF w g l) : RowW w g l := ⟨_, h, by simp, fun i hi => by
  have := map_getD_bv hi
  simpa using this⟩
theorem RowF.cell (h : RowF w g l) {i : Nat} (hi : i < l.length) : w.cell? ⟨g, i, none⟩ = some (bv (l.getD i 0)) := h.toW.cell hi
theorem RowF.fz (h : RowF w g l) (o : Nat) : w.frozen? ⟨g, o, none⟩ = false := h.toW.fz o
theorem RowF.lt (h : RowF w g l) : g < w.heap.size := h.toW.lt
theorem RowF.kept {S : Nat → Prop} (h : RowF w g l) (hk : Kept S w w') (hS : ¬ S g) : RowF w' g l := (hk.block g h.lt hS).trans h
theorem RowF.set (h : RowF w g l) {i : Nat} (hi : i < l.length) (x : B) : RowF (w.setCell ⟨g, i, none⟩ (bv x)) g (l.set i x) := by
  unfold RowF at *
  simp [World.setCell, Array.getElem?_modify, h, List.map_set]
theorem RowF.made (w : World) (n : Nat) : RowF (w.alloc (.cells (Array.replicate n (.int .u8 0)) 5)) w.heap.size (List.replicate n 0) := by
  refine (heap_alloc_new w _).trans ?_
  rw [show (List.replicate n (0 : B)).map bv = List.replicate n (.int .u8 0) from by rw [List.map_replicate]; rfl]
  simp
theorem RowF.toBytes (h : RowF w g l) (cap : Nat) : BytesAt w (.slice (some ⟨g, 0, none⟩) l.length cap) l := h.toW.toBytes cap
theorem RowF.owns (h : RowF w g l) {base : Nat} (hb : base ≤ g) (hl : l.length ≤ maxLen) : w.ownsRow base 5 1 (.slice (some ⟨g, 0, none⟩) l.length l.length) l.length (l.map bv) :=
  ⟨by simp, .inr ⟨g, l.length, _, rfl, hb, h, Nat.le_refl _, hl, by simp, by rw [Nat.mul_one, List.take_of_length_le (by simp)]⟩⟩

/-- Block g, of c bytes, begins with the bytes l. -/
def RowC (w : World) (g c : Nat) (l : List B) : Prop := ∃ C : Array Value, w.heap[g]? = some (.cells C 5 (0, 0)) ∧ C.size = c ∧ l.length ≤ c ∧ c ≤ maxLen ∧ ∀ i, i < l.length → C[i]? = some (bv (l.getD i 0))
theorem RowC.toW {c : Nat} (h : RowC w g c l) : RowW w g l := by
  obtain ⟨C, h1, h2, h3, h4, h5⟩ := h
  exact ⟨C, h1, by omega, h5⟩
theorem RowC.cell {c : Nat} (h : RowC w g c l) {i : Nat} (hi : i < l.length) : w.cell? ⟨g, i, none⟩ = some (bv (l.getD i 0)) := h.toW.cell hi
theorem RowC.fz {c : Nat} (h : RowC w g c l) (o : Nat) : w.frozen? ⟨g, o, none⟩ = false := h.toW.fz o
theorem RowC.lt {c : Nat} (h : RowC w g c l) : g < w.heap.size := h.toW.lt
theorem RowC.kept {c : Nat} {S : Nat → Prop} (h : RowC w g c l) (hk : Kept S w w') (hS : ¬ S g) : RowC w' g c l := by
  obtain ⟨C, h1, h2⟩ := h
  exact ⟨C, (hk.block g (Array.getElem?_eq_some_iff.1 h1).1 hS).trans h1, h2⟩
theorem RowC.set {c : Nat} (h : RowC w g c l) {i : Nat} (hi : i < l.length) (x : B) : RowC (w.setCell ⟨g, i, none⟩ (bv x)) g c (l.set i x) := by
  obtain ⟨C, h1, h2, h3, h4, h5⟩ := h
  refine ⟨C.setIfInBounds i (bv x), by simp [World.setCell, Array.getElem?_modify, h1], by simpa using h2, by simpa using h3, h4, fun j hj => ?_⟩
  simp at hj
  rw [Array.getElem?_setIfInBounds]
  by_cases e : i = j
  · subst e
    rw [if_pos rfl, if_pos (by omega), List.getD_eq_getElem?_getD, List.getElem?_set_self hi]; rfl
  · rw [if_neg e, h5 j hj, List.getD_eq_getElem?_getD, List.getD_eq_getElem?_getD, List.getElem?_set_ne e]
theorem RowF.toC (h : RowF w g l) (hl : l.length ≤ maxLen) : RowC w g l.length l := ⟨_, h, by simp, Nat.le_refl _, hl, fun i hi => by
  have := map_getD_bv hi
  simpa using this⟩
theorem RowC.owns {c : Nat} (h : RowC w g c l) {base : Nat} (hb : base ≤ g) : w.ownsRow base 5 1 (.slice (some ⟨g, 0, none⟩) l.length c) l.length (l.map bv) := by
  obtain ⟨C, h1, h2, h3, h4, h5⟩ := h
  refine ⟨by simp, .inr ⟨g, c, C, rfl, hb, h1, h3, h4, by omega, ?_⟩⟩
  apply List.ext_getElem?
  intro i
  by_cases e : i < l.length
  · rw [List.getElem?_take, if_pos (by omega), map_getD_bv e, Array.getElem?_toList, h5 i e]
  · rw [List.getElem?_eq_none (by simp; omega), List.getElem?_eq_none (by simp; omega)]
theorem RowC.of_owns {base g c : Nat} {l : List B} (h : w.ownsRow base 5 1 (.slice (some ⟨g, 0, none⟩) l.length c) l.length (l.map bv)) : RowC w g c l := by
  obtain ⟨h0, h1⟩ := h
  rcases h1 with ⟨q, _⟩ | ⟨g', cap, cur, e, h2, h3, h4, h5, h6, h7⟩
  · cases q
  · simp only [Value.slice.injEq, Option.some.injEq, Addr.mk.injEq] at e
    obtain ⟨⟨rfl, _⟩, _, rfl⟩ := e
    refine ⟨cur, h3, by omega, h4, h5, fun i hi => ?_⟩
    have := map_getD_bv hi
    rw [← h7, List.getElem?_take, if_pos (by omega), Array.getElem?_toList] at this
    exact this

theorem BytesAt.nil (w : World) : BytesAt w (.slice none 0 0) [] := ⟨none, 0, rfl, fun h => absurd h (by simp)⟩
theorem RowsAt.nil (w : World) : RowsAt w (.slice none 0 0) [] := ⟨none, 0, rfl, fun h => absurd h (by simp)⟩
theorem BytesAt.kept {S : Nat → Prop} (h : BytesAt w v l) (hk : Kept S w w') (hS : ∀ k, k < w.heap.size → ¬ S k) : BytesAt w' v l := by
  obtain ⟨p, cap, rfl, hh⟩ := h
  refine ⟨p, cap, rfl, fun hl => ?_⟩
  obtain ⟨g, off, rfl, hc⟩ := hh hl
  have hlt := World.block_lt_of_cell? w _ (hc 0 hl)
  exact ⟨g, off, rfl, fun i hi => (hk.cell (p := ⟨g, off + i, none⟩) hlt (hS g hlt)).trans (hc i hi)⟩
/-- .. of a slice whose block does not turn. -/
theorem BytesAt.kept1 {S : Nat → Prop} (h : BytesAt w v l) (hk : Kept S w w') (hS : ∀ k, v.ownBlock = some k → ¬ S k) : BytesAt w' v l := by
  obtain ⟨p, cap, rfl, hh⟩ := h
  refine ⟨p, cap, rfl, fun hl => ?_⟩
  obtain ⟨g, off, rfl, hc⟩ := hh hl
  have hlt := World.block_lt_of_cell? w _ (hc 0 hl)
  exact ⟨g, off, rfl, fun i hi => (hk.cell (p := ⟨g, off + i, none⟩) hlt (hS g rfl)).trans (hc i hi)⟩
theorem BytesAt.below (h : BytesAt w v l) (hb : Below w.heap.size w w') : BytesAt w' v l := h.kept (Kept.below hb) (fun _ _ h => h)
theorem RowsAt.kept {S : Nat → Prop} (h : RowsAt w v ls) (hk : Kept S w w') (hS : ∀ k, k < w.heap.size → ¬ S k) : RowsAt w' v ls := by
  obtain ⟨p, cap, rfl, hh⟩ := h
  refine ⟨p, cap, rfl, fun hl => ?_⟩
  obtain ⟨g, off, rfl, hc⟩ := hh hl
  obtain ⟨_, hc0, _⟩ := hc 0 hl
  have hlt := World.block_lt_of_cell? w _ hc0
  refine ⟨g, off, rfl, fun i hi => ?_⟩
  obtain ⟨u, hu, hb⟩ := hc i hi
  exact ⟨u, (hk.cell (p := ⟨g, off + i, none⟩) hlt (hS g hlt)).trans hu, hb.kept hk hS⟩
theorem RowsAt.below (h : RowsAt w v ls) (hb : Below w.heap.size w w') : RowsAt w' v ls := h.kept (Kept.below hb) (fun _ _ h => h)
theorem BytesAt.dr (h : BytesAt w v l) (n : Nat) : BytesAt (w.drewN n) v l := h
theorem RowsAt.dr (h : RowsAt w v ls) (n : Nat) : RowsAt (w.drewN n) v ls := h

theorem getD_snoc_lt {α : Type} {l : List α} {x d : α} {i : Nat} (h : i < l.length) : (l ++ [x]).getD i d = l.getD i d := by
  rw [List.getD_eq_getElem?_getD, List.getD_eq_getElem?_getD, List.getElem?_append_left h]
theorem getD_snoc_last {α : Type} {l : List α} {x d : α} : (l ++ [x]).getD l.length d = x := by
  rw [List.getD_eq_getElem?_getD]; simp

/-- A row of bytes that a call owns. -/
theorem BytesAt.of_owns {base : Nat} (h : w.ownsRow base 5 1 v l.length (l.map bv)) : BytesAt w v l := by
  obtain ⟨h0, h1⟩ := h
  rcases h1 with ⟨rfl, hz⟩ | ⟨g, cap, cur, rfl, h2, h3, h4, h5, h6, h7⟩
  · exact ⟨none, 0, by rw [hz], fun hl => by omega⟩
  · refine ⟨_, cap, rfl, fun _ => ⟨g, 0, rfl, fun i hi => ?_⟩⟩
    have := map_getD_bv hi
    rw [← h7, List.getElem?_take, if_pos (by omega), Array.getElem?_toList] at this
    simp [World.cell?, h3, this]
/-- Rows of bytes that a call owns, each in its place. -/
theorem RowsAt.of_owns {base : Nat} {us : List Value} (h : w.ownsRow base 32 1 v ls.length us) (hu : ∀ i u, us[i]? = some u → BytesAt w u (ls.getD i [])) : RowsAt w v ls := by
  obtain ⟨h0, h1⟩ := h
  rcases h1 with ⟨rfl, hz⟩ | ⟨g, cap, cur, rfl, h2, h3, h4, h5, h6, h7⟩
  · exact ⟨none, 0, by rw [hz], fun hl => by omega⟩
  · refine ⟨_, cap, rfl, fun _ => ⟨g, 0, rfl, fun i hi => ?_⟩⟩
    have hi' : i < us.length := by omega
    refine ⟨us[i], ?_, hu i _ (List.getElem?_eq_getElem hi')⟩
    have : us[i]? = some us[i] := List.getElem?_eq_getElem hi'
    conv at this => lhs; rw [← h7]
    rw [List.getElem?_take, if_pos (by omega), Array.getElem?_toList] at this
    simp [World.cell?, h3, this]
end

theorem infoB : (Try.prog.info? 5).map (fun i => (i.zero, i.size, i.bytes)) = some (some (.int .u8 0), 1, 1) := by kernel_rfl
theorem infoR : (Try.prog.info? 32).map (fun i => (i.zero, i.size, i.bytes)) = some (some (.slice none 0 0), 1, 24) := by kernel_rfl
end -- CodeM

end Go.Proofs.Ytibelpamolcmcaa
