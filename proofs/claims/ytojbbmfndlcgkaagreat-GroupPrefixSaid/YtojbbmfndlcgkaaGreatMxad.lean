/-
  CodeI: Walks of layer 1 (field): is, Add, Mul, Inv, Div.
  CodePa: Weights as the program makes them; sums of rows: plain.
  CodeM: Slices of bytes, rows of bytes: what they read as; rows that are written.
  CodeN: Append of one element, behind the block that holds it; lists that grow.
-/
import Derived.Test.YtojbbmfndlcgkaaGreatMxab
import Derived.Test.YtojbbmfndlcgkaaGreatKept
import Derived.Laws.MakeOwn
import Derived.Laws.AppendOwn
import Derived.Laws.OwnMore
namespace Go.Proofs.YtojbbmfndlcgkaaGreat

section -- CodeI
open Go.RowKit Go.Maps

set_option maxRecDepth 100000
set_option maxHeartbeats 2000000

/-- A byte, as a value. -/
abbrev bv (x : B) : Value := .int .u8 ((x.v : Nat) : Int)

/-- The field lies at block b. -/
def FieldAt (w : World) (b : Nat) : Prop := ∃ C : Array Value, w.heap[b]? = some (.cells C 114 (0, 0)) ∧ C.size = 767 ∧ (∀ i : Nat, i < 510 → C[i]? = some (.int .u8 ((expN (i % 255) : Nat) : Int))) ∧ (∀ a : Nat, a < 256 → C[510 + a]? = some (.int .u8 ((logN a : Nat) : Int))) ∧ C[766]? = some (.bool true)

section
variable {w w' : World} {b : Nat}
theorem FieldAt.ex (h : FieldAt w b) {i : Nat} (hi : i < 510) : w.cell? ⟨b, i, none⟩ = some (.int .u8 ((expN (i % 255) : Nat) : Int)) := by
  obtain ⟨C, h1, h2, h3, h4, h5⟩ := h
  simp [World.cell?, h1, h3 i hi]
theorem FieldAt.lg (h : FieldAt w b) {a : Nat} (ha : a < 256) : w.cell? ⟨b, 510 + a, none⟩ = some (.int .u8 ((logN a : Nat) : Int)) := by
  obtain ⟨C, h1, h2, h3, h4, h5⟩ := h
  simp [World.cell?, h1, h4 a ha]
theorem FieldAt.th (h : FieldAt w b) : w.cell? ⟨b, 766, none⟩ = some (.bool true) := by
  obtain ⟨C, h1, h2, h3, h4, h5⟩ := h
  simp [World.cell?, h1, h5]
theorem FieldAt.lt (h : FieldAt w b) : b < w.heap.size := by
  obtain ⟨C, h1, _⟩ := h
  exact (Array.getElem?_eq_some_iff.1 h1).1
theorem FieldAt.kept {S : Nat → Prop} (h : FieldAt w b) (hk : Kept S w w') (hS : ¬ S b) : FieldAt w' b := by
  obtain ⟨C, h1, h2⟩ := h
  exact ⟨C, (hk.block b (Array.getElem?_eq_some_iff.1 h1).1 hS).trans h1, h2⟩
end

theorem Kept.drewN {S : Nat → Prop} {a w : World} (h : Kept S a w) (n : Nat) : Kept S a (w.drewN n) := ⟨h.os, h.tape, h.output, h.size, h.block⟩
theorem is_yes (w : World) (b : Nat) (h : FieldAt w b) :
    Calls Tryz.prog 72 #[.pointer (some ⟨b, 0, none⟩)] w fun e w' => e = .returned (.bool true) ∧ w = w' := by
  have d := h.th
  clear h
  go_enter Tryz.func72, Tryz.ntmps72
  go_wp2
  go_ret
  exact ⟨rfl, rfl⟩

theorem fadd_any (w : World) (x y : B) :
    Calls Tryz.prog 61 #[bv x, bv y] w fun e w' => e = .returned (bv (x + y)) ∧ w = w' := by
  have h := u8_xor_nat x.v y.v x.lt y.lt
  unfold bv
  go_enter Tryz.func61, Tryz.ntmps61
  go_wp2
  go_ret
  exact ⟨rfl, rfl⟩

theorem fmul_any (w : World) (b : Nat) (h : FieldAt w b) (x y : B) :
    Calls Tryz.prog 62 #[.pointer (some ⟨b, 0, none⟩), bv x, bv y] w fun e w' => e = .returned (bv (x * y)) ∧ ∃ n, w' = w.drewN n := by
  have HH := Lib.hid h
  unfold bv
  by_cases hx : x.v = 0
  · have hz : (x * y).v = 0 := by rw [B.mul_v, hx, zero_mulN]
    rw [hx, hz]
    clear h
    go_enter Tryz.func62, Tryz.ntmps62
    go_wp2_with fail
    refine (is_yes _ b HH.out).mono ?_
    rintro e w' ⟨rfl, rfl⟩
    go_wp2
    go_ret
    exact ⟨rfl, 0, rfl⟩
  · by_cases hy : y.v = 0
    · have hz : (x * y).v = 0 := by rw [B.mul_v, hy, mulN_zero]
      have hx1 : (((x.v : Nat) : Int) == 0) = false := by simp; omega
      rw [hy, hz]
      clear h
      go_enter Tryz.func62, Tryz.ntmps62
      go_wp2_with fail
      refine (is_yes _ b HH.out).mono ?_
      rintro e w' ⟨rfl, rfl⟩
      go_wp2
      go_ret
      exact ⟨rfl, 0, rfl⟩
    · have hx1 : (((x.v : Nat) : Int) == 0) = false := by simp; omega
      have hy1 : (((y.v : Nat) : Int) == 0) = false := by simp; omega
      have lx := (log_facts (a := x.v) (by omega) x.lt).1
      have ly := (log_facts (a := y.v) (by omega) y.lt).1
      have dx := h.lg x.lt
      have dy := h.lg y.lt
      have de := h.ex (i := logN x.v + logN y.v) (by omega)
      have hz : (x * y).v = expN ((logN x.v + logN y.v) % 255) := by rw [B.mul_v]; unfold mulN; rw [if_neg (by omega)]
      rw [hz]
      have bx := x.lt
      have bY := y.lt
      generalize expN ((logN x.v + logN y.v) % 255) = z at *
      generalize logN x.v = p at *
      generalize logN y.v = q at *
      generalize x.v = xx at *
      generalize y.v = yy at *
      clear h hz
      go_enter Tryz.func62, Tryz.ntmps62
      go_wp2_with fail
      refine (is_yes _ b HH.out).mono ?_
      rintro e w' ⟨rfl, rfl⟩
      go_wp2_with fail
      go_quiet (fail)
      go_wp2
      go_ret
      exact ⟨rfl, _, rfl⟩
end -- CodeI

section -- CodePa
set_option linter.unusedVariables false

theorem pr_snoc : ∀ (l : List B) (a x : B), pr (l ++ [a]) x = pr l x * (x + a)
  | [], a, x => by show (x + a) * 1 = 1 * (x + a); grind
  | b :: l, a, x => by
    show (x + b) * pr (l ++ [a]) x = (x + b) * pr l x * (x + a)
    rw [pr_snoc l a x]; grind

/-- The product of the distances from the first m points, that number k left out. -/
def pS (xs : List B) (k : Nat) (x : B) : Nat → B
  | 0 => 1
  | m + 1 => if m = k then pS xs k x m else pS xs k x m * (x + xs.getD m 0)

theorem take_snocD {xs : List B} {m : Nat} (h : m < xs.length) : xs.take (m + 1) = xs.take m ++ [xs.getD m 0] := by
  rw [List.take_succ_eq_append_getElem h, List.getD_eq_getElem?_getD, List.getElem?_eq_getElem h]; rfl

theorem pS_eq (xs : List B) (k : Nat) (x : B) : ∀ m, m ≤ xs.length → pS xs k x m = pr ((xs.take m).eraseIdx k) x
  | 0, _ => by simp [pS, pr]
  | m + 1, h => by
    have ih := pS_eq xs k x m (by omega)
    have hl : (xs.take m).length = m := by simp; omega
    rw [take_snocD (by omega)]
    show (if m = k then _ else _) = _
    by_cases e : m = k
    · rw [if_pos e, ih, List.eraseIdx_of_length_le (by omega), List.eraseIdx_append_of_length_le (by omega)]
      rw [hl, e, Nat.sub_self]
      simp
    · rw [if_neg e, ih]
      by_cases q : k < m
      · rw [List.eraseIdx_append_of_lt_length (by omega), pr_snoc]
      · rw [List.eraseIdx_of_length_le (by omega), List.eraseIdx_of_length_le (by simp; omega), pr_snoc]

/-- The product of the distances from the first m points. -/
theorem pr_take {xs : List B} {m : Nat} (h : m < xs.length) (x : B) : pr (xs.take (m + 1)) x = pr (xs.take m) x * (x + xs.getD m 0) := by
  rw [take_snocD h, pr_snoc]

theorem pr_out : ∀ (xs : List B) (k : Nat) (x : B), k < xs.length → pr xs x = (x + xs.getD k 0) * pr (xs.eraseIdx k) x
  | a :: l, 0, x, _ => by simp [pr]
  | a :: l, k + 1, x, h => by
    have := pr_out l k x (by simpa using h)
    show (x + a) * pr l x = (x + l.getD k 0) * ((x + a) * pr (l.eraseIdx k) x)
    rw [this]; grind

theorem B.inv_one : (1 : B).inv = 1 := by decide
theorem B.mul_inv_eq {a b c : B} (hb : b ≠ 0) (h : c * b = a) : a * b.inv = c := by
  have := B.mul_inv hb
  rw [← h]
  grind
theorem B.inv_ne {a : B} (h : a ≠ 0) : a.inv ≠ 0 := fun e => by
  have := B.mul_inv h
  rw [e] at this
  exact B.one_ne (by grind)

/-- The products of each point's distances from the others. -/
def apartL (xs : List B) : List B := (List.range xs.length).map fun k => pr (xs.eraseIdx k) (xs.getD k 0)
/-- The weights. -/
def wtsL (xs : List B) (x : B) : List B := (List.range xs.length).map fun k => lag xs k x

theorem apartL_len (xs : List B) : (apartL xs).length = xs.length := by simp [apartL]
theorem wtsL_len (xs : List B) (x : B) : (wtsL xs x).length = xs.length := by simp [wtsL]

theorem getD_range {α : Type} {n k : Nat} (f : Nat → α) (d : α) (h : k < n) : ((List.range n).map f).getD k d = f k := by
  rw [List.getD_eq_getElem?_getD]; simp [h]

theorem wtsL_get {xs : List B} {x : B} {k : Nat} (h : k < xs.length) : (wtsL xs x).getD k 0 = lag xs k x := getD_range _ _ h

/-- The weight, as it is worked out. -/
theorem lag_div {xs : List B} (hn : xs.Nodup) {x : B} (hx : x ∉ xs) {k : Nat} (hk : k < xs.length) :
    pr xs x * ((x + xs.getD k 0) * pr (xs.eraseIdx k) (xs.getD k 0)).inv = lag xs k x := by
  have h1 : x + xs.getD k 0 ≠ 0 := fun e => hx (by
    rw [B.add_eq_zero e, List.getD_eq_getElem?_getD, List.getElem?_eq_getElem hk]
    exact List.getElem_mem hk)
  have h2 := pr_ne (nodup_erase hn hk)
  refine B.mul_inv_eq (B.mul_ne h1 h2) ?_
  rw [pr_out xs k x hk]
  unfold lag
  have := B.mul_inv h2
  grind
theorem lag_ne {xs : List B} (hn : xs.Nodup) {x : B} (hx : x ∉ xs) {k : Nat} (hk : k < xs.length) : (x + xs.getD k 0) * pr (xs.eraseIdx k) (xs.getD k 0) ≠ 0 := by
  refine B.mul_ne (fun e => hx ?_) (pr_ne (nodup_erase hn hk))
  rw [B.add_eq_zero e, List.getD_eq_getElem?_getD, List.getElem?_eq_getElem hk]
  exact List.getElem_mem hk

theorem wtsL_unit {xs : List B} (hn : xs.Nodup) {k : Nat} (hk : k < xs.length) : wtsL xs (xs.getD k 0) = (List.replicate xs.length 0).set k 1 := by
  apply List.ext_getElem
  · simp [wtsL]
  · intro i h1 h2
    simp [wtsL] at h1
    rw [List.getElem_set]
    simp only [wtsL, List.getElem_map, List.getElem_range, List.getElem_replicate]
    by_cases e : k = i
    · subst e; rw [if_pos rfl, lag_self hn hk]
    · rw [if_neg e, lag_other hk e]

/-- The first bytes. -/
def ofB (n : Nat) : B := ⟨n % 256, by omega⟩
def ptsL (k : Nat) : List B := (List.range k).map ofB
theorem ptsL_len (k : Nat) : (ptsL k).length = k := by simp [ptsL]
theorem ptsL_get {k i : Nat} (h : i < k) : (ptsL k).getD i 0 = ofB i := getD_range _ _ h
theorem ofB_inj {i j : Nat} (hi : i < 256) (hj : j < 256) (h : ofB i = ofB j) : i = j := by
  have := congrArg B.v h
  simp only [ofB] at this
  omega
theorem map_ofB_nodup {l : List Nat} (hl : ∀ i ∈ l, i < 256) (hn : l.Nodup) : (l.map ofB).Nodup := by
  rw [List.nodup_iff_pairwise_ne, List.pairwise_map]
  exact (List.nodup_iff_pairwise_ne.1 hn).imp_of_mem (fun ha hb hne e => hne (ofB_inj (hl _ ha) (hl _ hb) e))
theorem ptsL_nodup {k : Nat} (hk : k ≤ 256) : (ptsL k).Nodup := map_ofB_nodup (fun i hi => by have := List.mem_range.1 hi; omega) List.nodup_range

/-- A sum of rows, each by a weight. -/
def mixL (ws : List B) (l : List (List B)) (wide : Nat) : List B := (List.range wide).map fun i => sm ws.length fun k => (l.getD k []).getD i 0 * ws.getD k 0
theorem mixL_len (ws : List B) (l : List (List B)) (wide : Nat) : (mixL ws l wide).length = wide := by simp [mixL]
theorem mixL_get {ws : List B} {l : List (List B)} {wide i : Nat} (h : i < wide) : (mixL ws l wide).getD i 0 = sm ws.length fun k => (l.getD k []).getD i 0 * ws.getD k 0 := getD_range _ _ h

/-- The symbols. -/
def encL (n k : Nat) (l : List (List B)) (wide : Nat) : List (List B) := (List.range n).map fun i => mixL (wtsL (ptsL k) (ofB i)) l wide
/-- The source of symbols. -/
def turnL (k : Nat) (ys : List B) : List (List B) := (List.range k).map fun r => wtsL ys (ofB r)
def decL (k : Nat) (ys : List B) (l : List (List B)) (wide : Nat) : List (List B) := (turnL k ys).map fun ws => mixL ws l wide

/-- A column, as a polynomial. -/
theorem column (xs : List B) (c : Nat → B) : ∃ p : List B, p.length ≤ xs.length ∧ (∀ x, ev p x = sm xs.length fun k => c k * lag xs k x) := by
  refine ⟨smP xs.length fun k => scP (c k) (lagC xs k), smP_len _ _ _ (fun i hi => by rw [scP_len, lagC_len hi]; exact Nat.le_refl _), fun x => ?_⟩
  rw [smP_ev]
  exact sm_congr (fun i _ => by rw [scP_ev, lagC_ev])

/-- Any symbols tell those of the source. -/
theorem through {xs ys : List B} (hx : xs.Nodup) (hy : ys.Nodup) (hl : ys.length = xs.length) (c : Nat → B) (x : B) :
    (sm ys.length fun s => (sm xs.length fun k => c k * lag xs k (ys.getD s 0)) * lag ys s x) = sm xs.length fun k => c k * lag xs k x := by
  obtain ⟨p, hp, he⟩ := column xs c
  have := exactly (xs := ys) (p := p) hy (by omega) x
  rw [he x] at this
  rw [← this]
  exact sm_congr (fun i _ => by rw [he]; grind)

theorem sm_unit {xs : List B} (hn : xs.Nodup) (c : Nat → B) {r : Nat} (hr : r < xs.length) : (sm xs.length fun k => c k * lag xs k (xs.getD r 0)) = c r := by
  rw [sm_one hr (fun i hi hne => by rw [lag_other hr (fun e => hne e.symm)]; grind), lag_self hn hr]; grind
end -- CodePa

section -- CodeM
open Go.RowKit Go.Maps
set_option linter.unusedVariables false

/-- Block g begins with the bytes l. -/
def RowW (w : World) (g : Nat) (l : List B) : Prop := ∃ C : Array Value, w.heap[g]? = some (.cells C 5 (0, 0)) ∧ l.length ≤ C.size ∧ ∀ i, i < l.length → C[i]? = some (bv (l.getD i 0))

/-- A slice reads as bytes. -/
def BytesAt (w : World) (v : Value) (l : List B) : Prop := ∃ p cap, v = .slice p l.length cap ∧ (0 < l.length → ∃ g off, p = some ⟨g, off, none⟩ ∧ ∀ i, i < l.length → w.cell? ⟨g, off + i, none⟩ = some (bv (l.getD i 0)))

/-- A slice reads as rows of bytes. -/
def RowsAt (w : World) (v : Value) (ls : List (List B)) : Prop := ∃ p cap, v = .slice p ls.length cap ∧ (0 < ls.length → ∃ g off, p = some ⟨g, off, none⟩ ∧ ∀ i, i < ls.length → ∃ u, w.cell? ⟨g, off + i, none⟩ = some u ∧ BytesAt w u (ls.getD i []))

section
variable {w w' : World} {g : Nat} {l : List B} {v : Value} {ls : List (List B)}
theorem RowW.cell (h : RowW w g l) {i : Nat} (hi : i < l.length) : w.cell? ⟨g, i, none⟩ = some (bv (l.getD i 0)) := by
  obtain ⟨C, h1, h2, h3⟩ := h
  simp [World.cell?, h1, h3 i hi]
theorem RowW.fz (h : RowW w g l) (o : Nat) : w.frozen? ⟨g, o, none⟩ = false := by
  obtain ⟨C, h1, _⟩ := h
  simp [World.frozen?, h1]
theorem RowW.lt (h : RowW w g l) : g < w.heap.size := by
  obtain ⟨C, h1, _⟩ := h
  exact (Array.getElem?_eq_some_iff.1 h1).1
theorem RowW.kept {S : Nat → Prop} (h : RowW w g l) (hk : Kept S w w') (hS : ¬ S g) : RowW w' g l := by
  obtain ⟨C, h1, h2⟩ := h
  exact ⟨C, (hk.block g (Array.getElem?_eq_some_iff.1 h1).1 hS).trans h1, h2⟩
theorem RowW.set (h : RowW w g l) {i : Nat} (hi : i < l.length) (x : B) : RowW (w.setCell ⟨g, i, none⟩ (bv x)) g (l.set i x) := by
  obtain ⟨C, h1, h2, h3⟩ := h
  refine ⟨C.setIfInBounds i (bv x), ?_, by simpa using h2, fun j hj => ?_⟩
  · simp [World.setCell, Array.getElem?_modify, h1]
  · simp at hj
    rw [Array.getElem?_setIfInBounds]
    by_cases e : i = j
    · subst e
      rw [if_pos rfl, if_pos (by omega), List.getD_eq_getElem?_getD, List.getElem?_set_self hi]; rfl
    · rw [if_neg e, h3 j hj, List.getD_eq_getElem?_getD, List.getD_eq_getElem?_getD, List.getElem?_set_ne e]
theorem RowW.made (w : World) (n : Nat) : RowW (w.alloc (.cells (Array.replicate n (.int .u8 0)) 5)) w.heap.size (List.replicate n 0) := by
  refine ⟨_, heap_alloc_new w _, by simp, fun i hi => ?_⟩
  simp at hi
  rw [List.getD_eq_getElem?_getD]
  simp [hi]
  rfl
theorem RowW.toBytes (h : RowW w g l) (cap : Nat) : BytesAt w (.slice (some ⟨g, 0, none⟩) l.length cap) l :=
  ⟨_, _, rfl, fun _ => ⟨g, 0, rfl, fun i hi => by rw [Nat.zero_add]; exact h.cell hi⟩⟩
theorem map_getD_bv {l : List B} {i : Nat} (h : i < l.length) : (l.map bv)[i]? = some (bv (l.getD i 0)) := by
  rw [List.getElem?_map, List.getD_eq_getElem?_getD, List.getElem?_eq_getElem h]; rfl

/-- Block g is just the bytes l. -/
def RowF (w : World) (g : Nat) (l : List B) : Prop := w.heap[g]? = some (.cells (l.map bv).toArray 5 (0, 0))
theorem RowF.toW (h : RowF w g l) : RowW w g l := ⟨_, h, by simp, fun i hi => by
  have := map_getD_bv hi
  simpa using this⟩
theorem RowF.cell (h : RowF w g l) {i : Nat} (hi : i < l.length) : w.cell? ⟨g, i, none⟩ = some (bv (l.getD i 0)) := h.toW.cell hi
theorem RowF.fz (h : RowF w g l) (o : Nat) : w.frozen? ⟨g, o, none⟩ = false := h.toW.fz o
theorem RowF.lt (h : RowF w g l) : g < w.heap.size := h.toW.lt
theorem RowF.kept {S : Nat → Prop} (h : RowF w g l) (hk : Kept S w w') (hS : ¬ S g) : RowF w' g l := (hk.block g h.lt hS).trans h
theorem RowF.set (h : RowF w g l) {i : Nat} (hi : i < l.length) (x : B) : RowF (w.setCell ⟨g, i, none⟩ (bv x)) g (l.set i x) := by
  unfold RowF at *
  simp [World.setCell, Array.getElem?_modify, h, List.map_set]
theorem RowF.made (w : World) (n : Nat) : RowF (w.alloc (.cells (Array.replicate n (.int .u8 0)) 5)) w.heap.size (List.replicate n 0) := by
  refine (heap_alloc_new w _).trans ?_
  rw [show (List.replicate n (0 : B)).map bv = List.replicate n (.int .u8 0) from by rw [List.map_replicate]; rfl]
  simp
theorem RowF.toBytes (h : RowF w g l) (cap : Nat) : BytesAt w (.slice (some ⟨g, 0, none⟩) l.length cap) l := h.toW.toBytes cap
theorem RowF.owns (h : RowF w g l) {base : Nat} (hb : base ≤ g) (hl : l.length ≤ maxLen) : w.ownsRow base 5 1 (.slice (some ⟨g, 0, none⟩) l.length l.length) l.length (l.map bv) :=
  ⟨by simp, .inr ⟨g, l.length, _, rfl, hb, h, Nat.le_refl _, hl, by simp, by rw [Nat.mul_one, List.take_of_length_le (by simp)]⟩⟩

/-- Block g, of c bytes, begins with the bytes l. -/
def RowC (w : World) (g c : Nat) (l : List B) : Prop := ∃ C : Array Value, w.heap[g]? = some (.cells C 5 (0, 0)) ∧ C.size = c ∧ l.length ≤ c ∧ c ≤ maxLen ∧ ∀ i, i < l.length → C[i]? = some (bv (l.getD i 0))
theorem RowC.toW {c : Nat} (h : RowC w g c l) : RowW w g l := by
  obtain ⟨C, h1, h2, h3, h4, h5⟩ := h
  exact ⟨C, h1, by omega, h5⟩
theorem RowC.cell {c : Nat} (h : RowC w g c l) {i : Nat} (hi : i < l.length) : w.cell? ⟨g, i, none⟩ = some (bv (l.getD i 0)) := h.toW.cell hi
theorem RowC.fz {c : Nat} (h : RowC w g c l) (o : Nat) : w.frozen? ⟨g, o, none⟩ = false := h.toW.fz o
theorem RowC.lt {c : Nat} (h : RowC w g c l) : g < w.heap.size := h.toW.lt
theorem RowC.kept {c : Nat} {S : Nat → Prop} (h : RowC w g c l) (hk : Kept S w w') (hS : ¬ S g) : RowC w' g c l := by
  obtain ⟨C, h1, h2⟩ := h
  exact ⟨C, (hk.block g (Array.getElem?_eq_some_iff.1 h1).1 hS).trans h1, h2⟩
theorem RowC.set {c : Nat} (h : RowC w g c l) {i : Nat} (hi : i < l.length) (x : B) : RowC (w.setCell ⟨g, i, none⟩ (bv x)) g c (l.set i x) := by
  obtain ⟨C, h1, h2, h3, h4, h5⟩ := h
  refine ⟨C.setIfInBounds i (bv x), by simp [World.setCell, Array.getElem?_modify, h1], by simpa using h2, by simpa using h3, h4, fun j hj => ?_⟩
  simp at hj
  rw [Array.getElem?_setIfInBounds]
  by_cases e : i = j
  · subst e
    rw [if_pos rfl, if_pos (by omega), List.getD_eq_getElem?_getD, List.getElem?_set_self hi]; rfl
  · rw [if_neg e, h5 j hj, List.getD_eq_getElem?_getD, List.getD_eq_getElem?_getD, List.getElem?_set_ne e]
theorem RowF.toC (h : RowF w g l) (hl : l.length ≤ maxLen) : RowC w g l.length l := ⟨_, h, by simp, Nat.le_refl _, hl, fun i hi => by
  have := map_getD_bv hi
  simpa using this⟩
theorem RowC.owns {c : Nat} (h : RowC w g c l) {base : Nat} (hb : base ≤ g) : w.ownsRow base 5 1 (.slice (some ⟨g, 0, none⟩) l.length c) l.length (l.map bv) := by
  obtain ⟨C, h1, h2, h3, h4, h5⟩ := h
  refine ⟨by simp, .inr ⟨g, c, C, rfl, hb, h1, h3, h4, by omega, ?_⟩⟩
  apply List.ext_getElem?
  intro i
  by_cases e : i < l.length
  · rw [List.getElem?_take, if_pos (by omega), map_getD_bv e, Array.getElem?_toList, h5 i e]
  · rw [List.getElem?_eq_none (by simp; omega), List.getElem?_eq_none (by simp; omega)]
theorem RowC.of_owns {base g c : Nat} {l : List B} (h : w.ownsRow base 5 1 (.slice (some ⟨g, 0, none⟩) l.length c) l.length (l.map bv)) : RowC w g c l := by
  obtain ⟨h0, h1⟩ := h
  rcases h1 with ⟨q, _⟩ | ⟨g', cap, cur, e, h2, h3, h4, h5, h6, h7⟩
  · cases q
  · simp only [Value.slice.injEq, Option.some.injEq, Addr.mk.injEq] at e
    obtain ⟨⟨rfl, _⟩, _, rfl⟩ := e
    refine ⟨cur, h3, by omega, h4, h5, fun i hi => ?_⟩
    have := map_getD_bv hi
    rw [← h7, List.getElem?_take, if_pos (by omega), Array.getElem?_toList] at this
    exact this

theorem BytesAt.nil (w : World) : BytesAt w (.slice none 0 0) [] := ⟨none, 0, rfl, fun h => absurd h (by simp)⟩
theorem RowsAt.nil (w : World) : RowsAt w (.slice none 0 0) [] := ⟨none, 0, rfl, fun h => absurd h (by simp)⟩
theorem BytesAt.kept {S : Nat → Prop} (h : BytesAt w v l) (hk : Kept S w w') (hS : ∀ k, k < w.heap.size → ¬ S k) : BytesAt w' v l := by
  obtain ⟨p, cap, rfl, hh⟩ := h
  refine ⟨p, cap, rfl, fun hl => ?_⟩
  obtain ⟨g, off, rfl, hc⟩ := hh hl
  have hlt := World.block_lt_of_cell? w _ (hc 0 hl)
  exact ⟨g, off, rfl, fun i hi => (hk.cell (p := ⟨g, off + i, none⟩) hlt (hS g hlt)).trans (hc i hi)⟩
/-- .. of a slice whose block does not turn. -/
theorem BytesAt.kept1 {S : Nat → Prop} (h : BytesAt w v l) (hk : Kept S w w') (hS : ∀ k, v.ownBlock = some k → ¬ S k) : BytesAt w' v l := by
  obtain ⟨p, cap, rfl, hh⟩ := h
  refine ⟨p, cap, rfl, fun hl => ?_⟩
  obtain ⟨g, off, rfl, hc⟩ := hh hl
  have hlt := World.block_lt_of_cell? w _ (hc 0 hl)
  exact ⟨g, off, rfl, fun i hi => (hk.cell (p := ⟨g, off + i, none⟩) hlt (hS g rfl)).trans (hc i hi)⟩
theorem BytesAt.below (h : BytesAt w v l) (hb : Below w.heap.size w w') : BytesAt w' v l := h.kept (Kept.below hb) (fun _ _ h => h)
theorem RowsAt.kept {S : Nat → Prop} (h : RowsAt w v ls) (hk : Kept S w w') (hS : ∀ k, k < w.heap.size → ¬ S k) : RowsAt w' v ls := by
  obtain ⟨p, cap, rfl, hh⟩ := h
  refine ⟨p, cap, rfl, fun hl => ?_⟩
  obtain ⟨g, off, rfl, hc⟩ := hh hl
  obtain ⟨_, hc0, _⟩ := hc 0 hl
  have hlt := World.block_lt_of_cell? w _ hc0
  refine ⟨g, off, rfl, fun i hi => ?_⟩
  obtain ⟨u, hu, hb⟩ := hc i hi
  exact ⟨u, (hk.cell (p := ⟨g, off + i, none⟩) hlt (hS g hlt)).trans hu, hb.kept hk hS⟩
theorem RowsAt.below (h : RowsAt w v ls) (hb : Below w.heap.size w w') : RowsAt w' v ls := h.kept (Kept.below hb) (fun _ _ h => h)
theorem BytesAt.dr (h : BytesAt w v l) (n : Nat) : BytesAt (w.drewN n) v l := h
theorem RowsAt.dr (h : RowsAt w v ls) (n : Nat) : RowsAt (w.drewN n) v ls := h

theorem getD_snoc_lt {α : Type} {l : List α} {x d : α} {i : Nat} (h : i < l.length) : (l ++ [x]).getD i d = l.getD i d := by
  rw [List.getD_eq_getElem?_getD, List.getD_eq_getElem?_getD, List.getElem?_append_left h]
theorem getD_snoc_last {α : Type} {l : List α} {x d : α} : (l ++ [x]).getD l.length d = x := by
  rw [List.getD_eq_getElem?_getD]; simp

/-- A row of bytes that a call owns. -/
theorem BytesAt.of_owns {base : Nat} (h : w.ownsRow base 5 1 v l.length (l.map bv)) : BytesAt w v l := by
  obtain ⟨h0, h1⟩ := h
  rcases h1 with ⟨rfl, hz⟩ | ⟨g, cap, cur, rfl, h2, h3, h4, h5, h6, h7⟩
  · exact ⟨none, 0, by rw [hz], fun hl => by omega⟩
  · refine ⟨_, cap, rfl, fun _ => ⟨g, 0, rfl, fun i hi => ?_⟩⟩
    have := map_getD_bv hi
    rw [← h7, List.getElem?_take, if_pos (by omega), Array.getElem?_toList] at this
    simp [World.cell?, h3, this]
/-- Rows of bytes that a call owns, each in its place. -/
theorem RowsAt.of_owns {base : Nat} {us : List Value} (h : w.ownsRow base 39 1 v ls.length us) (hu : ∀ i u, us[i]? = some u → BytesAt w u (ls.getD i [])) : RowsAt w v ls := by
  obtain ⟨h0, h1⟩ := h
  rcases h1 with ⟨rfl, hz⟩ | ⟨g, cap, cur, rfl, h2, h3, h4, h5, h6, h7⟩
  · exact ⟨none, 0, by rw [hz], fun hl => by omega⟩
  · refine ⟨_, cap, rfl, fun _ => ⟨g, 0, rfl, fun i hi => ?_⟩⟩
    have hi' : i < us.length := by omega
    refine ⟨us[i], ?_, hu i _ (List.getElem?_eq_getElem hi')⟩
    have : us[i]? = some us[i] := List.getElem?_eq_getElem hi'
    conv at this => lhs; rw [← h7]
    rw [List.getElem?_take, if_pos (by omega), Array.getElem?_toList] at this
    simp [World.cell?, h3, this]
end

theorem infoB : (Tryz.prog.info? 5).map (fun i => (i.zero, i.size, i.bytes)) = some (some (.int .u8 0), 1, 1) := by kernel_rfl
theorem infoR : (Tryz.prog.info? 39).map (fun i => (i.zero, i.size, i.bytes)) = some (some (.slice none 0 0), 1, 24) := by kernel_rfl
end -- CodeM

section -- CodeN
open Go.RowKit Go.Maps
set_option linter.unusedVariables false

theorem add_off (g o j : Nat) : (⟨g, o, none⟩ : Addr).add j = ⟨g, o + j, none⟩ := by
  unfold Addr.add
  split <;> simp_all
theorem add_zero_off (g j : Nat) : (⟨g, 0, none⟩ : Addr).add j = ⟨g, j, none⟩ := by
  unfold Addr.add
  split <;> simp_all

/-- What an append makes: the row is where it was, or in a new block. -/
theorem run_app {P : Program} {w : World} (base : Nat) (t ty e : TypeId) (i : TypeInfo) (z : Value) (ht : P.underlying t = some (.slice e)) (hi : P.info? e = some i) (hz : i.zero = some z) (hzs : z.cells.size = i.size)
    (v : Value) (n : Nat) (us : List Value) (hown : w.ownsRow base e i.size v n us) (g off : Nat) (m c : Nat) (news : List Value) (hl : news.length = m * i.size) (hm : 0 < m) (hnews : ∀ j u, news[j]? = some u → w.cell? ((⟨g, off, none⟩ : Addr).add j) = some u)
    (h1 : ∀ u ∈ news, u.oneCell' = true) (h63 : n + m ≤ 9223372036854775807) (hbytes : (n + m) * i.bytes ≤ 140737488355328) (hbase : base ≤ w.heap.size) :
    ∃ g' c' w', (Builtin.append_ #[t, t] ty #[v, .slice (some ⟨g, off, none⟩) m c]).run P w = .ok (.slice (some ⟨g', 0, none⟩) (n + m) c') w' ∧ w'.ownsRow base e i.size (.slice (some ⟨g', 0, none⟩) (n + m) c') (n + m) (us ++ news) ∧
      Kept (fun k => v.ownBlock = some k) w w' ∧ (v.ownBlock = some g' ∨ w.heap.size ≤ g') := by
  have hlen : (us ++ news).length = (n + m) * i.size := by rw [List.length_append, hown.1, hl, Nat.add_mul]
  have fresh : ∀ (old : Nat), (w.drew.alloc (.cells (us.toArray ++ news.toArray ++ Builtin.zeroCells z.cells (grownCap w (n + m) old e - (n + m))) e)).ownsRow base e i.size
        (.slice (some ⟨w.heap.size, 0, none⟩) (n + m) (grownCap w (n + m) old e)) (n + m) (us ++ news) := by
    intro old
    have hge := grownCap_ge w (n + m) old e
    refine ⟨hlen, .inr ⟨w.heap.size, _, _, rfl, hbase, heap_alloc_new w.drew _, hge, grownCap_le_maxLen w (n + m) old e (by unfold maxLen; omega), ?_, ?_⟩⟩
    · simp only [Array.size_append, List.size_toArray, size_zeroCells, hzs, hown.1, hl, ← Nat.add_mul]
      congr 1
      omega
    · simp only [Array.toList_append, List.append_assoc]
      rw [← List.append_assoc, ← hlen]
      exact List.take_left
  have keep : ∀ o, Kept (fun k => v.ownBlock = some k) w (w.drew.alloc o) := fun o => ⟨rfl, rfl, rfl, by simp, fun k hk _ => Below.heap_alloc w.drew _ k hk⟩
  rcases hown.2 with ⟨rfl, rfl⟩ | ⟨g0, cap, cur, rfl, hbg, hg, hnc, hcm, hcs, htake⟩
  · have hx : us = [] := List.eq_nil_of_length_eq_zero (by simpa using hown.1)
    subst hx
    have hr := run_append_nil (P := P) w t ty e i z ht hi hz ⟨g, off, none⟩ m c news hl hnews hm (by omega) (by have hb := hbytes; simp only [Nat.zero_add] at hb; omega)
    have hf := fresh 0
    simp only [Nat.zero_add, List.nil_append, Array.empty_append] at hf ⊢
    exact ⟨_, _, _, hr, hf, keep _, .inr (Nat.le_refl _)⟩
  · by_cases hroom : n + m ≤ cap
    · have hfit : n * i.size + news.length ≤ cur.size := by rw [hl, hcs, ← Nat.add_mul]; exact Nat.mul_le_mul_right _ hroom
      refine ⟨_, _, _, run_append_room (P := P) w t ty e i ht hi g0 n cap cur hg ⟨g, off, none⟩ m c news hl hnews h1 hroom hfit, ⟨hlen, .inr ⟨g0, cap, _, rfl, hbg, setRow_heap w g0 cur _ e _ hg, hroom, hcm, ?_, ?_⟩⟩,
        ⟨rfl, rfl, rfl, by simp, fun k _ hk => setRow_other w g0 k _ (fun e => hk (by simp [Value.ownBlock, e]))⟩, .inl rfl⟩
      · simp only [List.size_toArray, List.length_append, List.length_take, List.length_drop, Array.length_toList]
        omega
      · rw [htake, ← hlen]
        exact List.take_left
    · have holds : ∀ j u, us[j]? = some u → w.cell? ((⟨g0, 0, none⟩ : Addr).add j) = some u := hown.cells (g := g0) rfl
      exact ⟨_, _, _, run_append_grow (P := P) w t ty e i z ht hi hz ⟨g0, 0, none⟩ n cap us hown.1 holds ⟨g, off, none⟩ m c news hl hnews (by omega) (by omega) (growslice_fits (by omega) hbytes), fresh cap, keep _, .inr (Nat.le_refl _)⟩

/-- Append of one element that stands in the newest block. -/
theorem app_el {ops : Array Oper} {rest : List Oper} {o : Oper} {a : Act} {Q : Exit → Act → World → Prop} {W : World} (t e : TypeId) (size bytes : Nat) (z : Value) (ht : Tryz.prog.underlying t = some (.slice e))
    (hinfo : (Tryz.prog.info? e).map (fun i => (i.zero, i.size, i.bytes)) = some (some z, size, bytes)) (hzs : z.cells.size = size) (hby : bytes ≤ 64)
    (hgd : o.guard = none) (s x : Operand) (ho : o.op = .call { callee := .builtin .append, args := #[s, x], argTypes := #[t, t] })
    (base n : Nat) (v : Value) (us : List Value) (hs : a.eval s = v) (hown : W.ownsRow base e size v n us) (news : List Value) (hl : news.length = size) (h1 : ∀ u ∈ news, u.oneCell' = true)
    (hx : a.eval x = .slice (some ⟨W.heap.size, 0, none⟩) 1 1) (hn : n < 1000000000000) (hbase : base ≤ W.heap.size)
    (h : ∀ g' c' w', w'.ownsRow base e size (.slice (some ⟨g', 0, none⟩) (n + 1) c') (n + 1) (us ++ news) → Kept (fun k => v.ownBlock = some k) W w' → W.heap.size < w'.heap.size → (v.ownBlock = some g' ∨ W.heap.size < g') →
      wpList Tryz.prog ops Q rest (a.put o.dst (.slice (some ⟨g', 0, none⟩) (n + 1) c')) w') : wpList Tryz.prog ops Q (o :: rest) a (W.alloc (.cells news.toArray e)) := by
  obtain ⟨i, hi, hz, hsize, hbytes⟩ := info_parts hinfo
  subst hsize
  subst hbytes
  obtain ⟨g', c', w', hr, h2, h3, h4⟩ := run_app (P := Tryz.prog) (w := W.alloc (.cells news.toArray e)) base t o.type e i z ht hi hz hzs v n us (hown.alloc _) W.heap.size 0 1 1 news (by omega) (by omega) (fun j u hj => by
      rw [add_zero_off]
      exact (World.cell?_alloc_new W news.toArray e j).trans (by simpa using hj)) h1 (by omega) (by have := Nat.mul_le_mul_left (n + 1) hby; omega) (by simp; omega)
  refine wpList_plain hgd fun K hK => ?_
  have h5 := h g' c' w' h2 ⟨h3.os, h3.tape, h3.output, Nat.le_trans (by simp) h3.size, fun k hk hn => (h3.block k (by simp; omega) hn).trans (Below.heap_alloc W _ k hk)⟩
    (Nat.lt_of_lt_of_le (by simp) h3.size) (h4.imp id (fun q => by simp at q; omega))
  unfold Oper.wp execOp
  simp only [ho, resolve, invoke, builtin, Sem.run_bind, Sem.run_pure, Result.andThen_ok, List.map_toArray, List.map_cons, List.map_nil, hs, hx, hr]
  exact hK _ _ h5

/-- Append of bytes. -/
theorem app_bytes {ops : Array Oper} {rest : List Oper} {o : Oper} {a : Act} {Q : Exit → Act → World → Prop} {W : World} (t : TypeId) (ht : Tryz.prog.underlying t = some (.slice 5))
    (hgd : o.guard = none) (s x : Operand) (ho : o.op = .call { callee := .builtin .append, args := #[s, x], argTypes := #[t, t] })
    (base n m : Nat) (v : Value) (l1 l2 : List B) (hn : l1.length = n) (hm : l2.length = m) (hs : a.eval s = v) (hown : W.ownsRow base 5 1 v n (l1.map bv)) (g off c : Nat)
    (hx : a.eval x = .slice (some ⟨g, off, none⟩) m c) (hc : ∀ i, i < m → W.cell? ⟨g, off + i, none⟩ = some (bv (l2.getD i 0))) (hm0 : 0 < m) (hnm : n + m < 1000000000000) (hbase : base ≤ W.heap.size)
    (h : ∀ g' c' w', RowC w' g' c' (l1 ++ l2) → base ≤ g' → Kept (fun k => v.ownBlock = some k) W w' → (v.ownBlock = some g' ∨ W.heap.size ≤ g') →
      wpList Tryz.prog ops Q rest (a.put o.dst (.slice (some ⟨g', 0, none⟩) (n + m) c')) w') : wpList Tryz.prog ops Q (o :: rest) a W := by
  obtain ⟨i, hi, hz, hsize, hbytes⟩ := info_parts infoB
  have hown' : W.ownsRow base 5 i.size v n (l1.map bv) := by rw [hsize]; exact hown
  obtain ⟨g', c', w', hr, h2, h3, h4⟩ := run_app (P := Tryz.prog) (w := W) base t o.type 5 i (.int .u8 0) ht hi hz (by rw [hsize]; rfl) v n (l1.map bv) hown' g off m c (l2.map bv) (by simp [hsize, hm]) hm0 (fun j u hj => by
      have hjm : j < l2.length := by
        have := (List.getElem?_eq_some_iff.1 hj).1
        simpa using this
      rw [add_off, hc j (by omega)]
      rw [map_getD_bv hjm] at hj
      exact hj) (fun v hv => by obtain ⟨x, _, rfl⟩ := List.mem_map.1 hv; rfl) (by omega) (by rw [hbytes]; omega) hbase
  rw [hsize, ← List.map_append] at h2
  have h2' : w'.ownsRow base 5 1 (.slice (some ⟨g', 0, none⟩) (l1 ++ l2).length c') (l1 ++ l2).length ((l1 ++ l2).map bv) := by rw [List.length_append, hn, hm]; exact h2
  refine wpList_plain hgd fun K hK => ?_
  have h5 := h g' c' w' (RowC.of_owns h2') (h2.lt g' rfl).1 h3 h4
  unfold Oper.wp execOp
  simp only [ho, resolve, invoke, builtin, Sem.run_bind, Sem.run_pure, Result.andThen_ok, List.map_toArray, List.map_cons, List.map_nil, hs, hx, hr]
  exact hK _ _ h5

theorem ownsRow_keptS {w w' : World} {base size k : Nat} {e : TypeId} {v : Value} {xs : List Value} {S : Nat → Prop} (h : w.ownsRow base e size v k xs) (hk : Kept S w w') (hS : ∀ g, v.ownBlock = some g → ¬ S g) : w'.ownsRow base e size v k xs := by
  refine ⟨h.1, ?_⟩
  rcases h.2 with hn | ⟨g, cap, cur, rfl, hb, hgg, rest⟩
  · exact .inl hn
  · exact .inr ⟨g, cap, cur, rfl, hb, (hk.block g (Array.getElem?_eq_some_iff.1 hgg).1 (hS g rfl)).trans hgg, rest⟩

theorem q_add {P : Program} {f : FuncId} {args : Array Value} {w : World} {a n : Nat} {v : Value}
    (h : Calls P f args (w.drewN (a + n)) fun e w' => e = .returned v ∧ ∃ m, w' = (w.drewN (a + n)).drewN m) :
    Calls P f args (w.drewN (a + n)) fun e w'' => e = .returned v ∧ ∃ m, w'' = w.drewN (a + m) :=
  h.mono fun _ _ ⟨he, m, hm⟩ => ⟨he, n + m, by rw [hm, World.drewN_drewN, Nat.add_assoc]⟩
theorem q_add_same {P : Program} {f : FuncId} {args : Array Value} {w : World} {a n : Nat} {v : Value}
    (h : Calls P f args (w.drewN (a + n)) fun e w' => e = .returned v ∧ w.drewN (a + n) = w') :
    Calls P f args (w.drewN (a + n)) fun e w'' => e = .returned v ∧ ∃ m, w'' = w.drewN (a + m) :=
  h.mono fun _ _ ⟨he, hm⟩ => ⟨he, n, hm.symm⟩
theorem q_one {P : Program} {f : FuncId} {args : Array Value} {w : World} {n : Nat} {v : Value}
    (h : Calls P f args (w.drewN n) fun e w' => e = .returned v ∧ ∃ m, w' = (w.drewN n).drewN m) :
    Calls P f args (w.drewN n) fun e w'' => e = .returned v ∧ ∃ m, w'' = w.drewN m := Calls.quiet_of h
theorem q_one_same {P : Program} {f : FuncId} {args : Array Value} {w : World} {n : Nat} {v : Value}
    (h : Calls P f args (w.drewN n) fun e w' => e = .returned v ∧ w.drewN n = w') :
    Calls P f args (w.drewN n) fun e w'' => e = .returned v ∧ ∃ m, w'' = w.drewN m :=
  h.mono fun _ _ ⟨he, hm⟩ => ⟨he, n, hm.symm⟩

theorem heap_set {w : World} {b i : Nat} {C : Array Value} {t : TypeId} {fr : Nat × Nat} (h : w.heap[b]? = some (.cells C t fr)) (u : Value) : (w.setCell ⟨b, i, none⟩ u).heap[b]? = some (.cells (C.setIfInBounds i u) t fr) := by
  simp [World.setCell, Array.getElem?_modify, h]
theorem cell_of {w : World} {b : Nat} {C : Array Value} {t : TypeId} {fr : Nat × Nat} (h : w.heap[b]? = some (.cells C t fr)) (i : Nat) : w.cell? ⟨b, i, none⟩ = C[i]? := by simp [World.cell?, h]
theorem fz_of {w : World} {b : Nat} {C : Array Value} {t : TypeId} (h : w.heap[b]? = some (.cells C t (0, 0))) (i : Nat) : w.frozen? ⟨b, i, none⟩ = false := by simp [World.frozen?, h]
theorem Kept.setAt {S : Nat → Prop} (w : World) {p : Addr} (hp : S p.block) (u : Value) : Kept S w (w.setCell p u) := (Kept.refl S w).setCell' hp u

theorem Kept.set1 (w : World) (b i : Nat) (u : Value) : Kept (fun k => k = b) w (w.setCell ⟨b, i, none⟩ u) := Kept.setCell' (S := fun k => k = b) (Kept.refl _ w) (p := ⟨b, i, none⟩) rfl u

/-- make of so many one-cell elements. -/
theorem run_make_one {w : World} (t e : TypeId) (z : Value) (bytes : Nat) (ht : Tryz.prog.underlying t = some (.slice e)) (hinfo : (Tryz.prog.info? e).map (fun i => (i.zero, i.size, i.bytes)) = some (some z, 1, bytes)) (hz : z.cells = #[z]) (hby : bytes ≤ 64) (n : Nat) (hn : n ≤ 1000000000000) :
    (Instr.makeSlice t (.int .i64 (n : Int)) (.int .i64 (n : Int))).run Tryz.prog w = .ok (.slice (some ⟨w.heap.size, 0, none⟩) n n) (w.alloc (.cells (Array.replicate n z) e)) := by
  obtain ⟨i, hi, hz', hsize, hbytes⟩ := info_parts hinfo
  subst hbytes
  have hb : i.bytes * n ≤ 64 * n := Nat.mul_le_mul_right n hby
  have hb' : (i.bytes : Int) * (n : Int) ≤ 281474976710656 := by
    have h : ((i.bytes * n : Nat) : Int) ≤ 281474976710656 := by omega
    rwa [Int.natCast_mul] at h
  have hr := run_make (P := Tryz.prog) w t e i z ht hi hz' .i64 .i64 n n (by omega) (Int.le_refl _) hb' (by omega)
  simp only [Int.toNat_natCast] at hr
  rw [hr, hsize, Nat.mul_one, hz]
  have : madeCells #[z] n = Array.replicate n z := by
    rw [← Array.toList_inj, toList_madeCells_one, Array.toList_replicate]
  rw [this]

theorem Kept.at1 {w w' : World} {g : Nat} (h : Kept (fun i => i = g) w w') {b : Nat} (o : Nat) (hb : b < w.heap.size) (hn : b ≠ g) : w'.cell? ⟨b, o, none⟩ = w.cell? ⟨b, o, none⟩ := h.cell (p := ⟨b, o, none⟩) hb hn
theorem Kept.at0 {w w' : World} (h : Kept (fun _ => False) w w') {b : Nat} (o : Nat) (hb : b < w.heap.size) : w'.cell? ⟨b, o, none⟩ = w.cell? ⟨b, o, none⟩ := h.cell (p := ⟨b, o, none⟩) hb (fun h => h)

theorem blt {w : World} {b o : Nat} {v : Value} (h : w.cell? ⟨b, o, none⟩ = some v) : b < w.heap.size := World.block_lt_of_cell? w _ h

theorem below_more {B : Nat} {w w1 w2 : World} (h1 : Below B w w1) (h2 : Below w1.heap.size w1 w2) (hB : B ≤ w1.heap.size) : Below B w w2 :=
  h1.trans ⟨h2.os, h2.tape, h2.output, h2.size, fun i hi => h2.block i (Nat.lt_of_lt_of_le hi hB)⟩
theorem ownsRow_weaken {w : World} {base base' size k : Nat} {e : TypeId} {v : Value} {xs : List Value} (h : w.ownsRow base e size v k xs) (hb : base' ≤ base) : w.ownsRow base' e size v k xs := by
  refine ⟨h.1, ?_⟩
  rcases h.2 with hn | ⟨g, cap, cur, rfl, hbb, rest⟩
  · exact .inl hn
  · exact .inr ⟨g, cap, cur, rfl, Nat.le_trans hb hbb, rest⟩

theorem bne_cast (n m : Nat) : ((n : Int) != (m : Int)) = (n != m) := by rw [Bool.eq_iff_iff]; simp; omega
theorem beq_cast (n m : Nat) : ((n : Int) == (m : Int)) = (n == m) := by rw [Bool.eq_iff_iff]; simp; omega

theorem map_snoc_bv (l : List B) (x : B) : l.map bv ++ [bv x] = (l ++ [x]).map bv := by simp
theorem one_bv (x : B) : ∀ u ∈ [Value.int .u8 ((x.v : Nat) : Int)], u.oneCell' = true := by simp [Value.oneCell']
theorem one_slice (p : Option Addr) (n c : Nat) : ∀ u ∈ [Value.slice p n c], u.oneCell' = true := by simp [Value.oneCell']
end -- CodeN

end Go.Proofs.YtojbbmfndlcgkaaGreat
