/-
  CodeI: Walks of layer 1 (field): is, Add, Mul, Inv, Div.
  CodePa: Weights as the program makes them; sums of rows: plain.
-/
import Derived.Test.YtanjchpkekehgaaGreatCodeH
import Derived.Test.YtanjchpkekehgaaGreatKept
namespace Go.Proofs.YtanjchpkekehgaaGreat

section -- CodeI
open Go.RowKit Go.Maps

set_option maxRecDepth 100000
set_option maxHeartbeats 2000000

/-- A byte, as a value. -/
abbrev bv (x : B) : Value := .int .u8 ((x.v : Nat) : Int)

/-- The field lies at block b. -/
def FieldAt (w : World) (b : Nat) : Prop := ∃ C : Array Value, w.heap[b]? = some (.cells C 147 (0, 0)) ∧ C.size = 767 ∧ (∀ i : Nat, i < 510 → C[i]? = some (.int .u8 ((expN (i % 255) : Nat) : Int))) ∧ (∀ a : Nat, a < 256 → C[510 + a]? = some (.int .u8 ((logN a : Nat) : Int))) ∧ C[766]? = some (.bool true)

section
variable {w w' : World} {b : Nat}
theorem FieldAt.ex (h : FieldAt w b) {i : Nat} (hi : i < 510) : w.cell? ⟨b, i, none⟩ = some (.int .u8 ((expN (i % 255) : Nat) : Int)) := by
  obtain ⟨C, h1, h2, h3, h4, h5⟩ := h
  simp [World.cell?, h1, h3 i hi]
theorem FieldAt.lg (h : FieldAt w b) {a : Nat} (ha : a < 256) : w.cell? ⟨b, 510 + a, none⟩ = some (.int .u8 ((logN a : Nat) : Int)) := by
  obtain ⟨C, h1, h2, h3, h4, h5⟩ := h
  simp [World.cell?, h1, h4 a ha]
theorem FieldAt.th (h : FieldAt w b) : w.cell? ⟨b, 766, none⟩ = some (.bool true) := by
  obtain ⟨C, h1, h2, h3, h4, h5⟩ := h
  simp [World.cell?, h1, h5]
theorem FieldAt.lt (h : FieldAt w b) : b < w.heap.size := by
  obtain ⟨C, h1, _⟩ := h
  exact (Array.getElem?_eq_some_iff.1 h1).1
theorem FieldAt.kept {S : Nat → Prop} (h : FieldAt w b) (hk : Kept S w w') (hS : ¬ S b) : FieldAt w' b := by
  obtain ⟨C, h1, h2⟩ := h
  exact ⟨C, (hk.block b (Array.getElem?_eq_some_iff.1 h1).1 hS).trans h1, h2⟩
end

theorem Kept.drewN {S : Nat → Prop} {a w : World} (h : Kept S a w) (n : Nat) : Kept S a (w.drewN n) := ⟨h.os, h.tape, h.output, h.size, h.block⟩
theorem is_yes (w : World) (b : Nat) (h : FieldAt w b) :
    Calls Tryz.prog 112 #[.pointer (some ⟨b, 0, none⟩)] w fun e w' => e = .returned (.bool true) ∧ w = w' := by
  have d := h.th
  clear h
  go_enter Tryz.func112, Tryz.ntmps112
  go_wp2
  go_ret
  exact ⟨rfl, rfl⟩

theorem fadd_any (w : World) (x y : B) :
    Calls Tryz.prog 93 #[bv x, bv y] w fun e w' => e = .returned (bv (x + y)) ∧ w = w' := by
  have h := u8_xor_nat x.v y.v x.lt y.lt
  unfold bv
  go_enter Tryz.func93, Tryz.ntmps93
  go_wp2
  go_ret
  exact ⟨rfl, rfl⟩

theorem fmul_any (w : World) (b : Nat) (h : FieldAt w b) (x y : B) :
    Calls Tryz.prog 94 #[.pointer (some ⟨b, 0, none⟩), bv x, bv y] w fun e w' => e = .returned (bv (x * y)) ∧ ∃ n, w' = w.drewN n := by
  have HH := Lib.hid h
  unfold bv
  by_cases hx : x.v = 0
  · have hz : (x * y).v = 0 := by rw [B.mul_v, hx, zero_mulN]
    rw [hx, hz]
    clear h
    go_enter Tryz.func94, Tryz.ntmps94
    go_wp2_with fail
    refine (is_yes _ b HH.out).mono ?_
    rintro e w' ⟨rfl, rfl⟩
    go_wp2
    go_ret
    exact ⟨rfl, 0, rfl⟩
  · by_cases hy : y.v = 0
    · have hz : (x * y).v = 0 := by rw [B.mul_v, hy, mulN_zero]
      have hx1 : (((x.v : Nat) : Int) == 0) = false := by simp; omega
      rw [hy, hz]
      clear h
      go_enter Tryz.func94, Tryz.ntmps94
      go_wp2_with fail
      refine (is_yes _ b HH.out).mono ?_
      rintro e w' ⟨rfl, rfl⟩
      go_wp2
      go_ret
      exact ⟨rfl, 0, rfl⟩
    · have hx1 : (((x.v : Nat) : Int) == 0) = false := by simp; omega
      have hy1 : (((y.v : Nat) : Int) == 0) = false := by simp; omega
      have lx := (log_facts (a := x.v) (by omega) x.lt).1
      have ly := (log_facts (a := y.v) (by omega) y.lt).1
      have dx := h.lg x.lt
      have dy := h.lg y.lt
      have de := h.ex (i := logN x.v + logN y.v) (by omega)
      have hz : (x * y).v = expN ((logN x.v + logN y.v) % 255) := by rw [B.mul_v]; unfold mulN; rw [if_neg (by omega)]
      rw [hz]
      have bx := x.lt
      have bY := y.lt
      generalize expN ((logN x.v + logN y.v) % 255) = z at *
      generalize logN x.v = p at *
      generalize logN y.v = q at *
      generalize x.v = xx at *
      generalize y.v = yy at *
      clear h hz
      go_enter Tryz.func94, Tryz.ntmps94
      go_wp2_with fail
      refine (is_yes _ b HH.out).mono ?_
      rintro e w' ⟨rfl, rfl⟩
      go_wp2_with fail
      go_quiet (fail)
      go_wp2
      go_ret
      exact ⟨rfl, _, rfl⟩
end -- CodeI

section -- CodePa
set_option linter.unusedVariables false

theorem pr_snoc : ∀ (l : List B) (a x : B), pr (l ++ [a]) x = pr l x * (x + a)
  | [], a, x => by show (x + a) * 1 = 1 * (x + a); grind
  | b :: l, a, x => by
    show (x + b) * pr (l ++ [a]) x = (x + b) * pr l x * (x + a)
    rw [pr_snoc l a x]; grind

/-- The product of the distances from the first m points, that number k left out. -/
def pS (xs : List B) (k : Nat) (x : B) : Nat → B
  | 0 => 1
  | m + 1 => if m = k then pS xs k x m else pS xs k x m * (x + xs.getD m 0)

theorem take_snocD {xs : List B} {m : Nat} (h : m < xs.length) : xs.take (m + 1) = xs.take m ++ [xs.getD m 0] := by
  rw [List.take_succ_eq_append_getElem h, List.getD_eq_getElem?_getD, List.getElem?_eq_getElem h]; rfl

theorem pS_eq (xs : List B) (k : Nat) (x : B) : ∀ m, m ≤ xs.length → pS xs k x m = pr ((xs.take m).eraseIdx k) x
  | 0, _ => by simp [pS, pr]
  | m + 1, h => by
    have ih := pS_eq xs k x m (by omega)
    have hl : (xs.take m).length = m := by simp; omega
    rw [take_snocD (by omega)]
    show (if m = k then _ else _) = _
    by_cases e : m = k
    · rw [if_pos e, ih, List.eraseIdx_of_length_le (by omega), List.eraseIdx_append_of_length_le (by omega)]
      rw [hl, e, Nat.sub_self]
      simp
    · rw [if_neg e, ih]
      by_cases q : k < m
      · rw [List.eraseIdx_append_of_lt_length (by omega), pr_snoc]
      · rw [List.eraseIdx_of_length_le (by omega), List.eraseIdx_of_length_le (by simp; omega), pr_snoc]

/-- The product of the distances from the first m points. -/
theorem pr_take {xs : List B} {m : Nat} (h : m < xs.length) (x : B) : pr (xs.take (m + 1)) x = pr (xs.take m) x * (x + xs.getD m 0) := by
  rw [take_snocD h, pr_snoc]

theorem pr_out : ∀ (xs : List B) (k : Nat) (x : B), k < xs.length → pr xs x = (x + xs.getD k 0) * pr (xs.eraseIdx k) x
  | a :: l, 0, x, _ => by simp [pr]
  | a :: l, k + 1, x, h => by
    have := pr_out l k x (by simpa using h)
    show (x + a) * pr l x = (x + l.getD k 0) * ((x + a) * pr (l.eraseIdx k) x)
    rw [this]; grind

theorem B.inv_one : (1 : B).inv = 1 := by decide
theorem B.mul_inv_eq {a b c : B} (hb : b ≠ 0) (h : c * b = a) : a * b.inv = c := by
  have := B.mul_inv hb
  rw [← h]
  grind
theorem B.inv_ne {a : B} (h : a ≠ 0) : a.inv ≠ 0 := fun e => by
  have := B.mul_inv h
  rw [e] at this
  exact B.one_ne (by grind)

/-- The products of each point's distances from the others. -/
def apartL (xs : List B) : List B := (List.range xs.length).map fun k => pr (xs.eraseIdx k) (xs.getD k 0)
/-- The weights. -/
def wtsL (xs : List B) (x : B) : List B := (List.range xs.length).map fun k => lag xs k x

theorem apartL_len (xs : List B) : (apartL xs).length = xs.length := by simp [apartL]
theorem wtsL_len (xs : List B) (x : B) : (wtsL xs x).length = xs.length := by simp [wtsL]

theorem getD_range {α : Type} {n k : Nat} (f : Nat → α) (d : α) (h : k < n) : ((List.range n).map f).getD k d = f k := by
  rw [List.getD_eq_getElem?_getD]; simp [h]

theorem wtsL_get {xs : List B} {x : B} {k : Nat} (h : k < xs.length) : (wtsL xs x).getD k 0 = lag xs k x := getD_range _ _ h

/-- The weight, as it is worked out. -/
theorem lag_div {xs : List B} (hn : xs.Nodup) {x : B} (hx : x ∉ xs) {k : Nat} (hk : k < xs.length) :
    pr xs x * ((x + xs.getD k 0) * pr (xs.eraseIdx k) (xs.getD k 0)).inv = lag xs k x := by
  have h1 : x + xs.getD k 0 ≠ 0 := fun e => hx (by
    rw [B.add_eq_zero e, List.getD_eq_getElem?_getD, List.getElem?_eq_getElem hk]
    exact List.getElem_mem hk)
  have h2 := pr_ne (nodup_erase hn hk)
  refine B.mul_inv_eq (B.mul_ne h1 h2) ?_
  rw [pr_out xs k x hk]
  unfold lag
  have := B.mul_inv h2
  grind
theorem lag_ne {xs : List B} (hn : xs.Nodup) {x : B} (hx : x ∉ xs) {k : Nat} (hk : k < xs.length) : (x + xs.getD k 0) * pr (xs.eraseIdx k) (xs.getD k 0) ≠ 0 := by
  refine B.mul_ne (fun e => hx ?_) (pr_ne (nodup_erase hn hk))
  rw [B.add_eq_zero e, List.getD_eq_getElem?_getD, List.getElem?_eq_getElem hk]
  exact List.getElem_mem hk

theorem wtsL_unit {xs : List B} (hn : xs.Nodup) {k : Nat} (hk : k < xs.length) : wtsL xs (xs.getD k 0) = (List.replicate xs.length 0).set k 1 := by
  apply List.ext_getElem
  · simp [wtsL]
  · intro i h1 h2
    simp [wtsL] at h1
    rw [List.getElem_set]
    simp only [wtsL, List.getElem_map, List.getElem_range, List.getElem_replicate]
    by_cases e : k = i
    · subst e; rw [if_pos rfl, lag_self hn hk]
    · rw [if_neg e, lag_other hk e]

/-- The first bytes. -/
def ofB (n : Nat) : B := ⟨n % 256, by omega⟩
def ptsL (k : Nat) : List B := (List.range k).map ofB
theorem ptsL_len (k : Nat) : (ptsL k).length = k := by simp [ptsL]
theorem ptsL_get {k i : Nat} (h : i < k) : (ptsL k).getD i 0 = ofB i := getD_range _ _ h
theorem ofB_inj {i j : Nat} (hi : i < 256) (hj : j < 256) (h : ofB i = ofB j) : i = j := by
  have := congrArg B.v h
  simp only [ofB] at this
  omega
theorem map_ofB_nodup {l : List Nat} (hl : ∀ i ∈ l, i < 256) (hn : l.Nodup) : (l.map ofB).Nodup := by
  rw [List.nodup_iff_pairwise_ne, List.pairwise_map]
  exact (List.nodup_iff_pairwise_ne.1 hn).imp_of_mem (fun ha hb hne e => hne (ofB_inj (hl _ ha) (hl _ hb) e))
theorem ptsL_nodup {k : Nat} (hk : k ≤ 256) : (ptsL k).Nodup := map_ofB_nodup (fun i hi => by have := List.mem_range.1 hi; omega) List.nodup_range

/-- A sum of rows, each by a weight. -/
def mixL (ws : List B) (l : List (List B)) (wide : Nat) : List B := (List.range wide).map fun i => sm ws.length fun k => (l.getD k []).getD i 0 * ws.getD k 0
theorem mixL_len (ws : List B) (l : List (List B)) (wide : Nat) : (mixL ws l wide).length = wide := by simp [mixL]
theorem mixL_get {ws : List B} {l : List (List B)} {wide i : Nat} (h : i < wide) : (mixL ws l wide).getD i 0 = sm ws.length fun k => (l.getD k []).getD i 0 * ws.getD k 0 := getD_range _ _ h

/-- The symbols. -/
def encL (n k : Nat) (l : List (List B)) (wide : Nat) : List (List B) := (List.range n).map fun i => mixL (wtsL (ptsL k) (ofB i)) l wide
/-- The source of symbols. -/
def turnL (k : Nat) (ys : List B) : List (List B) := (List.range k).map fun r => wtsL ys (ofB r)
def decL (k : Nat) (ys : List B) (l : List (List B)) (wide : Nat) : List (List B) := (turnL k ys).map fun ws => mixL ws l wide

/-- A column, as a polynomial. -/
theorem column (xs : List B) (c : Nat → B) : ∃ p : List B, p.length ≤ xs.length ∧ (∀ x, ev p x = sm xs.length fun k => c k * lag xs k x) := by
  refine ⟨smP xs.length fun k => scP (c k) (lagC xs k), smP_len _ _ _ (fun i hi => by rw [scP_len, lagC_len hi]; exact Nat.le_refl _), fun x => ?_⟩
  rw [smP_ev]
  exact sm_congr (fun i _ => by rw [scP_ev, lagC_ev])

/-- Any symbols tell those of the source. -/
theorem through {xs ys : List B} (hx : xs.Nodup) (hy : ys.Nodup) (hl : ys.length = xs.length) (c : Nat → B) (x : B) :
    (sm ys.length fun s => (sm xs.length fun k => c k * lag xs k (ys.getD s 0)) * lag ys s x) = sm xs.length fun k => c k * lag xs k x := by
  obtain ⟨p, hp, he⟩ := column xs c
  have := exactly (xs := ys) (p := p) hy (by omega) x
  rw [he x] at this
  rw [← this]
  exact sm_congr (fun i _ => by rw [he]; grind)

theorem sm_unit {xs : List B} (hn : xs.Nodup) (c : Nat → B) {r : Nat} (hr : r < xs.length) : (sm xs.length fun k => c k * lag xs k (xs.getD r 0)) = c r := by
  rw [sm_one hr (fun i hi hne => by rw [lag_other hr (fun e => hne e.symm)]; grind), lag_self hn hr]; grind
end -- CodePa

end Go.Proofs.YtanjchpkekehgaaGreat
