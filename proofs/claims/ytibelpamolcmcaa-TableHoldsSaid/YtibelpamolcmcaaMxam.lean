/-
  LayA: Layer 10 (plain): tables, stripes' places, bodies, layers.
  LayB: Layer 10 (plain): the layers of bodies are the layers.
  LayC: Layer 10 (plain): what is held of a stripe; the error of bodies that are held; the example.
-/
import Derived.Test.YtibelpamolcmcaaMxal
import Derived.Test.YtibelpamolcmcaaMxai
namespace Go.Proofs.Ytibelpamolcmcaa

section -- LayA
open Go.RowKit Go.Maps
set_option linter.unusedVariables false
set_option maxRecDepth 100000

/-- The threshold that a row must have at least. -/
def leastT (t : List (Int × Int)) : Nat → Int
  | 0 => 1
  | i + 1 => (t.getD i (0, 0)).1
/-- A row is right, of n, behind one of that threshold. -/
def RowOk (n least : Int) (r : Int × Int) : Prop := least ≤ r.1 ∧ r.1 ≤ n ∧ 0 ≤ r.2 ∧ r.2 ≤ 65535
instance (n least : Int) (r : Int × Int) : Decidable (RowOk n least r) := by unfold RowOk; infer_instance
/-- The first m rows are right. -/
def RowsOk (n : Int) (t : List (Int × Int)) (m : Nat) : Prop := ∀ i, i < m → RowOk n (leastT t i) (t.getD i (0, 0))
instance (n : Int) (t : List (Int × Int)) (m : Nat) : Decidable (RowsOk n t m) := by unfold RowsOk; infer_instance
/-- A table. -/
def TableOk (n : Int) (t : List (Int × Int)) : Prop := 1 ≤ n ∧ n ≤ 255 ∧ 1 ≤ t.length ∧ t.length ≤ 8 ∧ RowsOk n t t.length
instance (n : Int) (t : List (Int × Int)) : Decidable (TableOk n t) := by unfold TableOk; infer_instance
theorem RowsOk.ge {n : Int} {t : List (Int × Int)} {m : Nat} (h : RowsOk n t m) : ∀ i, i < m → 1 ≤ (t.getD i (0, 0)).1 ∧ 1 ≤ leastT t i
  | 0, hi => ⟨(h 0 hi).1, Int.le_refl _⟩
  | i + 1, hi => by
    have h1 := (RowsOk.ge h i (by omega)).1
    have h2 := (h (i + 1) hi).1
    have e : leastT t (i + 1) = (t.getD i (0, 0)).1 := rfl
    rw [e] at h2 ⊢
    exact ⟨by omega, h1⟩
theorem RowsOk.succ {n : Int} {t : List (Int × Int)} {m : Nat} (h : RowsOk n t m) (h1 : RowOk n (leastT t m) (t.getD m (0, 0))) : RowsOk n t (m + 1) := fun i hi => by
  by_cases e : i = m
  · subst e; exact h1
  · exact h i (by omega)
theorem RowsOk.mono {n : Int} {t : List (Int × Int)} {m k : Nat} (h : RowsOk n t m) (hk : k ≤ m) : RowsOk n t k := fun i hi => h i (by omega)

/-- How wide a row's stripe is; where it lies. -/
def wdN (long k : Nat) : Nat := (long + k - 1) / k
def wdT (r : Int × Int) : Nat := wdN r.2.toNat r.1.toNat
def atT (t : List (Int × Int)) (i : Nat) : Nat := ((t.take i).map wdT).sum
theorem atT_zero (t : List (Int × Int)) : atT t 0 = 0 := by simp [atT]
theorem atT_succ {t : List (Int × Int)} {i : Nat} (h : i < t.length) : atT t (i + 1) = atT t i + wdT (t.getD i (0, 0)) := by
  unfold atT
  rw [List.take_add_one, List.getElem?_eq_getElem h, List.map_append, List.sum_append]
  simp [List.getD_eq_getElem?_getD, h]
theorem wdN_lt {long k : Nat} (hk : 1 ≤ k) : wdN long k * k < long + k := by
  unfold wdN
  have := Nat.div_mul_le_self (long + k - 1) k
  omega
theorem wdN_ge {long k : Nat} (hk : 1 ≤ k) : long ≤ wdN long k * k := by
  unfold wdN
  have h1 := Nat.div_add_mod (long + k - 1) k
  have h2 := Nat.mod_lt (long + k - 1) (show 0 < k by omega)
  rw [Nat.mul_comm] at h1
  omega
theorem wdN_le {long k : Nat} (hk : 1 ≤ k) : wdN long k ≤ long := by
  unfold wdN
  rw [Nat.div_le_iff_le_mul_add_pred (by omega)]
  have : long * 1 ≤ long * k := Nat.mul_le_mul_left _ hk
  have e : k * long = long * k := Nat.mul_comm _ _
  omega
/-- The least width by which k rows have room. -/
theorem wdN_unique {long k v : Nat} (hk : 1 ≤ k) (h1 : long ≤ v * k) (h2 : v * k < long + k) : v = wdN long k := by
  have h3 := wdN_lt (long := long) hk
  have h4 := wdN_ge (long := long) hk
  apply Nat.le_antisymm
  · refine Nat.le_of_not_lt fun h => ?_
    have := Nat.mul_le_mul_right k h
    rw [Nat.succ_mul] at this
    omega
  · refine Nat.le_of_not_lt fun h => ?_
    have := Nat.mul_le_mul_right k h
    rw [Nat.succ_mul] at this
    omega

/-- How many layers can be had. -/
def readyT (t : List (Int × Int)) (came : Int) : Nat := (t.takeWhile fun r => decide (r.1 ≤ came)).length
theorem readyT_le (t : List (Int × Int)) (came : Int) : readyT t came ≤ t.length := by
  unfold readyT
  exact (List.takeWhile_sublist _).length_le
theorem takeWhile_at {α : Type} {p : α → Bool} {d : α} : ∀ {l : List α}, (∀ i, i < (l.takeWhile p).length → p (l.getD i d) = true) ∧ ((l.takeWhile p).length < l.length → p (l.getD (l.takeWhile p).length d) = false)
  | [] => ⟨fun i h => by simp at h, fun h => by simp at h⟩
  | x :: l => by
    by_cases hx : p x = true
    · have ih := takeWhile_at (p := p) (d := d) (l := l)
      rw [List.takeWhile_cons_of_pos hx]
      refine ⟨fun i hi => ?_, fun h => ?_⟩
      · cases i with
        | zero => simpa using hx
        | succ i => simpa using ih.1 i (by simpa using hi)
      · simpa using ih.2 (by simpa using h)
    · rw [List.takeWhile_cons_of_neg hx]
      exact ⟨fun i h => by simp at h, fun h => by simpa using hx⟩
theorem readyT_lt {t : List (Int × Int)} {came : Int} {i : Nat} (h : i < readyT t came) : (t.getD i (0, 0)).1 ≤ came := by
  simpa using (takeWhile_at (p := fun (r : Int × Int) => decide (r.1 ≤ came)) (d := (0, 0)) (l := t)).1 i h
theorem readyT_end {t : List (Int × Int)} {came : Int} (h : readyT t came < t.length) : came < (t.getD (readyT t came) (0, 0)).1 := by
  have := (takeWhile_at (p := fun (r : Int × Int) => decide (r.1 ≤ came)) (d := (0, 0)) (l := t)).2 h
  rw [decide_eq_false_iff_not] at this
  exact Int.lt_of_not_ge this
theorem readyT_unique {t : List (Int × Int)} {came : Int} {m : Nat} (hm : m ≤ t.length) (h1 : ∀ i, i < m → (t.getD i (0, 0)).1 ≤ came) (h2 : m < t.length → came < (t.getD m (0, 0)).1) : readyT t came = m := by
  have hle := readyT_le t came
  by_cases a : readyT t came < m
  · have := readyT_end (t := t) (came := came) (by omega)
    have := h1 _ a
    omega
  · by_cases b : m < readyT t came
    · have := readyT_lt b
      have := h2 (by omega)
      omega
    · omega
/-- Thresholds of a table rise. -/
theorem RowsOk.rise {n : Int} {t : List (Int × Int)} {m : Nat} (h : RowsOk n t m) {i : Nat} : ∀ {j : Nat}, i ≤ j → j < m → (t.getD i (0, 0)).1 ≤ (t.getD j (0, 0)).1
  | 0, hij, hj => by obtain rfl : i = 0 := by omega
                     exact Int.le_refl _
  | j + 1, hij, hj => by
    by_cases e : i = j + 1
    · subst e; exact Int.le_refl _
    · have h1 := RowsOk.rise h (i := i) (j := j) (by omega) (by omega)
      have h2 := (h (j + 1) hj).1
      have e2 : leastT t (j + 1) = (t.getD j (0, 0)).1 := rfl
      omega
theorem readyT_iff {n : Int} {t : List (Int × Int)} (h : RowsOk n t t.length) (came : Int) {i : Nat} (hi : i < t.length) : (t.getD i (0, 0)).1 ≤ came ↔ i < readyT t came := by
  constructor
  · intro hc
    refine Nat.lt_of_not_le fun hle => ?_
    have h1 := readyT_end (t := t) (came := came) (by omega)
    have h2 := h.rise hle hi
    omega
  · exact readyT_lt

/-- A layer as rows. -/
def cutL (b : List B) (k w : Nat) : List (List B) := (List.range k).map fun r => rowL w fun c => b.getD (r * w + c) 0
theorem cutL_len (b : List B) (k w : Nat) : (cutL b k w).length = k := by simp [cutL]
theorem cutL_get {b : List B} {k w r : Nat} (h : r < k) : (cutL b k w).getD r [] = rowL w fun c => b.getD (r * w + c) 0 := getD_range _ _ h
theorem cutL_wide {b : List B} {k w : Nat} : ∀ r, r < (cutL b k w).length → ((cutL b k w).getD r []).length = w := fun r h => by
  rw [cutL_len] at h
  rw [cutL_get h]
  exact rowL_len _ _
/-- Rows, as bytes. -/
def joinL (rows : List (List B)) (long : Nat) : List B := rows.flatten.take long
/-- A layer's symbols, by a row of a table. -/
def symT (n : Nat) (r : Int × Int) (b : List B) : List (List B) := encL n r.1.toNat (cutL b r.1.toNat (wdT r)) (wdT r)
/-- The table of layers, by thresholds. -/
def tabL (ls : List (List B)) (ks : List Int) : List (Int × Int) := (List.range ks.length).map fun i => (ks.getD i 0, ((ls.getD i []).length : Int))
theorem tabL_len (ls : List (List B)) (ks : List Int) : (tabL ls ks).length = ks.length := by simp [tabL]
theorem tabL_get {ls : List (List B)} {ks : List Int} {i : Nat} (h : i < ks.length) : (tabL ls ks).getD i (0, 0) = (ks.getD i 0, ((ls.getD i []).length : Int)) := getD_range _ _ h
/-- A datagram's body of the first m layers; all of them. -/
def bodyL (n : Nat) (ls : List (List B)) (ks : List Int) (i : Nat) : Nat → List B
  | 0 => []
  | m + 1 => bodyL n ls ks i m ++ (symT n ((tabL ls ks).getD m (0, 0)) (ls.getD m [])).getD i []
def bodiesL (n : Nat) (ls : List (List B)) (ks : List Int) (m : Nat) : List (List B) := (List.range n).map fun i => bodyL n ls ks i m
theorem bodiesL_len (n : Nat) (ls : List (List B)) (ks : List Int) (m : Nat) : (bodiesL n ls ks m).length = n := by simp [bodiesL]
theorem bodiesL_get {n : Nat} {ls : List (List B)} {ks : List Int} {m i : Nat} (h : i < n) : (bodiesL n ls ks m).getD i [] = bodyL n ls ks i m := getD_range _ _ h

/-- What is held of a stripe. -/
def partH (hs : List (Int × List B)) (k a w : Nat) : List (Int × List B) := (hs.take k).map fun h => (h.1, (h.2.drop a).take w)
/-- The layer of a table's row i. -/
def layerL (t : List (Int × Int)) (hs : List (Int × List B)) (i : Nat) : List B :=
  let r := t.getD i (0, 0)
  let k := r.1.toNat
  joinL (decL k (idxB ((hIdx hs).take k)) ((hRow hs).map fun b => (b.drop (atT t i)).take (wdT r)) (wdT r)) r.2.toNat
def layersL (t : List (Int × Int)) (hs : List (Int × List B)) (m : Nat) : List (List B) := (List.range m).map (layerL t hs)
/-- The error of bodies that are held. -/
def heldE (n : Int) (long : Nat) (hs : List (Int × List B)) : Int :=
  if hs.all (fun h => decide (0 ≤ h.1) && decide (h.1 < n) && h.2.length == long) then if (hIdx hs).Nodup then 0 else 9 else 2
def gatherE (n : Int) (t : List (Int × Int)) (hs : List (Int × List B)) : Int :=
  if TableOk n t then heldE n (atT t t.length) hs else 2
end -- LayA

section -- LayB
open Go.RowKit Go.Maps
set_option linter.unusedVariables false
set_option maxRecDepth 100000

/-- The symbols that are held. -/
def hsOf (L : List (List B)) (xs : List Nat) : List (Int × List B) := xs.map fun (x : Nat) => ((x : Int), L.getD x [])
theorem hsOf_len (L : List (List B)) (xs : List Nat) : (hsOf L xs).length = xs.length := by simp [hsOf]
theorem hsOf_snoc (L : List (List B)) (xs : List Nat) (a : Nat) : hsOf L (xs ++ [a]) = hsOf L xs ++ [((a : Int), L.getD a [])] := by simp [hsOf]
theorem hsOf_idx (L : List (List B)) (xs : List Nat) : hIdx (hsOf L xs) = xs.map fun (x : Nat) => (x : Int) := by simp [hIdx, hsOf]
theorem hsOf_row (L : List (List B)) (xs : List Nat) : hRow (hsOf L xs) = xs.map fun (x : Nat) => L.getD x [] := by simp [hRow, hsOf]
theorem ask_of {all k : Nat} {xs : List Nat} (hn : xs.Nodup) (hr : ∀ x ∈ xs, x < all) (hk : k ≤ xs.length) : AskOk all k (xs.map fun (x : Nat) => (x : Int)) := by
  refine ⟨fun x hx => ?_, ?_, by simpa using hk⟩
  · obtain ⟨y, hy, rfl⟩ := List.mem_map.1 hx
    have := hr y hy
    omega
  · rw [List.nodup_iff_pairwise_ne, List.pairwise_map]
    exact (List.nodup_iff_pairwise_ne.1 hn).imp (fun {a b} h e => h (by omega))
theorem even_of {L : List (List B)} {xs : List Nat} {all wide : Nat} (hr : ∀ x ∈ xs, x < all) (hw : ∀ i, i < all → (L.getD i []).length = wide) {i : Nat} (hi : i < xs.length) : ((hsOf L xs).getD i (0, [])).2.length = wide := by
  have : ((hsOf L xs).getD i (0, [])).2 = L.getD xs[i] [] := by simp [hsOf, List.getD_eq_getElem?_getD, List.getElem?_eq_getElem hi]
  rw [this]
  exact hw _ (hr _ (List.getElem_mem hi))
/-- The first k of a source's symbols: itself. -/
theorem enc_src {n k wide : Nat} {src : List (List B)} (hk : src.length = k) (hkn : k ≤ n) (hk2 : k ≤ 255) (hw : ∀ i, i < src.length → (src.getD i []).length = wide) : (encL n k src wide).take k = src := by
  apply List.ext_getElem
  · simp [encL]; omega
  · intro i h1 h2
    have hi : i < k := by omega
    have hX := ptsL_nodup (k := k) (by omega)
    rw [List.getElem_take]
    simp only [encL, List.getElem_map, List.getElem_range]
    have hwi := hw i h2
    have ei : src.getD i [] = src[i] := by simp [List.getD_eq_getElem?_getD, List.getElem?_eq_getElem h2]
    rw [ei] at hwi
    apply List.ext_getElem
    · rw [mixL_len, hwi]
    · intro t h3 h4
      rw [mixL_len] at h3
      have e : ∀ (l : List B) (ht : t < l.length), l[t] = l.getD t 0 := fun l ht => by rw [List.getD_eq_getElem?_getD, List.getElem?_eq_getElem ht]; rfl
      rw [e, e, mixL_get h3, wtsL_len, ← ei]
      rw [show (sm (ptsL k).length fun r => (src.getD r []).getD t 0 * (wtsL (ptsL k) (ofB i)).getD r 0) = sm (ptsL k).length fun r => (src.getD r []).getD t 0 * lag (ptsL k) r ((ptsL k).getD i 0) from sm_congr fun r hr => by rw [wtsL_get hr, ptsL_get hi]]
      exact sm_unit hX (fun r => (src.getD r []).getD t 0) (by rw [ptsL_len]; exact hi)

/-- Any k symbols of a source tell it. -/
theorem dec_src {n k wide : Nat} {src : List (List B)} {xs : List Int} (h : AskOk n k xs) (hk : src.length = k) (hkn : k ≤ n) (hn : n ≤ 255) (hw : ∀ i, i < src.length → (src.getD i []).length = wide) :
    decL k (idxB (xs.take k)) (xs.map fun x => (encL n k src wide).getD x.toNat []) wide = src := by
  have hX := ptsL_nodup (k := k) (by omega)
  have hY := idxB_nodup h hn k
  have hle := h.len
  have hYL : (idxB (xs.take k)).length = k := by rw [idxB_len]; simp; omega
  have hyi : ∀ s, s < k → (idxB (xs.take k)).getD s 0 = ofB (xs.getD s 0).toNat := by
    intro s hs
    unfold idxB
    simp [List.getD_eq_getElem?_getD, hs, show s < xs.length by omega]
  apply List.ext_getElem
  · simp [decL, turnL, hk]
  · intro r h1 h2
    have hr : r < k := by omega
    have er : src.getD r [] = src[r] := by simp [List.getD_eq_getElem?_getD, List.getElem?_eq_getElem h2]
    have hwr := hw r h2
    rw [er] at hwr
    have e0 : (decL k (idxB (xs.take k)) (xs.map fun x => (encL n k src wide).getD x.toNat []) wide)[r] = mixL (wtsL (idxB (xs.take k)) (ofB r)) (xs.map fun x => (encL n k src wide).getD x.toNat []) wide := by simp [decL, turnL]
    rw [e0]
    apply List.ext_getElem
    · rw [mixL_len, hwr]
    · intro t h3 h4
      rw [mixL_len] at h3
      have e : ∀ (l : List B) (ht : t < l.length), l[t] = l.getD t 0 := fun l ht => by rw [List.getD_eq_getElem?_getD, List.getElem?_eq_getElem ht]; rfl
      rw [e, e, mixL_get h3, wtsL_len, ← er]
      have hs2 : ∀ s, s < k → ((xs.map fun x => (encL n k src wide).getD x.toNat []).getD s []).getD t 0 = sm (ptsL k).length fun q => (src.getD q []).getD t 0 * lag (ptsL k) q ((idxB (xs.take k)).getD s 0) := by
        intro s hs
        have hx := h.getD (m := s) (by omega)
        rw [show (xs.map fun x => (encL n k src wide).getD x.toNat []).getD s [] = (encL n k src wide).getD (xs.getD s 0).toNat [] by
          simp [List.getD_eq_getElem?_getD, List.getElem?_eq_getElem (show s < xs.length by omega)]]
        unfold encL
        rw [getD_range _ _ (show (xs.getD s 0).toNat < n by omega), mixL_get h3, wtsL_len, hyi s hs]
        exact sm_congr fun q hq => by rw [wtsL_get hq]
      rw [show (sm (idxB (xs.take k)).length fun s => ((xs.map fun x => (encL n k src wide).getD x.toNat []).getD s []).getD t 0 * (wtsL (idxB (xs.take k)) (ofB r)).getD s 0) =
          sm (idxB (xs.take k)).length fun s => (sm (ptsL k).length fun q => (src.getD q []).getD t 0 * lag (ptsL k) q ((idxB (xs.take k)).getD s 0)) * lag (idxB (xs.take k)) s (ofB r) from
        sm_congr fun s hs => by rw [hs2 s (by rw [hYL] at hs; exact hs), wtsL_get hs]]
      rw [through hX hY (by rw [hYL, ptsL_len]) (fun q => (src.getD q []).getD t 0) (ofB r), ← ptsL_get hr]
      exact sm_unit hX (fun q => (src.getD q []).getD t 0) (by rw [ptsL_len]; exact hr)


theorem symT_len (n : Nat) (r : Int × Int) (b : List B) : (symT n r b).length = n := by simp [symT, encL]
theorem symT_wide {n : Nat} {r : Int × Int} {b : List B} {i : Nat} (h : i < n) : ((symT n r b).getD i []).length = wdT r := by
  unfold symT encL
  rw [getD_range _ _ h]
  exact mixL_len _ _ _
theorem atT_mono {t : List (Int × Int)} {i : Nat} : ∀ {j : Nat}, i ≤ j → j ≤ t.length → atT t i ≤ atT t j
  | 0, h, _ => by obtain rfl : i = 0 := by omega
                  exact Nat.le_refl _
  | j + 1, h, hj => by
    by_cases e : i = j + 1
    · subst e; exact Nat.le_refl _
    · have := atT_mono (t := t) (i := i) (j := j) (by omega) (by omega)
      rw [atT_succ (by omega)]
      omega
section
variable {n : Nat} {ls : List (List B)} {ks : List Int}
theorem bodyL_length {i : Nat} (hi : i < n) : ∀ {m : Nat}, m ≤ ks.length → (bodyL n ls ks i m).length = atT (tabL ls ks) m
  | 0, _ => by simp [bodyL, atT_zero]
  | m + 1, h => by
    rw [atT_succ (by rw [tabL_len]; omega)]
    unfold bodyL
    rw [List.length_append, bodyL_length hi (by omega), symT_wide hi]
theorem bodyL_part {i j : Nat} (hi : i < n) : ∀ {m : Nat}, m ≤ ks.length → j < m → ((bodyL n ls ks i m).drop (atT (tabL ls ks) j)).take (wdT ((tabL ls ks).getD j (0, 0))) = (symT n ((tabL ls ks).getD j (0, 0)) (ls.getD j [])).getD i []
  | 0, _, h => by omega
  | m + 1, hm, h => by
    have hl := bodyL_length (ls := ls) (ks := ks) hi (m := m) (by omega)
    unfold bodyL
    by_cases e : j = m
    · subst e
      rw [← hl, List.drop_left, List.take_of_length_le (by rw [symT_wide hi]; exact Nat.le_refl _)]
    · have h1 := atT_mono (t := tabL ls ks) (i := j + 1) (j := m) (by omega) (by rw [tabL_len]; omega)
      rw [atT_succ (by rw [tabL_len]; omega)] at h1
      rw [List.drop_append_of_le_length (by rw [hl]; omega), List.take_append_of_le_length (by rw [List.length_drop, hl]; omega)]
      exact bodyL_part hi (by omega) (by omega)
end
theorem cut_flat (b : List B) (w : Nat) : ∀ k, (cutL b k w).flatten = (List.range (k * w)).map fun i => b.getD i 0
  | 0 => by simp [cutL]
  | k + 1 => by
    have ih := cut_flat b w k
    have e : cutL b (k + 1) w = cutL b k w ++ [rowL w fun c => b.getD (k * w + c) 0] := by unfold cutL; rw [List.range_succ, List.map_append]; rfl
    rw [e, List.flatten_append, ih, Nat.add_mul, Nat.one_mul, List.range_add, List.map_append]
    simp [rowL, Function.comp_def]
theorem join_cut {b : List B} {k w : Nat} (h : b.length ≤ k * w) : joinL (cutL b k w) b.length = b := by
  unfold joinL
  rw [cut_flat]
  apply List.ext_getElem
  · simp; omega
  · intro i h1 h2
    simp [List.getD_eq_getElem?_getD, h2]

/-- The layers of bodies. -/
theorem layer_is {n : Nat} {ls : List (List B)} {ks : List Int} {xs : List Nat} {i : Nat} (ht : TableOk n (tabL ls ks)) (hi : i < ks.length) (hx : xs.Nodup) (hr : ∀ x ∈ xs, x < n) (hk : ks.getD i 0 ≤ (xs.length : Int)) :
    layerL (tabL ls ks) (hsOf (bodiesL n ls ks ks.length) xs) i = ls.getD i [] := by
  obtain ⟨h1, h2, h3, h4, h5⟩ := ht
  have hl := tabL_len ls ks
  have hg := tabL_get (ls := ls) (ks := ks) hi
  have hge := (h5.ge i (by rw [hl]; exact hi)).1
  have hok := h5 i (by rw [hl]; exact hi)
  rw [hg] at hge hok
  obtain ⟨k, hkk⟩ : ∃ k : Nat, ks.getD i 0 = (k : Int) := ⟨(ks.getD i 0).toNat, by have : 1 ≤ ks.getD i 0 := hge; omega⟩
  obtain ⟨_, hkn, _, _⟩ := hok
  have hkn : ks.getD i 0 ≤ (n : Int) := hkn
  have hge : 1 ≤ ks.getD i 0 := hge
  rw [hkk] at hge hk hkn
  unfold layerL
  simp only
  rw [hg, hkk]
  simp only [Int.toNat_natCast]
  obtain ⟨w, hw⟩ : ∃ w, wdT ((k : Int), ((ls.getD i []).length : Int)) = w := ⟨_, rfl⟩
  have hrow : ((hRow (hsOf (bodiesL n ls ks ks.length) xs)).map fun b => (b.drop (atT (tabL ls ks) i)).take (wdT ((k : Int), ((ls.getD i []).length : Int)))) = (xs.map fun (x : Nat) => (x : Int)).map fun x => (encL n k (cutL (ls.getD i []) k w) w).getD x.toNat [] := by
    rw [hsOf_row, List.map_map, List.map_map]
    refine List.map_congr_left fun x hxm => ?_
    have hxn := hr x hxm
    show ((bodiesL n ls ks ks.length).getD x [] |>.drop (atT (tabL ls ks) i)).take _ = _
    have := bodyL_part (n := n) (ls := ls) (ks := ks) (i := x) (j := i) hxn (m := ks.length) (Nat.le_refl _) hi
    rw [hg, hkk] at this
    rw [bodiesL_get hxn, this]
    unfold symT
    simp only [Int.toNat_natCast, hw, Function.comp]
  rw [hrow, hsOf_idx, hw]
  have hA : AskOk n k (xs.map fun (x : Nat) => (x : Int)) := ask_of hx hr (by omega)
  rw [dec_src hA (cutL_len _ _ _) (by omega) (by omega) cutL_wide]
  refine join_cut ?_
  have := wdN_ge (long := (ls.getD i []).length) (k := k) (by omega)
  rw [← hw, Nat.mul_comm]
  exact this
theorem held_is {n : Nat} {ls : List (List B)} {ks : List Int} {xs : List Nat} (hx : xs.Nodup) (hr : ∀ x ∈ xs, x < n) : heldE n (atT (tabL ls ks) (tabL ls ks).length) (hsOf (bodiesL n ls ks ks.length) xs) = 0 := by
  unfold heldE
  rw [if_pos, if_pos]
  · rw [hsOf_idx]
    exact (ask_of (k := 0) hx hr (Nat.zero_le _)).nodup
  · rw [List.all_eq_true]
    intro h hm
    obtain ⟨x, hxm, rfl⟩ := List.mem_map.1 hm
    have := hr x hxm
    simp only [bodiesL_get this, bodyL_length this (Nat.le_refl _), tabL_len, beq_self_eq_true, Bool.and_true, Bool.and_eq_true, decide_eq_true_eq]
    omega
end -- LayB

section -- LayC
open Go.RowKit Go.Maps
set_option linter.unusedVariables false
set_option maxRecDepth 100000

theorem decL_take {k : Nat} {ys : List B} {rows : List (List B)} {w : Nat} (hy : ys.length ≤ k) : decL k ys (rows.take k) w = decL k ys rows w := by
  unfold decL turnL
  rw [List.map_map, List.map_map]
  refine List.map_congr_left fun r _ => ?_
  show mixL _ _ w = mixL _ _ w
  unfold mixL
  refine List.map_congr_left fun i _ => ?_
  refine sm_congr fun s hs => ?_
  rw [wtsL_len] at hs
  have : (rows.take k).getD s [] = rows.getD s [] := by
    rw [List.getD_eq_getElem?_getD, List.getD_eq_getElem?_getD, List.getElem?_take, if_pos (by omega)]
  rw [this]

/-- Bodies that may be asked. -/
structure HeldOk (n : Int) (long : Nat) (hs : List (Int × List B)) : Prop where
  each : ∀ i, i < hs.length → 0 ≤ (hs.getD i (0, [])).1 ∧ (hs.getD i (0, [])).1 < n ∧ (hs.getD i (0, [])).2.length = long
  nodup : (hIdx hs).Nodup
theorem heldE_all {n : Int} {long : Nat} {hs : List (Int × List B)} : (hs.all fun h => decide (0 ≤ h.1) && decide (h.1 < n) && h.2.length == long) = true ↔ ∀ i, i < hs.length → 0 ≤ (hs.getD i (0, [])).1 ∧ (hs.getD i (0, [])).1 < n ∧ (hs.getD i (0, [])).2.length = long := by
  rw [List.all_eq_true]
  constructor
  · intro h i hi
    have := h hs[i] (List.getElem_mem hi)
    simp only [Bool.and_eq_true, decide_eq_true_eq, beq_iff_eq] at this
    rw [List.getD_eq_getElem?_getD, List.getElem?_eq_getElem hi]
    exact ⟨this.1.1, this.1.2, this.2⟩
  · intro h x hx
    obtain ⟨i, hi, rfl⟩ := List.mem_iff_getElem.1 hx
    have := h i hi
    rw [List.getD_eq_getElem?_getD, List.getElem?_eq_getElem hi] at this
    simp only [Option.getD_some] at this
    simp only [Bool.and_eq_true, decide_eq_true_eq, beq_iff_eq]
    exact ⟨⟨this.1, this.2.1⟩, this.2.2⟩
theorem heldE_zero {n : Int} {long : Nat} {hs : List (Int × List B)} (h : heldE n long hs = 0) : HeldOk n long hs := by
  unfold heldE at h
  split at h
  · rename_i h1
    split at h
    · rename_i h2
      exact ⟨heldE_all.1 h1, h2⟩
    · omega
  · omega
theorem heldE_ok {n : Int} {long : Nat} {hs : List (Int × List B)} (h : HeldOk n long hs) : heldE n long hs = 0 := by
  unfold heldE
  rw [if_pos (heldE_all.2 h.each), if_pos h.nodup]
theorem hIdxT_get {hs : List (Int × List B)} {i : Nat} (h : i < hs.length) : (hIdx hs).getD i 0 = (hs.getD i (0, [])).1 := by
  simp [hIdx, List.getD_eq_getElem?_getD, h]
theorem HeldOk.ask {n long : Nat} {hs : List (Int × List B)} (h : HeldOk n long hs) {k : Nat} (hk : k ≤ hs.length) : AskOk n k (hIdx hs) := by
  refine ⟨fun x hx => ?_, h.nodup, by simpa [hIdx] using hk⟩
  obtain ⟨i, hi, rfl⟩ := List.mem_iff_getElem.1 hx
  have hi' : i < hs.length := by simpa [hIdx] using hi
  have h1 := h.each i hi'
  have e := hIdxT_get hi'
  rw [List.getD_eq_getElem?_getD, List.getElem?_eq_getElem hi] at e
  simp only [Option.getD_some] at e
  rw [e]
  exact ⟨h1.1, h1.2.1⟩

theorem partH_len {hs : List (Int × List B)} {k a w : Nat} (h : k ≤ hs.length) : (partH hs k a w).length = k := by simp [partH]; omega
theorem partH_get {hs : List (Int × List B)} {k a w i : Nat} (h : i < k) (hk : k ≤ hs.length) : (partH hs k a w).getD i (0, []) = ((hs.getD i (0, [])).1, ((hs.getD i (0, [])).2.drop a).take w) := by
  unfold partH
  simp only [List.getD_eq_getElem?_getD, List.getElem?_map, List.getElem?_take, if_pos h]
  rw [List.getElem?_eq_getElem (show i < hs.length by omega)]
  rfl
theorem partH_idx {hs : List (Int × List B)} {k a w : Nat} : hIdx (partH hs k a w) = (hIdx hs).take k := by
  unfold partH hIdx
  rw [List.map_map, List.map_take]
  rfl
theorem partH_row {hs : List (Int × List B)} {k a w : Nat} : hRow (partH hs k a w) = ((hRow hs).map fun b => (b.drop a).take w).take k := by
  unfold partH hRow
  rw [List.map_map, List.map_map, List.map_take]
  rfl
theorem partH_wide {n : Int} {long : Nat} {hs : List (Int × List B)} {k a w i : Nat} (h : HeldOk n long hs) (hk : k ≤ hs.length) (hw : a + w ≤ long) (hi : i < k) : ((partH hs k a w).getD i (0, [])).2.length = w := by
  rw [partH_get hi hk]
  have := (h.each i (by omega)).2.2
  simp only [List.length_take, List.length_drop, this]
  omega
theorem partH_dec {n long : Nat} {hs : List (Int × List B)} {k a w : Nat} (h : HeldOk n long hs) (hk : k ≤ hs.length) (hw : a + w ≤ long) : decE n k (partH hs k a w) = 0 := by
  unfold decE
  rw [if_pos ((evenH_iff _).2 fun i hi => by
    rw [partH_len hk] at hi
    rw [partH_wide h hk hw hi, partH_wide h hk hw (by omega)]), partH_idx]
  have hA := h.ask hk
  exact askE_ok ⟨fun x hx => hA.range x (List.mem_of_mem_take hx), hA.nodup.sublist (List.take_sublist _ _), by simp [hIdx]; omega⟩
theorem partH_is {hs : List (Int × List B)} {k a w : Nat} : decL k (idxB ((hIdx (partH hs k a w)).take k)) (hRow (partH hs k a w)) w = decL k (idxB ((hIdx hs).take k)) ((hRow hs).map fun b => (b.drop a).take w) w := by
  rw [partH_idx, partH_row, List.take_take, Nat.min_self, decL_take (by rw [idxB_len, List.length_take]; exact Nat.min_le_left _ _)]

/-- The example. -/
theorem ex_bod : bodiesL 3 [[ofB 5], [ofB 7, ofB 8]] [1, 2] 2 = [[ofB 5, ofB 7], [ofB 5, ofB 8], [ofB 5, ofB 25]] := by decide +kernel
theorem ex_tab : tabL [[ofB 5], [ofB 7, ofB 8]] [1, 2] = [(1, 1), (2, 2)] := by decide +kernel
theorem ex_ok : TableOk 3 [(1, 1), (2, 2)] := by decide +kernel
theorem ex_lay1 : layersL [(1, 1), (2, 2)] [(2, [ofB 5, ofB 25])] 1 = [[ofB 5]] := by decide +kernel
theorem ex_lay2 : layersL [(1, 1), (2, 2)] [(2, [ofB 5, ofB 25]), (0, [ofB 5, ofB 7])] 2 = [[ofB 5], [ofB 7, ofB 8]] := by decide +kernel
theorem ex_g1 : gatherE 3 [(1, 1), (2, 2)] [(2, [ofB 5, ofB 25])] = 0 := by decide +kernel
theorem ex_g2 : gatherE 3 [(1, 1), (2, 2)] [(2, [ofB 5, ofB 25]), (0, [ofB 5, ofB 7])] = 0 := by decide +kernel
theorem ex_r1 : readyT [(1, 1), (2, 2)] 1 = 1 := by decide +kernel
theorem ex_r2 : readyT [(1, 1), (2, 2)] 2 = 2 := by decide +kernel
end -- LayC

end Go.Proofs.Ytibelpamolcmcaa
