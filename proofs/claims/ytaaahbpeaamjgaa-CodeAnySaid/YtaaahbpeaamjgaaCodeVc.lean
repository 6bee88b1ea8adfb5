/-
  CodeAny: what its first loop chooses (plain, and in memory).
-/
import Derived.Test.YtaaahbpeaamjgaaCodeVb
namespace Go.Proofs.Ytaaahbpeaamjgaa
open Go.RowKit Go.Maps
set_option linter.unusedVariables false
set_option maxRecDepth 100000
set_option maxHeartbeats 2000000

theorem short_of {l : List Nat} : ∀ {l2 : List Nat}, l.Nodup → (∀ x ∈ l, x ∈ l2) → l.length ≤ l2.length := by
  induction l with
  | nil => intro l2 _ _; simp
  | cons x l ih =>
    intro l2 hn hs
    have hx := hs x List.mem_cons_self
    have hn' := List.nodup_cons.1 hn
    have := ih (l2 := l2.erase x) hn'.2 (fun y hy => (List.mem_erase_of_ne (fun e => hn'.1 (by rw [← e]; exact hy))).2 (hs y (List.mem_cons_of_mem _ hy)))
    rw [List.length_erase_of_mem hx] at this
    have h0 : 0 < l2.length := List.length_pos_of_mem hx
    simp only [List.length_cons]
    omega

/-- Behind the last round each index is there. -/
theorem covers {all lw : Nat} {xs : List Nat} (h0 : 0 < all) (h : ∀ j, lw ≤ j → j < lw + all → j % all ∈ xs) : all ≤ xs.length := by
  have := short_of (l := List.range all) (l2 := xs) List.nodup_range (fun a ha => by
    have ha' := List.mem_range.1 ha
    by_cases q : lw % all ≤ a
    · have := h (lw + (a - lw % all)) (by omega) (by omega)
      have e : (lw + (a - lw % all)) % all = a := by
        have e1 : lw + (a - lw % all) = a + all * (lw / all) := by have := Nat.mod_add_div lw all; omega
        rw [e1, Nat.add_mul_mod_self_left, Nat.mod_eq_of_lt ha']
      rwa [e] at this
    · have hm := Nat.mod_lt lw h0
      have := h (lw + (a + all - lw % all)) (by omega) (by omega)
      have e : (lw + (a + all - lw % all)) % all = a := by
        have e1 : lw + (a + all - lw % all) = a + all * (lw / all + 1) := by have := Nat.mod_add_div lw all; rw [Nat.mul_add, Nat.mul_one]; omega
        rw [e1, Nat.add_mul_mod_self_left, Nat.mod_eq_of_lt ha']
      rwa [e] at this)
  simpa using this

/-- The symbols that are held. -/
def hsOf (L : List (List B)) (xs : List Nat) : List (Int × List B) := xs.map fun (x : Nat) => ((x : Int), L.getD x [])
theorem hsOf_len (L : List (List B)) (xs : List Nat) : (hsOf L xs).length = xs.length := by simp [hsOf]
theorem hsOf_snoc (L : List (List B)) (xs : List Nat) (a : Nat) : hsOf L (xs ++ [a]) = hsOf L xs ++ [((a : Int), L.getD a [])] := by simp [hsOf]
theorem hsOf_idx (L : List (List B)) (xs : List Nat) : hIdx (hsOf L xs) = xs.map fun (x : Nat) => (x : Int) := by simp [hIdx, hsOf]
theorem hsOf_row (L : List (List B)) (xs : List Nat) : hRow (hsOf L xs) = xs.map fun (x : Nat) => L.getD x [] := by simp [hRow, hsOf]
theorem ask_of {all k : Nat} {xs : List Nat} (hn : xs.Nodup) (hr : ∀ x ∈ xs, x < all) (hk : k ≤ xs.length) : AskOk all k (xs.map fun (x : Nat) => (x : Int)) := by
  refine ⟨fun x hx => ?_, ?_, by simpa using hk⟩
  · obtain ⟨y, hy, rfl⟩ := List.mem_map.1 hx
    have := hr y hy
    omega
  · rw [List.nodup_iff_pairwise_ne, List.pairwise_map]
    exact (List.nodup_iff_pairwise_ne.1 hn).imp (fun {a b} h e => h (by omega))
theorem even_of {L : List (List B)} {xs : List Nat} {all wide : Nat} (hr : ∀ x ∈ xs, x < all) (hw : ∀ i, i < all → (L.getD i []).length = wide) {i : Nat} (hi : i < xs.length) : ((hsOf L xs).getD i (0, [])).2.length = wide := by
  have : ((hsOf L xs).getD i (0, [])).2 = L.getD xs[i] [] := by simp [hsOf, List.getD_eq_getElem?_getD, List.getElem?_eq_getElem hi]
  rw [this]
  exact hw _ (hr _ (List.getElem_mem hi))
theorem decE_of {all k wide : Nat} {L : List (List B)} {xs : List Nat} (hn : xs.Nodup) (hr : ∀ x ∈ xs, x < all) (hw : ∀ i, i < all → (L.getD i []).length = wide) : decE all k (hsOf L xs) = askE all k (xs.map fun (x : Nat) => (x : Int)) := by
  unfold decE
  rw [if_pos ((evenH_iff _).2 fun i hi => by
    rw [hsOf_len] at hi
    rw [even_of hr hw hi, even_of hr hw (by omega)]), hsOf_idx]
theorem ask_few {all k : Nat} {xs : List Nat} (hn : xs.Nodup) (hr : ∀ x ∈ xs, x < all) (hk : xs.length < k) : askE all k (xs.map fun (x : Nat) => (x : Int)) = 8 := by
  have h := ask_of (k := 0) hn hr (Nat.zero_le _)
  unfold askE
  rw [if_pos (List.all_eq_true.2 fun x hx => by have := h.range x hx; simp; omega), if_pos h.nodup, if_pos (by simpa using hk)]

/-- The first k of a source's symbols: itself. -/
theorem enc_src {n k wide : Nat} {src : List (List B)} (hk : src.length = k) (hkn : k ≤ n) (hk2 : k ≤ 255) (hw : ∀ i, i < src.length → (src.getD i []).length = wide) : (encL n k src wide).take k = src := by
  apply List.ext_getElem
  · simp [encL]; omega
  · intro i h1 h2
    have hi : i < k := by omega
    have hX := ptsL_nodup (k := k) (by omega)
    rw [List.getElem_take]
    simp only [encL, List.getElem_map, List.getElem_range]
    have hwi := hw i h2
    have ei : src.getD i [] = src[i] := by simp [List.getD_eq_getElem?_getD, List.getElem?_eq_getElem h2]
    rw [ei] at hwi
    apply List.ext_getElem
    · rw [mixL_len, hwi]
    · intro t h3 h4
      rw [mixL_len] at h3
      have e : ∀ (l : List B) (ht : t < l.length), l[t] = l.getD t 0 := fun l ht => by rw [List.getD_eq_getElem?_getD, List.getElem?_eq_getElem ht]; rfl
      rw [e, e, mixL_get h3, wtsL_len, ← ei]
      rw [show (sm (ptsL k).length fun r => (src.getD r []).getD t 0 * (wtsL (ptsL k) (ofB i)).getD r 0) = sm (ptsL k).length fun r => (src.getD r []).getD t 0 * lag (ptsL k) r ((ptsL k).getD i 0) from sm_congr fun r hr => by rw [wtsL_get hr, ptsL_get hi]]
      exact sm_unit hX (fun r => (src.getD r []).getD t 0) (by rw [ptsL_len]; exact hi)

/-- Any k symbols of a source tell it. -/
theorem dec_src {n k wide : Nat} {src : List (List B)} {xs : List Int} (h : AskOk n k xs) (hk : src.length = k) (hkn : k ≤ n) (hn : n ≤ 255) (hw : ∀ i, i < src.length → (src.getD i []).length = wide) :
    decL k (idxB (xs.take k)) (xs.map fun x => (encL n k src wide).getD x.toNat []) wide = src := by
  have hX := ptsL_nodup (k := k) (by omega)
  have hY := idxB_nodup h hn k
  have hle := h.len
  have hYL : (idxB (xs.take k)).length = k := by rw [idxB_len]; simp; omega
  have hyi : ∀ s, s < k → (idxB (xs.take k)).getD s 0 = ofB (xs.getD s 0).toNat := by
    intro s hs
    unfold idxB
    simp [List.getD_eq_getElem?_getD, hs, show s < xs.length by omega]
  apply List.ext_getElem
  · simp [decL, turnL, hk]
  · intro r h1 h2
    have hr : r < k := by omega
    have er : src.getD r [] = src[r] := by simp [List.getD_eq_getElem?_getD, List.getElem?_eq_getElem h2]
    have hwr := hw r h2
    rw [er] at hwr
    have e0 : (decL k (idxB (xs.take k)) (xs.map fun x => (encL n k src wide).getD x.toNat []) wide)[r] = mixL (wtsL (idxB (xs.take k)) (ofB r)) (xs.map fun x => (encL n k src wide).getD x.toNat []) wide := by simp [decL, turnL]
    rw [e0]
    apply List.ext_getElem
    · rw [mixL_len, hwr]
    · intro t h3 h4
      rw [mixL_len] at h3
      have e : ∀ (l : List B) (ht : t < l.length), l[t] = l.getD t 0 := fun l ht => by rw [List.getD_eq_getElem?_getD, List.getElem?_eq_getElem ht]; rfl
      rw [e, e, mixL_get h3, wtsL_len, ← er]
      have hs2 : ∀ s, s < k → ((xs.map fun x => (encL n k src wide).getD x.toNat []).getD s []).getD t 0 = sm (ptsL k).length fun q => (src.getD q []).getD t 0 * lag (ptsL k) q ((idxB (xs.take k)).getD s 0) := by
        intro s hs
        have hx := h.getD (m := s) (by omega)
        rw [show (xs.map fun x => (encL n k src wide).getD x.toNat []).getD s [] = (encL n k src wide).getD (xs.getD s 0).toNat [] by
          simp [List.getD_eq_getElem?_getD, List.getElem?_eq_getElem (show s < xs.length by omega)]]
        unfold encL
        rw [getD_range _ _ (show (xs.getD s 0).toNat < n by omega), mixL_get h3, wtsL_len, hyi s hs]
        exact sm_congr fun q hq => by rw [wtsL_get hq]
      rw [show (sm (idxB (xs.take k)).length fun s => ((xs.map fun x => (encL n k src wide).getD x.toNat []).getD s []).getD t 0 * (wtsL (idxB (xs.take k)) (ofB r)).getD s 0) =
          sm (idxB (xs.take k)).length fun s => (sm (ptsL k).length fun q => (src.getD q []).getD t 0 * lag (ptsL k) q ((idxB (xs.take k)).getD s 0)) * lag (idxB (xs.take k)) s (ofB r) from
        sm_congr fun s hs => by rw [hs2 s (by rw [hYL] at hs; exact hs), wtsL_get hs]]
      rw [through hX hY (by rw [hYL, ptsL_len]) (fun q => (src.getD q []).getD t 0) (ofB r), ← ptsL_get hr]
      exact sm_unit hX (fun q => (src.getD q []).getD t 0) (by rw [ptsL_len]; exact hr)

end Go.Proofs.Ytaaahbpeaamjgaa
