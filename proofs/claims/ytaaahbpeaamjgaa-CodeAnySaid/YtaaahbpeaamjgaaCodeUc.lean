/-
  The chapter's example (plain), and sums (plain).
-/
import Derived.Test.YtaaahbpeaamjgaaCodeUb
namespace Go.Proofs.Ytaaahbpeaamjgaa
open Go.RowKit Go.Maps
set_option linter.unusedVariables false
set_option maxRecDepth 100000

theorem ex_enc : encL 4 2 [[ofB 5], [ofB 4]] 1 = [[ofB 5], [ofB 4], [ofB 7], [ofB 6]] := by decide +kernel
theorem ex_dec : decL 2 (idxB [2, 3]) [[ofB 7], [ofB 6]] 1 = [[ofB 5], [ofB 4]] := by decide +kernel
theorem ex_decE : decE 4 2 [(2, [ofB 7]), (3, [ofB 6])] = 0 := by decide +kernel

/-- Symbols of a sum are sums of the symbols. -/
theorem encL_add (n k : Nat) (a b : List (List B)) (wide : Nat) : encL n k (addL k a b wide) wide = addL n (encL n k a wide) (encL n k b wide) wide := by
  unfold encL addL
  refine List.map_congr_left fun i hi => ?_
  have hi' := List.mem_range.1 hi
  rw [getD_range _ _ hi', getD_range _ _ hi']
  unfold addR rowL mixL
  refine List.map_congr_left fun j hj => ?_
  have hj' := List.mem_range.1 hj
  rw [getD_range _ _ hj', getD_range _ _ hj', ← sm_add]
  have hw : (wtsL (ptsL k) (ofB i)).length = k := by rw [wtsL_len, ptsL_len]
  rw [hw]
  refine sm_congr fun s hs => ?_
  rw [getD_range _ _ hs, getD_range _ _ hj']
  grind

/-- A symbol of what k held symbols tell: itself. -/
theorem enc_dec {n k : Nat} {xs : List Int} {hk : List (List B)} {wide : Nat} (h : AskOk n k xs) (hkn : k ≤ n) (hn : n ≤ 255) (hl : hk.length = xs.length) (hw : ∀ i, i < hk.length → (hk.getD i []).length = wide) {i : Nat} (hi : i < k) :
    mixL (wtsL (ptsL k) (ofB (xs.getD i 0).toNat)) (decL k (idxB (xs.take k)) hk wide) wide = hk.getD i [] := by
  have hx := h.getD (m := i) (by have := h.len; omega)
  have hY := idxB_nodup h hn k
  have hX := ptsL_nodup (k := k) (by omega)
  have hYL : (idxB (xs.take k)).length = k := by rw [idxB_len]; have := h.len; simp; omega
  have hyi : (idxB (xs.take k)).getD i 0 = ofB (xs.getD i 0).toNat := by
    have := h.len
    unfold idxB
    simp [List.getD_eq_getElem?_getD, hi, show i < xs.length by omega]
  have hwi := hw i (by have := h.len; omega)
  apply List.ext_getElem
  · rw [mixL_len, hwi]
  · intro t h1 h2
    rw [mixL_len] at h1
    have e : ∀ (l : List B) (ht : t < l.length), l[t] = l.getD t 0 := fun l ht => by rw [List.getD_eq_getElem?_getD, List.getElem?_eq_getElem ht]; rfl
    rw [e, e, mixL_get h1, wtsL_len, ptsL_len]
    have hg : ∀ r, r < k → ((decL k (idxB (xs.take k)) hk wide).getD r []).getD t 0 = sm (idxB (xs.take k)).length fun s => (hk.getD s []).getD t 0 * lag (idxB (xs.take k)) s (ofB r) := by
      intro r hr
      unfold decL turnL
      rw [List.map_map, getD_range _ _ hr]
      show (mixL _ _ _).getD t 0 = _
      rw [mixL_get h1, wtsL_len]
      exact sm_congr fun s hs => by rw [wtsL_get hs]
    rw [show (sm k fun r => ((decL k (idxB (xs.take k)) hk wide).getD r []).getD t 0 * (wtsL (ptsL k) (ofB (xs.getD i 0).toNat)).getD r 0) =
        sm (ptsL k).length fun r => (sm (idxB (xs.take k)).length fun s => (hk.getD s []).getD t 0 * lag (idxB (xs.take k)) s ((ptsL k).getD r 0)) * lag (ptsL k) r (ofB (xs.getD i 0).toNat) by
      rw [ptsL_len]
      exact sm_congr fun r hr => by rw [hg r hr, wtsL_get (by rw [ptsL_len]; exact hr), ptsL_get hr]]
    rw [through hY hX (by rw [hYL, ptsL_len]) (fun s => (hk.getD s []).getD t 0) (ofB (xs.getD i 0).toNat), ← hyi]
    exact sm_unit hY (fun s => (hk.getD s []).getD t 0) (by rw [hYL]; exact hi)

end Go.Proofs.Ytaaahbpeaamjgaa
