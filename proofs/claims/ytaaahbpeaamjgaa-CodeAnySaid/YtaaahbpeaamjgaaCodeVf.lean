/-
  CodeAny: what is told is the source (plain).
-/
import Derived.Test.YtaaahbpeaamjgaaCodeVd
namespace Go.Proofs.Ytaaahbpeaamjgaa
open Go.RowKit Go.Maps
set_option linter.unusedVariables false
set_option maxRecDepth 100000
set_option maxHeartbeats 2000000

theorem RowsAt.take {w : World} {p : Option Addr} {n c m : Nat} {l : List (List B)} (h : RowsAt w (.slice p n c) l) (hm : m ≤ l.length) : RowsAt w (.slice p m c) (l.take m) := by
  obtain ⟨_, _, e, hh⟩ := h
  simp only [Value.slice.injEq] at e
  obtain ⟨rfl, rfl, rfl⟩ := e
  have hl : (l.take m).length = m := by simp; omega
  refine ⟨p, c, by rw [hl], fun h0 => ?_⟩
  rw [hl] at h0
  obtain ⟨g, o, rfl, hc⟩ := hh (by omega)
  refine ⟨g, o, rfl, fun i hi => ?_⟩
  rw [hl] at hi
  obtain ⟨u, a, b⟩ := hc i (by omega)
  exact ⟨u, a, by rw [show (l.take m).getD i [] = l.getD i [] by simp [List.getD_eq_getElem?_getD, hi]]; exact b⟩
theorem HeldAt.take {w : World} {p : Option Addr} {n c m : Nat} {l : List (Int × List B)} (h : HeldAt w (.slice p n c) l) (hm : m ≤ l.length) : HeldAt w (.slice p m c) (l.take m) := by
  obtain ⟨_, _, e, hcap, hh⟩ := h
  simp only [Value.slice.injEq] at e
  obtain ⟨rfl, rfl, rfl⟩ := e
  have hl : (l.take m).length = m := by simp; omega
  refine ⟨p, c, by rw [hl], by omega, fun h0 => ?_⟩
  rw [hl] at h0
  obtain ⟨g, o, rfl, hc⟩ := hh (by omega)
  refine ⟨g, o, rfl, fun i hi => ?_⟩
  rw [hl] at hi
  rw [show (l.take m).getD i (0, []) = l.getD i (0, []) by simp [List.getD_eq_getElem?_getD, hi]]
  exact hc i (by omega)
theorem hsOf_take (L : List (List B)) (xs : List Nat) (m : Nat) : (hsOf L xs).take m = hsOf L (xs.take m) := by simp [hsOf, List.map_take]

section
variable {all k wide : Nat} {ls L : List (List B)} {xs : List Nat}
theorem dec_is (hL : encL all k ls wide = L) (hn : xs.Nodup) (hr : ∀ x ∈ xs, x < all) (hk : k ≤ xs.length) (hls : ls.length = k) (hka : k ≤ all) (ha : all ≤ 255) (hw : ∀ i, i < ls.length → (ls.getD i []).length = wide) :
    decL k (idxB ((hIdx (hsOf L xs)).take k)) (hRow (hsOf L xs)) wide = ls := by
  subst hL
  rw [hsOf_idx, hsOf_row]
  have := dec_src (ask_of hn hr hk) hls hka ha hw
  rw [List.map_map] at this
  exact this
theorem mul_is (hL : encL all k ls wide = L) (hn : xs.Nodup) (hr : ∀ x ∈ xs, x < all) (hk : k ≤ xs.length) (hls : ls.length = k) (hka : k ≤ all) (ha : all ≤ 255) (hw : ∀ i, i < ls.length → (ls.getD i []).length = wide) :
    ((List.range k).map fun r => rowL wide (mulP ((List.range k).map fun r => rowL k fun s => lag (idxB ((xs.map fun (x : Nat) => (x : Int)).take k)) s (ofB r)) (hRow ((hsOf L xs).take k)) k r)) = ls := by
  have h := dec_is hL hn hr hk hls hka ha hw
  rw [hsOf_idx] at h
  rw [← h]
  unfold decL turnL
  rw [List.map_map]
  refine List.map_congr_left fun r hr' => ?_
  have hrk := List.mem_range.1 hr'
  have hYL : (idxB ((xs.map fun (x : Nat) => (x : Int)).take k)).length = k := by rw [idxB_len]; simp; omega
  show rowL wide _ = mixL (wtsL _ (ofB r)) _ wide
  unfold mixL rowL
  refine List.map_congr_left fun c hc => ?_
  unfold mulP
  rw [wtsL_len, hYL]
  refine sm_congr fun s hs => ?_
  unfold lsM
  rw [getD_range _ _ hrk, getD_range _ _ hs, wtsL_get (by rw [hYL]; exact hs)]
  rw [show (hRow ((hsOf L xs).take k)).getD s [] = (hRow (hsOf L xs)).getD s [] by
    unfold hRow
    rw [List.map_take]
    simp [List.getD_eq_getElem?_getD, hs]]
end

end Go.Proofs.Ytaaahbpeaamjgaa
