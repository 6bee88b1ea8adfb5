/-
  CacheEnds: asks that are laid one behind the other.
-/
import Derived.Test.YtlmpagicjgldkaaGreatRcK
namespace Go.Proofs.YtlmpagicjgldkaaGreat
open Go.RowKit Go.Maps
set_option linter.unusedVariables false
set_option linter.unusedSimpArgs false
set_option maxRecDepth 100000
set_option maxHeartbeats 4000000

theorem row_cells {w : World} {base size n : Nat} {e : TypeId} {v : Value} {us : List Value} (h : w.ownsRow base e size v n us) (hn : 0 < n) : ∃ g cap, v = .slice (some ⟨g, 0, none⟩) n cap ∧ n ≤ cap ∧ ∀ j, j < n * size → w.cell? ⟨g, j, none⟩ = us[j]? := by
  obtain ⟨h0, h1⟩ := h
  rcases h1 with ⟨rfl, hz⟩ | ⟨g, cap, cur, rfl, h2, h3, h4, h5, h6, h7⟩
  · omega
  · refine ⟨g, cap, rfl, h4, fun i hi => ?_⟩
    rw [cell_of h3, ← h7, List.getElem?_take, if_pos hi, Array.getElem?_toList]
theorem infoAsk : (Tryz.prog.info? 34).map (fun i => (i.zero, i.size, i.bytes)) = some (some (.agg #[.int .i64 0, .int .i64 0, .int .i64 0, .int .u8 0, .slice none 0 0]), 5, 56) := by kernel_rfl
def askCells (a : AskI) (u : Value) : List Value := [.int .i64 a.what, .int .i64 a.k, .int .i64 a.long, bv a.first, u]
/-- Asks, laid one behind the other in a row of their own. -/
def AskRow (w : World) (base : Nat) (v : Value) (l : List AskI) (us uv : List Value) : Prop :=
  w.ownsRow base 34 5 v l.length us ∧ uv.length = l.length ∧
  (∀ i (h : i < l.length), us[i * 5]? = some (.int .i64 l[i].what) ∧ us[i * 5 + 1]? = some (.int .i64 l[i].k) ∧ us[i * 5 + 2]? = some (.int .i64 l[i].long) ∧ us[i * 5 + 3]? = some (bv l[i].first) ∧ us[i * 5 + 4]? = uv[i]?) ∧
  (∀ i u (h : i < l.length), uv[i]? = some u → IntsAt w u l[i].ix ∧ ∀ b, u.ownBlock = some b → b < w.heap.size ∧ v.ownBlock ≠ some b) ∧
  ∀ x ∈ l, x.ix.length ≤ 3
section
variable {w w' : World} {base : Nat} {v : Value} {l : List AskI} {us uv : List Value}
theorem AskRow.nil (w : World) (base : Nat) : AskRow w base (.slice none 0 0) [] [] [] := ⟨World.ownsRow_nil _ _ _ _, rfl, fun i h => absurd h (by simp), fun i u h => absurd h (by simp), fun x h => by simp at h⟩
theorem AskRow.below (h : AskRow w base v l us uv) (hb : Below w.heap.size w w') : AskRow w' base v l us uv := by
  obtain ⟨h1, h2, h3, h4, h5⟩ := h
  refine ⟨ownsRow_keptS h1 (Kept.below hb) (fun _ _ h => h), h2, h3, fun i u hi e => ⟨(h4 i u hi e).1.below hb, fun b hu => ⟨Nat.lt_of_lt_of_le ((h4 i u hi e).2 b hu).1 hb.size, ((h4 i u hi e).2 b hu).2⟩⟩, h5⟩
theorem AskRow.asks (h : AskRow w base v l us uv) : AsksAt w v l := by
  obtain ⟨h1, h2, h3, h4, h5⟩ := h
  by_cases h0 : 0 < l.length
  · obtain ⟨g, cap, rfl, hcap, hc⟩ := row_cells h1 h0
    refine ⟨_, cap, rfl, hcap, fun _ => ⟨g, 0, rfl, fun i hi => ?_⟩⟩
    obtain ⟨q0, q1, q2, q3, q4⟩ := h3 i hi
    have hu : uv[i]? = some (uv[i]'(by omega)) := List.getElem?_eq_getElem (by omega)
    rw [Nat.zero_add]
    exact ⟨(hc _ (by omega)).trans q0, (hc _ (by omega)).trans q1, (hc _ (by omega)).trans q2, (hc _ (by omega)).trans q3, _, ((hc _ (by omega)).trans q4).trans hu, (h4 i _ hi hu).1⟩
  · have hl : l.length = 0 := by omega
    rcases h1.2 with ⟨rfl, _⟩ | ⟨g, cap, cur, rfl, _, _, hcap, _⟩
    · exact ⟨none, 0, by rw [hl], by omega, fun h => absurd h h0⟩
    · exact ⟨_, cap, rfl, hcap, fun h => absurd h h0⟩
theorem AskRow.bulk (h : AskRow w base v l us uv) : ∀ i (hi : i < l.length), l[i].ix.length ≤ 140737488355328 := fun i hi => by
  have := h.2.2.2.2 _ (List.getElem_mem hi)
  omega
theorem AskRow.push {v' u : Value} {a : AskI} (h : AskRow w base v l us uv) (hu : IntsAt w u a.ix) (hub : ∀ b, u.ownBlock = some b → b < w.heap.size ∧ v.ownBlock ≠ some b) (h3 : a.ix.length ≤ 3) (ho : w'.ownsRow base 34 5 v' (l.length + 1) (us ++ askCells a u)) (hk : Kept (fun k => v.ownBlock = some k) w w') (hv : ∀ b, v'.ownBlock = some b → v.ownBlock = some b ∨ w.heap.size ≤ b) :
    AskRow w' base v' (l ++ [a]) (us ++ askCells a u) (uv ++ [u]) := by
  obtain ⟨k1, k2, k3, k4, k5⟩ := h
  have hus : us.length = l.length * 5 := k1.1
  have hl : (l ++ [a]).length = l.length + 1 := by simp
  refine ⟨by rw [hl]; exact ho, by simp [k2], fun i hi => ?_, fun i z hi hz => ?_, fun x hx => ?_⟩
  · rw [hl] at hi
    by_cases e : i < l.length
    · obtain ⟨q0, q1, q2, q3, q4⟩ := k3 i e
      rw [List.getElem_append_left e, List.getElem?_append_left (by omega), List.getElem?_append_left (by omega), List.getElem?_append_left (by omega), List.getElem?_append_left (by omega), List.getElem?_append_left (by omega), List.getElem?_append_left (by omega)]
      exact ⟨q0, q1, q2, q3, q4⟩
    · obtain rfl : i = l.length := by omega
      rw [List.getElem_append_right (by omega), List.getElem?_append_right (by omega), List.getElem?_append_right (by omega), List.getElem?_append_right (by omega), List.getElem?_append_right (by omega), List.getElem?_append_right (by omega), List.getElem?_append_right (by omega), hus, k2,
        show l.length * 5 - l.length * 5 = 0 by omega, show l.length * 5 + 1 - l.length * 5 = 1 by omega, show l.length * 5 + 2 - l.length * 5 = 2 by omega, show l.length * 5 + 3 - l.length * 5 = 3 by omega, show l.length * 5 + 4 - l.length * 5 = 4 by omega]
      simp [askCells]
  · have hold : ∀ x ys, IntsAt w x ys → (∀ b, x.ownBlock = some b → b < w.heap.size ∧ v.ownBlock ≠ some b) → IntsAt w' x ys ∧ ∀ b, x.ownBlock = some b → b < w'.heap.size ∧ v'.ownBlock ≠ some b := fun x ys hx hb => ⟨hx.keptB hk (fun b e hs => (hb b e).2 hs), fun b e => ⟨Nat.lt_of_lt_of_le (hb b e).1 hk.size, fun q => by
      rcases hv b q with h | h
      · exact (hb b e).2 h
      · have := (hb b e).1
        omega⟩⟩
    rw [hl] at hi
    by_cases e : i < l.length
    · rw [List.getElem?_append_left (by omega)] at hz
      rw [List.getElem_append_left e]
      exact hold _ _ (k4 i z e hz).1 (k4 i z e hz).2
    · obtain rfl : i = l.length := by omega
      rw [List.getElem?_append_right (by omega), k2, Nat.sub_self] at hz
      obtain rfl : u = z := by simpa using hz
      rw [List.getElem_append_right (by omega)]
      simp only [Nat.sub_self, List.getElem_cons_zero]
      exact hold _ _ hu hub
  · rcases List.mem_append.1 hx with h | h
    · exact k5 x h
    · obtain rfl : x = a := by simpa using h
      exact h3
end
end Go.Proofs.YtlmpagicjgldkaaGreat
