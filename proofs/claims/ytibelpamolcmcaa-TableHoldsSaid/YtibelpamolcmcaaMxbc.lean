/-
  Layer 18, plain: groups that are crowded out; what a put leaves.
-/
import Derived.Test.YtibelpamolcmcaaMxbb
namespace Go.Proofs.Ytibelpamolcmcaa
open Go.RowKit Go.Maps
set_option linter.unusedVariables false
set_option linter.unusedSimpArgs false

/-- Those of other frames. -/
def othersG (f : Int) (gs : List GD) : List GD := gs.filter fun g => decide (g.H.frame ≠ f)
def firstO (f : Int) (gs : List GD) : Nat := gs.findIdx fun g => decide (g.H.frame ≠ f)
/-- Without the first one of another frame. -/
def cutO (f : Int) (gs : List GD) : List GD := gs.take (firstO f gs) ++ gs.drop (firstO f gs + 1)
def cutsO (f : Int) (gs : List GD) : Nat → List GD
  | 0 => gs
  | m + 1 => cutO f (cutsO f gs m)
theorem firstO_split {f : Int} : ∀ {gs : List GD}, 0 < (othersG f gs).length → ∃ A x B, gs = A ++ x :: B ∧ (∀ g ∈ A, g.H.frame = f) ∧ x.H.frame ≠ f ∧ firstO f gs = A.length
  | [], h => by simp [othersG] at h
  | g :: r, h => by
    by_cases e : g.H.frame = f
    · have h2 : 0 < (othersG f r).length := by simpa [othersG, e] using h
      obtain ⟨A, x, B, h3, h4, h5, h6⟩ := firstO_split h2
      refine ⟨g :: A, x, B, by rw [h3]; rfl, fun y hy => ?_, h5, ?_⟩
      · rcases List.mem_cons.1 hy with rfl | hy
        · exact e
        · exact h4 y hy
      · unfold firstO at h6 ⊢
        rw [List.findIdx_cons]
        simp only [ne_eq, decide_not] at h6
        simp [e, h6]
    · exact ⟨[], g, r, rfl, fun y hy => by simp at hy, e, by unfold firstO; rw [List.findIdx_cons]; simp [e]⟩
theorem firstO_lt {f : Int} {gs : List GD} (h : 0 < (othersG f gs).length) : firstO f gs < gs.length := by
  obtain ⟨A, x, B, h1, _, _, h4⟩ := firstO_split h
  rw [h4, h1]
  simp
theorem firstO_none {f : Int} {gs : List GD} (h : ¬ 0 < (othersG f gs).length) : firstO f gs = gs.length := by
  unfold firstO
  refine List.findIdx_eq_length.2 fun g hg => ?_
  cases e : decide (g.H.frame ≠ f) with
  | false => rfl
  | true =>
    have : g ∈ othersG f gs := by simp only [othersG, List.mem_filter]; exact ⟨hg, e⟩
    have := List.length_pos_of_mem this
    exact absurd this h
theorem cutO_split {f : Int} {gs : List GD} (h : 0 < (othersG f gs).length) : ∃ A x B, gs = A ++ x :: B ∧ cutO f gs = A ++ B ∧ (∀ g ∈ A, g.H.frame = f) ∧ x.H.frame ≠ f ∧ gs.getD (firstO f gs) default = x ∧ othersG f gs = x :: othersG f (cutO f gs) := by
  obtain ⟨A, x, B, h1, h2, h3, h4⟩ := firstO_split h
  have hA : othersG f A = [] := List.filter_eq_nil_iff.2 fun g hg => by simp [h2 g hg]
  have hc : cutO f gs = A ++ B := by
    unfold cutO
    rw [h4, h1, List.take_left, show A ++ x :: B = (A ++ [x]) ++ B by simp, show A.length + 1 = (A ++ [x]).length by simp, List.drop_left]
  refine ⟨A, x, B, h1, hc, h2, h3, ?_, ?_⟩
  · rw [h4, h1]
    simp [List.getD_eq_getElem?_getD]
  · rw [hc]
    have e1 : othersG f gs = othersG f A ++ othersG f (x :: B) := by rw [h1]; exact List.filter_append ..
    have e2 : othersG f (A ++ B) = othersG f A ++ othersG f B := List.filter_append ..
    have e3 : othersG f (x :: B) = x :: othersG f B := by simp [othersG, h3]
    rw [e1, e2, e3, hA]
    rfl
theorem cutO_len {f : Int} {gs : List GD} (h : 0 < (othersG f gs).length) : (cutO f gs).length + 1 = gs.length := by
  obtain ⟨A, x, B, h1, h2, _⟩ := cutO_split h
  rw [h2, h1]
  simp
  omega
theorem cutO_sub (f : Int) (gs : List GD) : (cutO f gs).Sublist gs := by
  by_cases h : 0 < (othersG f gs).length
  · obtain ⟨A, x, B, h1, h2, _⟩ := cutO_split h
    rw [h2, h1]
    exact List.Sublist.append (List.Sublist.refl A) (List.sublist_cons_self x B)
  · unfold cutO
    rw [firstO_none h, List.take_of_length_le (Nat.le_refl _), List.drop_eq_nil_of_le (by omega), List.append_nil]
    exact List.Sublist.refl _
theorem cutsO_sub (f : Int) (gs : List GD) : ∀ m, (cutsO f gs m).Sublist gs
  | 0 => List.Sublist.refl _
  | m + 1 => (cutO_sub f _).trans (cutsO_sub f gs m)
theorem cutO_total {f : Int} {gs : List GD} (h : 0 < (othersG f gs).length) : totalG (cutO f gs) + bytesG (gs.getD (firstO f gs) default) = totalG gs := by
  obtain ⟨A, x, B, h1, h2, _, _, h5, _⟩ := cutO_split h
  rw [h5, h2, h1, totalG_app, totalG_app, totalG_cons]
  omega
theorem cutsO_others {f : Int} {gs : List GD} : ∀ {m : Nat}, m ≤ (othersG f gs).length → othersG f (cutsO f gs m) = (othersG f gs).drop m
  | 0, _ => rfl
  | m + 1, h => by
    have ih := cutsO_others (f := f) (gs := gs) (m := m) (by omega)
    have h0 : 0 < (othersG f (cutsO f gs m)).length := by rw [ih, List.length_drop]; omega
    obtain ⟨A, x, B, _, _, _, _, _, h6⟩ := cutO_split h0
    show othersG f (cutO f (cutsO f gs m)) = _
    have e : (othersG f (cutsO f gs m)).drop 1 = othersG f (cutO f (cutsO f gs m)) := by rw [h6]; rfl
    rw [← e, ih, List.drop_drop]
theorem cutsO_next {f : Int} {gs : List GD} {m : Nat} (h : m < (othersG f gs).length) : (othersG f gs).take (m + 1) = (othersG f gs).take m ++ [(cutsO f gs m).getD (firstO f (cutsO f gs m)) default] := by
  have e := cutsO_others (f := f) (gs := gs) (m := m) (by omega)
  have h0 : 0 < (othersG f (cutsO f gs m)).length := by rw [e, List.length_drop]; omega
  obtain ⟨A, x, B, _, _, _, _, h5, h6⟩ := cutO_split h0
  rw [h5, List.take_succ_eq_append_getElem h]
  congr 2
  have : (othersG f gs)[m] = (othersG f (cutsO f gs m))[0] := by simp [e]
  rw [this]
  simp [h6]
theorem cutsO_len {f : Int} {gs : List GD} : ∀ {m : Nat}, m ≤ (othersG f gs).length → (cutsO f gs m).length + m = gs.length
  | 0, _ => rfl
  | m + 1, h => by
    have ih := cutsO_len (f := f) (gs := gs) (m := m) (by omega)
    have e := cutsO_others (f := f) (gs := gs) (m := m) (by omega)
    have h0 : 0 < (othersG f (cutsO f gs m)).length := by rw [e, List.length_drop]; omega
    have := cutO_len h0
    show (cutO f (cutsO f gs m)).length + (m + 1) = _
    omega
/-- Those of the frame stay. -/
theorem cutO_own {f : Int} {gs : List GD} : (cutO f gs).filter (fun g => decide (g.H.frame = f)) = gs.filter (fun g => decide (g.H.frame = f)) := by
  by_cases h : 0 < (othersG f gs).length
  · obtain ⟨A, x, B, h1, h2, _, h4, _⟩ := cutO_split h
    rw [h2, h1, List.filter_append, List.filter_append, List.filter_cons_of_neg (by simp [h4])]
  · unfold cutO
    rw [firstO_none h, List.take_of_length_le (Nat.le_refl _), List.drop_eq_nil_of_le (by omega), List.append_nil]
theorem cutsO_own {f : Int} {gs : List GD} : ∀ (m : Nat), (cutsO f gs m).filter (fun g => decide (g.H.frame = f)) = gs.filter (fun g => decide (g.H.frame = f))
  | 0 => rfl
  | m + 1 => by
    show (cutO f (cutsO f gs m)).filter _ = _
    rw [cutO_own, cutsO_own m]
theorem cutsO_frame {f : Int} {gs : List GD} (m : Nat) : f ∈ framesG (cutsO f gs m) ↔ f ∈ framesG gs := by
  have e := cutsO_own (f := f) (gs := gs) m
  have key : ∀ l : List GD, f ∈ framesG l ↔ l.filter (fun g => decide (g.H.frame = f)) ≠ [] := fun l => by
    simp only [framesG, List.mem_map, ne_eq, List.filter_eq_nil_iff, Classical.not_forall]
    constructor
    · rintro ⟨g, h1, h2⟩
      exact ⟨g, h1, by simp [h2]⟩
    · rintro ⟨g, h1, h2⟩
      exact ⟨g, h1, by simpa using h2⟩
  rw [key, key, e]
/-- A frame is in one group at most. -/
theorem nodup_own {f : Int} : ∀ {gs : List GD}, (framesG gs).Nodup → posG f gs < gs.length → gs.filter (fun g => decide (g.H.frame = f)) = [gs.getD (posG f gs) default]
  | [], _, h => by simp at h
  | g :: r, hn, h => by
    have hn2 := List.nodup_cons.1 (show (g.H.frame :: framesG r).Nodup from hn)
    by_cases e : g.H.frame = f
    · have hp : posG f (g :: r) = 0 := by unfold posG; rw [List.findIdx_cons]; simp [e]
      have hr : r.filter (fun g => decide (g.H.frame = f)) = [] := List.filter_eq_nil_iff.2 fun y hy => by
        have : y.H.frame ∈ framesG r := List.mem_map.2 ⟨y, hy, rfl⟩
        have h5 : y.H.frame ≠ f := fun e2 => hn2.1 (by rw [e, ← e2]; exact this)
        simp [h5]
      rw [List.filter_cons_of_pos (by simp [e]), hr, hp]
      rfl
    · have hp : posG f (g :: r) = posG f r + 1 := by unfold posG; rw [List.findIdx_cons]; simp [e]
      have h2 : posG f r < r.length := by rw [hp] at h; simpa using h
      rw [List.filter_cons_of_neg (by simp [e]), nodup_own hn2.2 h2, hp]
      simp [List.getD_eq_getElem?_getD]
theorem total_split (f : Int) : ∀ (gs : List GD), totalG gs = totalG (gs.filter (fun g => decide (g.H.frame = f))) + totalG (othersG f gs)
  | [] => rfl
  | g :: r => by
    have ih := total_split f r
    by_cases e : g.H.frame = f
    · rw [List.filter_cons_of_pos (by simp [e]), show othersG f (g :: r) = othersG f r by simp [othersG, e], totalG_cons, totalG_cons]
      omega
    · rw [List.filter_cons_of_neg (by simp [e]), show othersG f (g :: r) = g :: othersG f r by simp [othersG, e], totalG_cons, totalG_cons]
      omega
theorem total_sub {l m : List GD} (h : l.Sublist m) : totalG l ≤ totalG m := by
  induction h with
  | slnil => exact Nat.le_refl _
  | cons a _ ih => rw [totalG_cons]; omega
  | cons_cons a _ ih => rw [totalG_cons, totalG_cons]; omega

/-- What holds of a table's groups. -/
structure TabP (gn cn : Int) (gs : List GD) : Prop where
  srt : (gs.map entG).Pairwise AheadO
  nod : (framesG gs).Nodup
  cnt : (gs.length : Int) ≤ gn
  sum : (totalG gs : Int) ≤ cn
  few : gn ≤ 64
  low : cn ≤ 1048576
  pos : 1 ≤ gn
theorem TabP.sub {gn cn : Int} {gs l : List GD} (h : TabP gn cn gs) (hs : l.Sublist gs) : TabP gn cn l :=
  ⟨h.srt.sublist (hs.map _), List.Pairwise.sublist (hs.map _) h.nod, by have := hs.length_le; have := h.cnt; omega, by have := total_sub hs; have := h.sum; omega, h.few, h.low, h.pos⟩
/-- There is something to crowd out, as long as there is no room. -/
theorem more_others {gn cn : Int} {gs : List GD} {h : HeadV} {n m : Nat} (hp : TabP gn cn gs) (he : refE gs h n cn = 0) (hm : m ≤ (othersG h.frame gs).length) (hf : cn < (totalG (cutsO h.frame gs m) : Int) + (n : Int)) : m < (othersG h.frame gs).length := by
  refine Nat.lt_of_not_le fun hge => ?_
  have e := cutsO_others (f := h.frame) (gs := gs) hm
  rw [List.drop_eq_nil_of_le hge] at e
  have e2 := total_split h.frame (cutsO h.frame gs m)
  rw [e, cutsO_own, totalG_nil] at e2
  unfold refE at he
  split at he
  · cases he
  · split at he
    · rename_i hpos
      rw [nodup_own hp.nod hpos, totalG_cons, totalG_nil] at e2
      split at he <;> (try cases he)
      split at he <;> (try cases he)
      split at he <;> (try cases he)
      split at he <;> (try cases he)
      omega
    · rename_i hpos
      have : gs.filter (fun g => decide (g.H.frame = h.frame)) = [] := List.filter_eq_nil_iff.2 fun y hy => by simp [posG_none hpos y hy]
      rw [this, totalG_nil] at e2
      split at he <;> (try cases he)
      split at he <;> (try cases he)
      omega

theorem refE_zero {gs : List GD} {h : HeadV} {n : Nat} {cn : Int} (he : refE gs h n cn = 0) : HeadOk h ∧ n = atT h.rows h.rows.length ∧ (posG h.frame gs < gs.length → LikeH h (gs.getD (posG h.frame gs) default).H ∧ h.index ∉ (gs.getD (posG h.frame gs) default).hs.map (·.1)) := by
  unfold refE at he
  split at he
  · cases he
  · rename_i h1
    have h1 : HeadOk h := by simpa using h1
    split at he
    · rename_i h2
      split at he
      · cases he
      · rename_i h3
        split at he
        · cases he
        · rename_i h4
          split at he
          · cases he
          · rename_i h5
            have h5 : n = atT h.rows h.rows.length := by simpa using h5
            exact ⟨h1, h5, fun _ => ⟨by simpa using h3, fun h6 => h4 ⟨h6, h5⟩⟩⟩
    · rename_i h2
      split at he
      · cases he
      · rename_i h5
        exact ⟨h1, by simpa using h5, fun h6 => absurd h6 h2⟩
theorem own_same {f : Int} {gs : List GD} (hn : (framesG gs).Nodup) (m : Nat) (h : posG f (cutsO f gs m) < (cutsO f gs m).length) : posG f gs < gs.length ∧ (cutsO f gs m).getD (posG f (cutsO f gs m)) default = gs.getD (posG f gs) default := by
  have h1 : posG f gs < gs.length := posG_mem.2 ((cutsO_frame m).1 (posG_mem.1 h))
  have e1 := nodup_own (f := f) hn h1
  have e2 := nodup_own (f := f) (List.Pairwise.sublist ((cutsO_sub f gs m).map _) hn) h
  rw [cutsO_own, e1] at e2
  exact ⟨h1, (List.cons.inj e2).1.symm⟩

/-- What a put leaves: which groups are crowded out, what stands in the table. -/
structure PutR (gs : List GD) (h : HeadV) (l : List B) (gn cn : Int) (gs' outs : List GD) (m : Nat) : Prop where
  le : m ≤ (othersG h.frame gs).length
  outs : outs = (othersG h.frame gs).take m
  fits : (totalG (cutsO h.frame gs m) : Int) + (l.length : Int) ≤ cn
  least : ∀ m', m' < m → cn < (totalG (cutsO h.frame gs m') : Int) + (l.length : Int) ∨ (h.frame ∉ framesG gs ∧ gn ≤ ((cutsO h.frame gs m').length : Int))
  now : (∃ V', posG h.frame (cutsO h.frame gs m) < (cutsO h.frame gs m).length ∧ h.index ∉ ((cutsO h.frame gs m).getD (posG h.frame (cutsO h.frame gs m)) default).hs.map (·.1) ∧
      gs' = (cutsO h.frame gs m).set (posG h.frame (cutsO h.frame gs m)) { (cutsO h.frame gs m).getD (posG h.frame (cutsO h.frame gs m)) default with hs := insH h.index l ((cutsO h.frame gs m).getD (posG h.frame (cutsO h.frame gs m)) default).hs, V := V' }) ∨
    (h.frame ∉ framesG gs ∧ ((cutsO h.frame gs m).length : Int) + 1 ≤ gn ∧ ∃ (k : Nat) (g : GD), k ≤ (cutsO h.frame gs m).length ∧ (∀ j, j < k → AheadO (((cutsO h.frame gs m).map entG).getD j (0, 0, 0)) (entG g)) ∧ (∀ j, k ≤ j → j < (cutsO h.frame gs m).length → ¬ AheadO (((cutsO h.frame gs m).map entG).getD j (0, 0, 0)) (entG g)) ∧
      g.H = h ∧ g.hs = [(h.index, l)] ∧ gs' = (cutsO h.frame gs m).take k ++ g :: (cutsO h.frame gs m).drop k)
end Go.Proofs.Ytibelpamolcmcaa
