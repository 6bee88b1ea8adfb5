/-
  TbX: Layer 18: plain laws: the frames behind a put.
  TbY: Layer 18: plain laws: what holds of a table's groups, behind a put where a new group comes.
  TbZ: Layer 18: plain laws: what holds of a table's groups, behind a put where a new group comes.
-/
import Derived.Test.YtibelpamolcmcaaMxbg
namespace Go.Proofs.Ytibelpamolcmcaa

section -- TbX
set_option linter.unusedVariables false
set_option linter.unusedSimpArgs false
set_option maxHeartbeats 1000000

theorem framesG_set {L : List GD} {p : Nat} {y : GD} (hp : p < L.length) (e : y.H = (L.getD p default).H) : framesG (L.set p y) = framesG L := by
  unfold framesG
  rw [List.map_set, e]
  refine List.ext_getElem (by simp) fun i h1 h2 => ?_
  rw [List.getElem_set]
  split
  · next q =>
    subst q
    simp [List.getD_eq_getElem?_getD, hp]
  · rfl
/-- The frames behind a put: those that stay, and the one that is put. -/
theorem PutR.frames {gs gs' outs : List GD} {h : HeadV} {l : List B} {gn cn : Int} {m : Nat} (H : PutR gs h l gn cn gs' outs m) (x : Int) : x ∈ framesG gs' ↔ x = h.frame ∨ x ∈ framesG (cutsO h.frame gs m) := by
  rcases H.now with ⟨V', h1, _, hgs⟩ | ⟨_, _, k, g, _, _, _, hg, _, rfl⟩
  · have e9 : framesG gs' = framesG (cutsO h.frame gs m) := by
      rw [hgs]
      exact framesG_set h1 rfl
    rw [e9]
    refine ⟨.inr, fun h2 => ?_⟩
    rcases h2 with rfl | h2
    · exact posG_mem.1 h1
    · exact h2
  · have e : framesG (cutsO h.frame gs m) = framesG ((cutsO h.frame gs m).take k) ++ framesG ((cutsO h.frame gs m).drop k) := by
      unfold framesG
      rw [← List.map_append, List.take_append_drop]
    have e2 : framesG ((cutsO h.frame gs m).take k ++ g :: (cutsO h.frame gs m).drop k) = framesG ((cutsO h.frame gs m).take k) ++ h.frame :: framesG ((cutsO h.frame gs m).drop k) := by
      unfold framesG
      rw [List.map_append, List.map_cons, hg]
    rw [e, e2]
    simp only [List.mem_append, List.mem_cons]
    constructor
    · rintro (q | q | q)
      · exact .inr (.inl q)
      · exact .inl q
      · exact .inr (.inr q)
    · rintro (q | q | q)
      · exact .inr (.inl q)
      · exact .inl q
      · exact .inr (.inr q)
theorem butN_frames (f : Int) (gs : List GD) : butN f (framesG gs) = framesG (othersG f gs) := by
  unfold butN framesG othersG
  rw [List.filter_map]
  congr 1
  refine List.filter_congr fun g _ => ?_
  simp
/-- What is crowded out is, of the others, just the first ones. -/
theorem PutR.crowd {gs gs' outs : List GD} {h : HeadV} {l : List B} {gn cn : Int} {m : Nat} (H : PutR gs h l gn cn gs' outs m) (hn : (framesG gs).Nodup) (j : Nat) (hj : j < (butN h.frame (framesG gs)).length) : (butN h.frame (framesG gs)).getD j 0 ∈ framesG gs' ↔ m ≤ j := by
  have e0 := butN_frames h.frame gs
  have hN : (butN h.frame (framesG gs)).Nodup := List.Pairwise.sublist List.filter_sublist hn
  have hne : (butN h.frame (framesG gs)).getD j 0 ≠ h.frame := by
    rw [List.getD_eq_getElem?_getD, List.getElem?_eq_getElem hj]
    have h5 := (List.mem_filter.1 (show (butN h.frame (framesG gs))[j] ∈ List.filter (fun x => !decide (x = h.frame)) (framesG gs) from List.getElem_mem hj)).2
    intro e
    rw [Option.getD_some] at e
    rw [e] at h5
    simp at h5
  have e1 : butN h.frame (framesG (cutsO h.frame gs m)) = (butN h.frame (framesG gs)).drop m := by
    rw [butN_frames, e0, cutsO_others H.le]
    unfold framesG
    rw [List.map_drop]
  have e2 : (butN h.frame (framesG gs)).getD j 0 ∈ framesG (cutsO h.frame gs m) ↔ (butN h.frame (framesG gs)).getD j 0 ∈ (butN h.frame (framesG gs)).drop m := by
    rw [← e1]
    unfold butN
    rw [List.mem_filter]
    constructor
    · intro q
      exact ⟨q, by simpa [butN] using hne⟩
    · intro q
      exact q.1
  rw [H.frames, e2]
  constructor
  · rintro (q | q)
    · exact absurd q hne
    · obtain ⟨i, hi, e⟩ := List.getElem_of_mem q
      rw [List.getElem_drop, List.getD_eq_getElem?_getD, List.getElem?_eq_getElem hj, Option.getD_some] at e
      have hi' : m + i < (butN h.frame (framesG gs)).length := by rw [List.length_drop] at hi; omega
      have := (List.getElem?_inj (j := j) hi' hN).1 (by rw [List.getElem?_eq_getElem hi', List.getElem?_eq_getElem hj, e])
      omega
  · intro q
    refine .inr ?_
    rw [List.getD_eq_getElem?_getD, List.getElem?_eq_getElem hj, Option.getD_some]
    have : (butN h.frame (framesG gs))[j] = ((butN h.frame (framesG gs)).drop m)[j - m]'(by rw [List.length_drop]; omega) := by
      rw [List.getElem_drop]
      congr 1
      omega
    rw [this]
    exact List.getElem_mem _
theorem PutR.len {gs gs' outs : List GD} {h : HeadV} {l : List B} {gn cn : Int} {m : Nat} (H : PutR gs h l gn cn gs' outs m) : outs.length = m := by
  rw [H.outs, List.length_take]
  have := H.le
  omega
/-- Nothing is crowded out just where there is room. -/
theorem PutR.room {gs gs' outs : List GD} {h : HeadV} {l : List B} {gn cn : Int} {m : Nat} (H : PutR gs h l gn cn gs' outs m) : m = 0 ↔ ((totalG gs : Int) + (l.length : Int) ≤ cn ∧ (h.frame ∈ framesG gs ∨ (gs.length : Int) < gn)) := by
  constructor
  · rintro rfl
    refine ⟨H.fits, ?_⟩
    rcases H.now with ⟨V', h1, _, _⟩ | ⟨_, h2, _⟩
    · exact .inl (posG_mem.1 h1)
    · refine .inr ?_
      have h3 : (((cutsO h.frame gs 0).length : Nat) : Int) = (gs.length : Int) := rfl
      omega
  · rintro ⟨h1, h2⟩
    refine Nat.eq_zero_of_not_pos fun hp => ?_
    rcases H.least 0 hp with q | ⟨q1, q2⟩
    · have h3 : ((totalG (cutsO h.frame gs 0) : Nat) : Int) = (totalG gs : Int) := rfl
      omega
    · rcases h2 with h2 | h2
      · exact q1 h2
      · have h3 : (((cutsO h.frame gs 0).length : Nat) : Int) = (gs.length : Int) := rfl
        omega
end -- TbX

section -- TbY
set_option linter.unusedVariables false
set_option linter.unusedSimpArgs false
set_option maxHeartbeats 1000000

theorem TabP.nil {gn cn : Int} (h1 : 1 ≤ gn) (h2 : gn ≤ 64) (h3 : 0 ≤ cn) (h4 : cn ≤ 1048576) : TabP gn cn [] :=
  ⟨List.Pairwise.nil, List.nodup_nil, by simp; omega, by show ((0 : Nat) : Int) ≤ cn; omega, h2, h4, h1⟩
theorem ahead_other {a b : Ent} (h : ¬ AheadO a b) (hf : a.2.1 ≠ b.2.1) : AheadO b a := by unfold AheadO at *; omega
theorem put_srt {L : List GD} {g : GD} {k : Nat} (hk : k ≤ L.length) (hs : (L.map entG).Pairwise AheadO) (hn : g.H.frame ∉ framesG L)
    (h1 : ∀ j, j < k → AheadO ((L.map entG).getD j (0, 0, 0)) (entG g)) (h2 : ∀ j, k ≤ j → j < L.length → ¬ AheadO ((L.map entG).getD j (0, 0, 0)) (entG g)) : ((L.take k ++ g :: L.drop k).map entG).Pairwise AheadO := by
  rw [List.map_append, List.map_cons, List.map_take, List.map_drop]
  have hcut : ((L.map entG).take k ++ (L.map entG).drop k).Pairwise AheadO := by rw [List.take_append_drop]; exact hs
  rw [List.pairwise_append] at hcut
  obtain ⟨p1, p2, p3⟩ := hcut
  have a1 : ∀ x ∈ (L.map entG).take k, AheadO x (entG g) := fun x hx => by
    obtain ⟨i, hi, e⟩ := List.getElem_of_mem hx
    rw [List.length_take] at hi
    have h5 := h1 i (by omega)
    rw [List.getElem_take] at e
    rw [List.getD_eq_getElem?_getD, List.getElem?_eq_getElem (by omega), e] at h5
    exact h5
  have a2 : ∀ x ∈ (L.map entG).drop k, AheadO (entG g) x := fun x hx => by
    obtain ⟨i, hi, e⟩ := List.getElem_of_mem hx
    rw [List.length_drop, List.length_map] at hi
    rw [List.getElem_drop] at e
    have h5 := h2 (k + i) (by omega) (by omega)
    rw [List.getD_eq_getElem?_getD, List.getElem?_eq_getElem (by rw [List.length_map]; omega), e] at h5
    refine ahead_other h5 (fun q => hn ?_)
    obtain ⟨y, hy, rfl⟩ := List.mem_map.1 (List.mem_of_mem_drop hx)
    exact List.mem_map.2 ⟨y, hy, q⟩
  rw [List.pairwise_append]
  refine ⟨p1, List.pairwise_cons.2 ⟨a2, p2⟩, fun x hx y hy => ?_⟩
  rcases List.mem_cons.1 hy with rfl | hy
  · exact a1 x hx
  · exact p3 x hx y hy
end -- TbY

section -- TbZ
set_option linter.unusedVariables false
set_option linter.unusedSimpArgs false
set_option maxHeartbeats 1000000

theorem put_nod {L : List GD} {g : GD} {k : Nat} (hs : (framesG L).Nodup) (hn : g.H.frame ∉ framesG L) : (framesG (L.take k ++ g :: L.drop k)).Nodup := by
  have e : framesG L = framesG (L.take k) ++ framesG (L.drop k) := by
    unfold framesG
    rw [← List.map_append, List.take_append_drop]
  have e2 : framesG (L.take k ++ g :: L.drop k) = framesG (L.take k) ++ g.H.frame :: framesG (L.drop k) := by
    unfold framesG
    rw [List.map_append, List.map_cons]
  rw [e2]
  rw [e] at hs hn
  exact (List.perm_middle.nodup_iff).2 (List.nodup_cons.2 ⟨hn, hs⟩)
theorem put_total {L : List GD} {g : GD} {k : Nat} : totalG (L.take k ++ g :: L.drop k) = totalG L + bytesG g := by
  have h := totalG_app (L.take k) (L.drop k)
  rw [List.take_append_drop] at h
  rw [totalG_app, totalG_cons]
  omega
theorem put_tabP {gn cn : Int} {L : List GD} {g : GD} {k : Nat} (hp : TabP gn cn L) (hk : k ≤ L.length) (hn : g.H.frame ∉ framesG L)
    (h1 : ∀ j, j < k → AheadO ((L.map entG).getD j (0, 0, 0)) (entG g)) (h2 : ∀ j, k ≤ j → j < L.length → ¬ AheadO ((L.map entG).getD j (0, 0, 0)) (entG g)) (hc : (L.length : Int) + 1 ≤ gn) (ht : (totalG L : Int) + (bytesG g : Int) ≤ cn) : TabP gn cn (L.take k ++ g :: L.drop k) :=
  ⟨put_srt hk hp.srt hn h1 h2, put_nod hp.nod hn, by rw [List.length_append, List.length_cons, List.length_take, List.length_drop]; omega, by rw [put_total]; omega, hp.few, hp.low, hp.pos⟩
end -- TbZ

end Go.Proofs.Ytibelpamolcmcaa
