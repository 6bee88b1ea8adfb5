/-
  The plain law of layer 21, more: the tally of a list of numbers.
-/
import Derived.Test.YtacbmpffpfaciaaHistPlain
namespace Go.Proofs.Ytacbmpffpfaciaa
open Go.Maps

/-- The tally of numbers that were added: those from 1 to n count. -/
def tallyOf (n : Nat) (xs : List Int) : Int → Int := fun k => if 1 ≤ k ∧ k ≤ n then (xs.count k : Int) else 0

theorem tallyOf_nil (n : Nat) : tallyOf n [] = emptyF := by funext k; simp [tallyOf, emptyF]

theorem tallyOf_in {n : Nat} {xs : List Int} {x : Int} (h1 : 1 ≤ x) (h2 : x ≤ n) : tallyOf n (xs ++ [x]) = upd (tallyOf n xs) x 1 := by
  funext k
  unfold tallyOf upd
  by_cases e : k = x
  · subst e; simp [h1, h2, List.count_append]
  · simp [e, List.count_append, Ne.symm e]

theorem tallyOf_out {n : Nat} {xs : List Int} {x : Int} (h : ¬ (1 ≤ x ∧ x ≤ n)) : tallyOf n (xs ++ [x]) = tallyOf n xs := by
  funext k
  unfold tallyOf
  by_cases e : k = x
  · subst e; simp [h]
  · simp [List.count_append, Ne.symm e]

theorem tallyOf_le (n : Nat) (xs : List Int) (k : Int) : 0 ≤ tallyOf n xs k ∧ tallyOf n xs k ≤ xs.length := by
  unfold tallyOf
  have := List.count_le_length (l := xs) (a := k)
  split <;> omega

theorem good_tally {n : Nat} {xs : List Int} (h1 : 1 ≤ n) (h2 : n ≤ 255) (h : xs.length ≤ 65535) : Good n (tallyOf n xs) := by
  refine ⟨fun k => (tallyOf_le n xs k).1, fun k => ?_, fun k hk => ?_, h1, h2⟩
  · have := (tallyOf_le n xs k).2; omega
  · unfold tallyOf at hk
    split at hk
    · assumption
    · omega

theorem sum_upd (f : Int → Int) (k t : Int) : ∀ l : List Int, l.Nodup → (l.map (upd f k t)).sum = (l.map f).sum + (if k ∈ l then t else 0)
  | [], _ => by simp
  | a :: r, h => by
    obtain ⟨h1, h2⟩ := List.nodup_cons.1 h
    have ih := sum_upd f k t r h2
    by_cases e : a = k
    · subst e
      rw [if_neg h1] at ih
      simp only [List.map_cons, List.sum_cons, ih, List.mem_cons, true_or, if_true, upd]
      omega
    · have e2 : (k ∈ a :: r) = (k ∈ r) := by simp [Ne.symm e]
      simp only [List.map_cons, List.sum_cons, ih, e2, upd, e, if_false]
      omega

theorem numsTo_nodup (n : Nat) : (numsTo n).Nodup := (numsTo_sorted n).imp (by intro a b h; omega)

theorem framesOf_upd {n : Nat} {f : Int → Int} {k t : Int} (h1 : 1 ≤ k) (h2 : k ≤ n) : framesOf n (upd f k t) = framesOf n f + t := by
  unfold framesOf
  rw [sum_upd f k t _ (numsTo_nodup n), if_pos (mem_numsTo.2 ⟨h1, h2⟩)]

theorem framesOf_empty (n : Nat) : framesOf n emptyF = 0 := by
  unfold framesOf
  have : ∀ l : List Int, (l.map emptyF).sum = 0 := by
    intro l
    induction l with
    | nil => rfl
    | cons a r ih => rw [List.map_cons, List.sum_cons, ih]; rfl
  exact this _

theorem framesOf_tally_le (n : Nat) : ∀ xs : List Int, 0 ≤ framesOf n (tallyOf n xs) ∧ framesOf n (tallyOf n xs) ≤ xs.length := by
  intro xs
  have key : ∀ k, k ≤ xs.length → 0 ≤ framesOf n (tallyOf n (xs.take k)) ∧ framesOf n (tallyOf n (xs.take k)) ≤ k := by
    intro k
    induction k with
    | zero => intro _; simp [tallyOf_nil, framesOf_empty]
    | succ k ih =>
      intro hk
      have h := ih (by omega)
      have hx : xs[k]? = some xs[k] := List.getElem?_eq_getElem (by omega)
      rw [List.take_add_one, hx, Option.toList_some]
      by_cases hin : 1 ≤ xs[k] ∧ xs[k] ≤ n
      · rw [tallyOf_in hin.1 hin.2, framesOf_upd hin.1 hin.2]; omega
      · rw [tallyOf_out hin]; omega
  have := key xs.length (Nat.le_refl _)
  rwa [List.take_length] at this

theorem countsOf_length_le (n : Nat) (f : Int → Int) : (countsOf n f).length ≤ n := by
  have := keysOf_length_le n f
  simpa [countsOf] using this

theorem countsOf_empty (n : Nat) : countsOf n emptyF = [] := by simp [countsOf, keysOf_empty]

/-- Joined to nothing, what was told is the tally again. -/
theorem joinF_told (h : Int → Int) (j : Int) : ∀ (ks : List Int) (g : Int → Int), ks.Nodup → joinF g (ks.map fun k => (k, h k)) j = g j + (if j ∈ ks then h j else 0)
  | [], g, _ => by simp [joinF]
  | a :: r, g, hd => by
    obtain ⟨h1, h2⟩ := List.nodup_cons.1 hd
    have e : joinF g ((a :: r).map fun k => (k, h k)) = joinF (upd g a (h a)) (r.map fun k => (k, h k)) := rfl
    rw [e, joinF_told h j r _ h2]
    unfold upd
    by_cases e : j = a
    · subst e; simp [h1]
    · simp [e]

theorem join_counts {n : Nat} {f : Int → Int} (hg : Good n f) (ht : ∀ k, f k ≤ 65535) : joinF emptyF (countsOf n f) = f := by
  funext j
  have e : countsOf n f = (keysOf n f).map fun k => (k, f k) := by
    unfold countsOf
    refine List.map_congr_left fun k _ => ?_
    have := ht k
    rw [Int.min_eq_left this]
  rw [e, joinF_told f j _ _ (keysOf_nodup n f)]
  have h0 : emptyF j = 0 := rfl
  rw [h0]
  split
  · omega
  · rename_i hk
    have h1 := hg.pos j
    have h2 : ¬ 0 < f j := fun h => hk (mem_keysOf.2 ⟨hg.off j h, h⟩)
    omega

theorem timesIn_counts {n : Nat} {f : Int → Int} (hg : Good n f) (ht : ∀ k, f k ≤ 65535) : timesIn (countsOf n f) = framesOf n f := by
  rw [framesOf_keys hg]
  unfold timesIn countsOf
  rw [List.map_map]
  congr 1
  refine List.map_congr_left fun k _ => ?_
  have := ht k
  simp only [Function.comp]
  rw [Int.min_eq_left this]

theorem fits_counts {n : Nat} {f : Int → Int} (hg : Good n f) (ht : ∀ k, f k ≤ 65535) : Fits n emptyF (countsOf n f) := by
  refine ⟨Good.empty hg.n1 hg.n255, fun c hc => ?_, fun c hc => ?_, fun k => ?_⟩
  · obtain ⟨k, hk, rfl⟩ := List.mem_map.1 hc
    exact (mem_keysOf.1 hk).1
  · obtain ⟨k, hk, rfl⟩ := List.mem_map.1 hc
    have := hg.pos k
    simp only; omega
  · have e : emptyF k = 0 := rfl
    rw [timesIn_counts hg ht, e]
    have h1 := sum_bound f (fun k => ⟨hg.pos k, Int.le_trans (ht k) (by omega)⟩) (numsTo n)
    have h2 : ∀ l : List Int, (l.map f).sum ≤ 65535 * l.length := by
      intro l
      induction l with
      | nil => simp
      | cons a r ih => have := ht a; simp only [List.map_cons, List.sum_cons, List.length_cons]; omega
    have h3 := h2 (numsTo n)
    rw [numsTo_length] at h3
    have h4 := hg.n255
    unfold framesOf
    omega

/-- The i-th count. -/
theorem countsOf_get {n : Nat} {f : Int → Int} {i : Nat} {c : Int × Int} (h : (countsOf n f)[i]? = some c) : (keysOf n f)[i]? = some c.1 ∧ c.2 = min (f c.1) 65535 := by
  simp only [countsOf, List.getElem?_map, Option.map_eq_some_iff] at h
  obtain ⟨k, hk, rfl⟩ := h
  exact ⟨hk, rfl⟩

theorem countsOf_mem {n : Nat} {f : Int → Int} {c : Int × Int} (h : c ∈ countsOf n f) : (1 ≤ c.1 ∧ c.1 ≤ n) ∧ 0 < f c.1 ∧ c.2 = min (f c.1) 65535 := by
  obtain ⟨k, hk, rfl⟩ := List.mem_map.1 h
  have := mem_keysOf.1 hk
  exact ⟨this.1, this.2, rfl⟩

theorem keysOf_rise {n : Nat} {f : Int → Int} {i : Nat} {a b : Int} (h1 : (keysOf n f)[i]? = some a) (h2 : (keysOf n f)[i + 1]? = some b) : a < b := by
  have hs := keysOf_sorted n f
  rw [List.pairwise_iff_getElem] at hs
  obtain ⟨l1, e1⟩ := List.getElem?_eq_some_iff.1 h1
  obtain ⟨l2, e2⟩ := List.getElem?_eq_some_iff.1 h2
  have := hs i (i + 1) l1 l2 (by omega)
  rw [e1, e2] at this
  exact this

end Go.Proofs.Ytacbmpffpfaciaa
