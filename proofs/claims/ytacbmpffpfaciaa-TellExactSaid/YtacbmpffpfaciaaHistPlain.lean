/-
  The plain law of layer 21: a tally as a function from numbers to times, the datum that it is, the counts that it tells. No program in sight.
-/
import Derived.Maps.Ext
import Derived.Maps.OwnIn
import Derived.Sort.KeysCollected
namespace Go.Proofs.Ytacbmpffpfaciaa
open Go.Maps

/-- THE TALLY: of each number its times. `n` bounds the numbers. -/
structure Good (n : Nat) (f : Int → Int) : Prop where
  pos : ∀ k, 0 ≤ f k
  top : ∀ k, f k ≤ 1099511627776
  off : ∀ k, 0 < f k → 1 ≤ k ∧ k ≤ n
  n1 : 1 ≤ n
  n255 : n ≤ 255

def upd (f : Int → Int) (k t : Int) : Int → Int := fun j => if j = k then f j + t else f j

def numsTo (n : Nat) : List Int := (List.range n).map (fun i : Nat => (i : Int) + 1)

def keysOf (n : Nat) (f : Int → Int) : List Int := (numsTo n).filter (fun k => decide (0 < f k))

def tallyD (n : Nat) (f : Int → Int) : DataW Unit := .map ((keysOf n f).map fun k => (.int .i64 k, .lit (.int .i64 (f k))))

theorem mem_numsTo {n : Nat} {k : Int} : k ∈ numsTo n ↔ 1 ≤ k ∧ k ≤ n := by
  unfold numsTo
  simp only [List.mem_map, List.mem_range]
  constructor
  · rintro ⟨i, hi, rfl⟩; omega
  · rintro ⟨h1, h2⟩; exact ⟨(k - 1).toNat, by omega, by omega⟩

theorem mem_keysOf {n : Nat} {f : Int → Int} {k : Int} : k ∈ keysOf n f ↔ (1 ≤ k ∧ k ≤ n) ∧ 0 < f k := by
  simp [keysOf, mem_numsTo]

theorem numsTo_sorted (n : Nat) : (numsTo n).Pairwise (· < ·) := by
  unfold numsTo
  rw [List.pairwise_map]
  exact List.pairwise_lt_range.imp (by intro a b h; omega)

theorem keysOf_sorted (n : Nat) (f : Int → Int) : (keysOf n f).Pairwise (· < ·) := (numsTo_sorted n).filter _

theorem keysOf_nodup (n : Nat) (f : Int → Int) : (keysOf n f).Nodup := (keysOf_sorted n f).imp (by intro a b h; omega)

theorem numsTo_length (n : Nat) : (numsTo n).length = n := by simp [numsTo]

theorem keysOf_length_le (n : Nat) (f : Int → Int) : (keysOf n f).length ≤ n := by
  have := List.length_filter_le (fun k => decide (0 < f k)) (numsTo n)
  rw [numsTo_length] at this
  exact this

theorem tallyD_canon (n : Nat) (f : Int → Int) : Canon (tallyD n f) := by
  refine ⟨_, rfl, ?_, ?_⟩
  · rw [List.pairwise_map]
    exact (keysOf_sorted n f).imp (by intro a b h; simpa [Lit.before] using h)
  · intro p hp
    obtain ⟨k, _, rfl⟩ := List.mem_map.1 hp
    trivial

theorem tallyD_isMap (n : Nat) (f : Int → Int) : IsMap (tallyD n f) := ⟨_, rfl⟩

theorem tallyD_size (n : Nat) (f : Int → Int) : size (tallyD n f) = (keysOf n f).length := by simp [size, tallyD]

theorem has_tallyD (n : Nat) (f : Int → Int) (k : Int) : has (tallyD n f) (.int .i64 k) = decide (k ∈ keysOf n f) := by
  rw [Bool.eq_iff_iff]
  simp [tallyD, has, Lit.sameKey]

theorem has_tallyD_lit {n : Nat} {f : Int → Int} {l : Lit} (h : has (tallyD n f) l = true) : ∃ k, l = .int .i64 k ∧ k ∈ keysOf n f := by
  simp only [tallyD, has, List.any_map, List.any_eq_true, Function.comp] at h
  obtain ⟨k, hk, hs⟩ := h
  exact ⟨k, (WideAt.sameKey_eq hs).symm, hk⟩

theorem find_keys {f : Int → Int} (k : Int) : ∀ l : List Int, (l.map fun j => ((.int .i64 j : Lit), (DataW.lit (.int .i64 (f j)) : DataW Unit))).find? (fun p => p.1.sameKey (.int .i64 k)) =
    if k ∈ l then some (.int .i64 k, .lit (.int .i64 (f k))) else none
  | [] => by simp
  | j :: r => by
    rw [List.map_cons, List.find?_cons]
    by_cases e : j = k
    · subst e; simp [Lit.sameKey]
    · have : (Lit.int .i64 j).sameKey (.int .i64 k) = false := by simp [Lit.sameKey, e]
      simp only [this]
      rw [find_keys k r]
      simp [Ne.symm e]

theorem atKey_tallyD (n : Nat) (f : Int → Int) (k : Int) (z : DataW Unit) : (tallyD n f).atKey (.int .i64 k) z = if k ∈ keysOf n f then .lit (.int .i64 (f k)) else z := by
  unfold tallyD DataW.atKey
  simp only [find_keys]
  by_cases h : k ∈ keysOf n f <;> simp [h]

theorem atKey_tally0 {n : Nat} {f : Int → Int} (h : Good n f) (k : Int) : (tallyD n f).atKey (.int .i64 k) (.lit (.int .i64 0)) = .lit (.int .i64 (f k)) := by
  rw [atKey_tallyD]
  split
  · rfl
  · rename_i hk
    have h0 : f k = 0 := by
      rcases Int.lt_or_le 0 (f k) with h1 | h1
      · exact absurd (mem_keysOf.2 ⟨h.off k h1, h1⟩) hk
      · have := h.pos k; omega
    rw [h0]

theorem Good.upd {n : Nat} {f : Int → Int} (h : Good n f) {k t : Int} (h1 : 1 ≤ k) (h2 : k ≤ n) (ht : 0 ≤ t) (htop : f k + t ≤ 1099511627776) : Good n (upd f k t) := by
  refine ⟨fun j => ?_, fun j => ?_, fun j hj => ?_, h.n1, h.n255⟩
  · unfold Ytacbmpffpfaciaa.upd; split
    · have := h.pos j; omega
    · exact h.pos j
  · unfold Ytacbmpffpfaciaa.upd; split
    · rename_i e; subst e; omega
    · exact h.top j
  · unfold Ytacbmpffpfaciaa.upd at hj
    split at hj
    · rename_i e; subst e; exact ⟨h1, h2⟩
    · exact h.off j hj

theorem mem_keysOf_upd {n : Nat} {f : Int → Int} {k t : Int} (h1 : 1 ≤ k) (h2 : k ≤ n) (ht : 0 < f k + t) {j : Int} : j ∈ keysOf n (upd f k t) ↔ j = k ∨ j ∈ keysOf n f := by
  rw [mem_keysOf, mem_keysOf]
  unfold upd
  by_cases e : j = k
  · subst e; simp [h1, h2, ht]
  · simp [e]

/-- ONE COUNT: the datum behind 'm[k] += t'. -/
theorem tallyD_put {n : Nat} {f : Int → Int} {k t : Int} (h1 : 1 ≤ k) (h2 : k ≤ n) (ht : 0 < f k + t)
    (hc : Canon ((tallyD n f).put (.int .i64 k) (.lit (.int .i64 (f k + t))))) :
    (tallyD n f).put (.int .i64 k) (.lit (.int .i64 (f k + t))) = tallyD n (upd f k t) := by
  have hK : WideAt.IsKeyLit (.int .i64 k) := trivial
  refine Maps.ext ?_ (tallyD_canon _ _) (fun l => ?_) (fun l z hl => ?_)
  · exact hc
  · by_cases e : l = .int .i64 k
    · subst e
      rw [has_put_same (tallyD_isMap n f) hK, has_tallyD]
      symm; simpa using (mem_keysOf_upd (n := n) (f := f) h1 h2 ht).2 (.inl rfl)
    · rw [has_put_other e, Bool.eq_iff_iff]
      constructor
      · intro h
        obtain ⟨j, rfl, hj⟩ := has_tallyD_lit h
        rw [has_tallyD]
        simpa using (mem_keysOf_upd (n := n) (f := f) h1 h2 ht).2 (.inr hj)
      · intro h
        obtain ⟨j, rfl, hj⟩ := has_tallyD_lit h
        rw [has_tallyD]
        have hne : j ≠ k := fun e' => e (by rw [e'])
        simpa using ((mem_keysOf_upd (n := n) (f := f) h1 h2 ht).1 hj).resolve_left hne
  · by_cases e : l = .int .i64 k
    · subst e
      rw [atKey_put_same (tallyD_isMap n f) hK, atKey_tallyD, if_pos ((mem_keysOf_upd (n := n) (f := f) h1 h2 ht).2 (.inl rfl))]
      simp [upd]
    · rw [has_put_other e] at hl
      obtain ⟨j, rfl, hj⟩ := has_tallyD_lit hl
      have hne : j ≠ k := fun e' => e (by rw [e'])
      rw [atKey_put_other e, atKey_tallyD, atKey_tallyD, if_pos hj, if_pos ((mem_keysOf_upd (n := n) (f := f) h1 h2 ht).2 (.inr hj))]
      simp [upd, hne]

/-! ### what is told -/
/-- The counts: number and times (at most 65535 are told). -/
def countsOf (n : Nat) (f : Int → Int) : List (Int × Int) := (keysOf n f).map fun k => (k, min (f k) 65535)

/-- How many frames. -/
def framesOf (n : Nat) (f : Int → Int) : Int := ((numsTo n).map f).sum

theorem sum_filter_pos (f : Int → Int) (h : ∀ k, 0 ≤ f k) : ∀ l : List Int, (l.map f).sum = ((l.filter (fun k => decide (0 < f k))).map f).sum
  | [] => rfl
  | a :: r => by
    rw [List.map_cons, List.sum_cons, sum_filter_pos f h r, List.filter_cons]
    split
    · simp
    · rename_i hh
      have h0 : f a = 0 := by
        have := h a
        simp at hh
        omega
      rw [h0]; omega

theorem framesOf_keys {n : Nat} {f : Int → Int} (h : Good n f) : framesOf n f = ((keysOf n f).map f).sum := sum_filter_pos f h.pos _

def emptyF : Int → Int := fun _ => 0

theorem keysOf_empty (n : Nat) : keysOf n emptyF = [] := by simp [keysOf, emptyF]
theorem tallyD_empty (n : Nat) : tallyD n emptyF = .map [] := by simp [tallyD, keysOf_empty]
theorem Good.empty {n : Nat} (h1 : 1 ≤ n) (h2 : n ≤ 255) : Good n emptyF := ⟨fun _ => by simp [emptyF], fun _ => by simp [emptyF], fun _ h => by simp [emptyF] at h, h1, h2⟩

/-! ### a range over the tally -/
def sumNot (n : Nat) (f : Int → Int) (left : Lit → Bool) : Int := (((keysOf n f).filter fun k => !left (.int .i64 k)).map f).sum

theorem sum_step (f : Int → Int) (p : Int → Bool) (x : Int) (hp : p x = false) : ∀ l : List Int, l.Nodup → ((l.filter fun k => p k || k == x).map f).sum = ((l.filter p).map f).sum + (if x ∈ l then f x else 0)
  | [], _ => by simp
  | a :: r, h => by
    obtain ⟨h1, h2⟩ := List.nodup_cons.1 h
    have ih := sum_step f p x hp r h2
    by_cases e : a = x
    · subst e
      rw [if_neg h1] at ih
      simp only [List.filter_cons, hp, beq_self_eq_true, Bool.or_true, if_true, List.map_cons, List.sum_cons, List.mem_cons, true_or, Bool.false_eq_true, if_false]
      omega
    · have e' : (a == x) = false := by simpa using e
      have e2 : (x ∈ a :: r) = (x ∈ r) := by simp [Ne.symm e]
      simp only [List.filter_cons, e', Bool.or_false, e2]
      cases p a <;> simp [ih] ; omega

theorem sumNot_step {n : Nat} {f : Int → Int} {left : Lit → Bool} {x : Int} (hl : left (.int .i64 x) = true) (hx : x ∈ keysOf n f) :
    sumNot n f (fun z => left z && !z.sameKey (.int .i64 x)) = sumNot n f left + f x := by
  have := sum_step f (fun k => !left (.int .i64 k)) x (by simp [hl]) (keysOf n f) (keysOf_nodup n f)
  rw [if_pos hx] at this
  unfold sumNot
  rw [← this]
  congr 2
  refine List.filter_congr fun k _ => ?_
  rw [show (k == x) = decide (k = x) from by by_cases e : k = x <;> simp [e]]
  simp [Lit.sameKey]

theorem sumNot_start (n : Nat) (f : Int → Int) : sumNot n f (has (tallyD n f)) = 0 := by
  unfold sumNot
  have : (keysOf n f).filter (fun k => !has (tallyD n f) (.int .i64 k)) = [] := by
    rw [List.filter_eq_nil_iff]
    intro k hk
    simp [has_tallyD, hk]
  rw [this]; rfl

theorem sumNot_end {n : Nat} {f : Int → Int} (h : Good n f) {left : Lit → Bool} (hl : ∀ k, left k = false) : sumNot n f left = framesOf n f := by
  rw [framesOf_keys h]
  unfold sumNot
  congr 2
  rw [List.filter_eq_self]
  intro k _
  simp [hl]

theorem sum_bound (f : Int → Int) (h : ∀ k, 0 ≤ f k ∧ f k ≤ 1099511627776) : ∀ l : List Int, 0 ≤ (l.map f).sum ∧ (l.map f).sum ≤ 1099511627776 * l.length
  | [] => by simp
  | a :: r => by
    have := sum_bound f h r
    have := h a
    simp only [List.map_cons, List.sum_cons, List.length_cons]
    omega

theorem sumNot_bound {n : Nat} {f : Int → Int} (h : Good n f) (left : Lit → Bool) : 0 ≤ sumNot n f left ∧ sumNot n f left ≤ 1099511627776 * 255 := by
  have h1 := sum_bound f (fun k => ⟨h.pos k, h.top k⟩) ((keysOf n f).filter fun k => !left (.int .i64 k))
  have h2 := List.length_filter_le (fun k => !left (.int .i64 k)) (keysOf n f)
  have h3 := keysOf_length_le n f
  have h4 := h.n255
  unfold sumNot
  omega

theorem framesOf_bound {n : Nat} {f : Int → Int} (h : Good n f) : 0 ≤ framesOf n f ∧ framesOf n f ≤ 1099511627776 * 255 := by
  rw [← sumNot_end h (left := fun _ => false) (fun _ => rfl)]
  exact sumNot_bound h _

theorem key_of_at {n : Nat} {f : Int → Int} {x c : Int} (h : ∀ zd, (tallyD n f).atKey (.int .i64 x) zd = .lit (.int .i64 c)) : x ∈ keysOf n f ∧ c = f x := by
  have h1 := h .nil
  rw [atKey_tallyD] at h1
  split at h1
  · rename_i hx; exact ⟨hx, by simpa using h1.symm⟩
  · cases h1

/-! ### the keys, in whatever order they come -/
theorem length_le_of_nodup : ∀ (l l' : List Int), l.Nodup → (∀ x ∈ l, x ∈ l') → l.length ≤ l'.length
  | [], _, _, _ => Nat.zero_le _
  | a :: r, l', h, hs => by
    obtain ⟨h1, h2⟩ := List.nodup_cons.1 h
    have ha := hs a (by simp)
    have ih := length_le_of_nodup r (l'.erase a) h2 (fun x hx => (List.mem_erase_of_ne (by rintro rfl; exact h1 hx)).2 (hs x (by simp [hx])))
    have hl := List.length_erase_of_mem ha
    have hp : 0 < l'.length := List.length_pos_of_mem ha
    simp only [List.length_cons]
    omega

structure Came (n : Nat) (f : Int → Int) (left : Lit → Bool) (ss : List Int) : Prop where
  nodup : ss.Nodup
  mem : ∀ k, k ∈ ss ↔ k ∈ keysOf n f ∧ left (.int .i64 k) = false

theorem Came.start (n : Nat) (f : Int → Int) : Came n f (has (tallyD n f)) [] :=
  ⟨List.nodup_nil, fun k => by simp only [List.not_mem_nil, false_iff]; rintro ⟨h1, h2⟩; rw [has_tallyD] at h2; simp at h2; exact h2 h1⟩

theorem Came.step {n : Nat} {f : Int → Int} {left : Lit → Bool} {ss : List Int} (h : Came n f left ss) {x : Int} (hl : left (.int .i64 x) = true) (hx : x ∈ keysOf n f) :
    Came n f (fun z => left z && !z.sameKey (.int .i64 x)) (ss ++ [x]) := by
  have hn : x ∉ ss := fun hh => by have := ((h.mem x).1 hh).2; rw [hl] at this; cases this
  refine ⟨?_, fun k => ?_⟩
  · rw [List.nodup_append]
    exact ⟨h.nodup, by simp, by intro a ha b hb; simp at hb; subst hb; exact fun e => hn (e ▸ ha)⟩
  · rw [List.mem_append, h.mem k]
    by_cases e : k = x
    · subst e; simp [hx, Lit.sameKey]
    · simp [e, Lit.sameKey]

theorem Came.done {n : Nat} {f : Int → Int} {left : Lit → Bool} {ss : List Int} (h : Came n f left ss) (hl : ∀ k, left k = false) : ss.Perm (keysOf n f) :=
  (List.perm_ext_iff_of_nodup h.nodup (keysOf_nodup n f)).2 (fun k => by rw [h.mem k]; simp [hl])

def leI : Int → Int → Bool := fun x y => decide (x ≤ y)

theorem sorted_keys {n : Nat} {f : Int → Int} {ss : List Int} (h : ss.Perm (keysOf n f)) : ss.mergeSort leI = keysOf n f := by
  have tr : ∀ a b c : Int, leI a b = true → leI b c = true → leI a c = true := fun a b c h1 h2 => by simp only [leI, decide_eq_true_eq] at *; omega
  have to : ∀ a b : Int, (leI a b || leI b a) = true := fun a b => by simp only [leI, Bool.or_eq_true, decide_eq_true_eq]; omega
  refine List.Perm.eq_of_pairwise (le := fun a b => leI a b = true) (fun a b _ _ h1 h2 => ?_) (List.pairwise_mergeSort tr to ss) ?_ ((List.mergeSort_perm ss leI).trans h)
  · simp only [leI, decide_eq_true_eq] at h1 h2; omega
  · exact (keysOf_sorted n f).imp (by intro a b hab; simp only [leI, decide_eq_true_eq]; omega)

/-! ### a join -/
def joinF (f : Int → Int) (cs : List (Int × Int)) : Int → Int := cs.foldl (fun g c => upd g c.1 c.2) f
def timesIn (cs : List (Int × Int)) : Int := (cs.map (·.2)).sum

theorem upd_zero (f : Int → Int) (k : Int) : upd f k 0 = f := by
  funext j; unfold upd; split <;> omega

theorem joinF_snoc (f : Int → Int) (cs : List (Int × Int)) (c : Int × Int) : joinF f (cs ++ [c]) = upd (joinF f cs) c.1 c.2 := by simp [joinF]
theorem timesIn_snoc (cs : List (Int × Int)) (c : Int × Int) : timesIn (cs ++ [c]) = timesIn cs + c.2 := by simp [timesIn]
theorem timesIn_cons (c : Int × Int) (cs : List (Int × Int)) : timesIn (c :: cs) = c.2 + timesIn cs := by simp [timesIn]

theorem timesIn_pos : ∀ cs : List (Int × Int), (∀ c ∈ cs, 0 ≤ c.2) → 0 ≤ timesIn cs
  | [], _ => by simp [timesIn]
  | c :: r, h => by
    have h1 := timesIn_pos r (fun c hc => h c (by simp [hc]))
    have h2 := h c (by simp)
    rw [timesIn_cons]; omega

theorem joinF_le (j : Int) : ∀ (cs : List (Int × Int)) (f : Int → Int), (∀ c ∈ cs, 0 ≤ c.2) → f j ≤ joinF f cs j ∧ joinF f cs j ≤ f j + timesIn cs
  | [], f, _ => by simp [joinF, timesIn]
  | c :: r, f, h => by
    have h1 := joinF_le j r (upd f c.1 c.2) (fun c hc => h c (by simp [hc]))
    have h2 := h c (by simp)
    have e : joinF f (c :: r) = joinF (upd f c.1 c.2) r := rfl
    have h3 : f j ≤ upd f c.1 c.2 j ∧ upd f c.1 c.2 j ≤ f j + c.2 := by unfold upd; split <;> omega
    rw [e, timesIn_cons]; omega

theorem timesIn_take_le (cs : List (Int × Int)) (h : ∀ c ∈ cs, 0 ≤ c.2) (k : Nat) : timesIn (cs.take k) ≤ timesIn cs := by
  have e : cs = cs.take k ++ cs.drop k := (List.take_append_drop k cs).symm
  have h2 := timesIn_pos (cs.drop k) (fun c hc => h c (List.mem_of_mem_drop hc))
  have h3 : timesIn cs = timesIn (cs.take k) + timesIn (cs.drop k) := by
    have e2 : timesIn cs = timesIn (cs.take k ++ cs.drop k) := by rw [← e]
    rw [e2]
    simp only [timesIn, List.map_append, List.sum_append]
  omega

/-- May the counts be joined to f? -/
structure Fits (n : Nat) (f : Int → Int) (cs : List (Int × Int)) : Prop where
  good : Good n f
  num : ∀ c ∈ cs, 1 ≤ c.1 ∧ c.1 ≤ n
  pos : ∀ c ∈ cs, 0 ≤ c.2
  top : ∀ k, f k + timesIn cs ≤ 1099511627776

theorem Fits.snoc_top {n : Nat} {f : Int → Int} {cs : List (Int × Int)} (h : Fits n f cs) {k : Nat} {c : Int × Int} (hc : cs[k]? = some c) (j : Int) : joinF f (cs.take k) j + c.2 ≤ 1099511627776 := by
  have h1 := (joinF_le j (cs.take k) f (fun c hc => h.pos c (List.mem_of_mem_take hc))).2
  have h2 := timesIn_take_le cs h.pos (k + 1)
  rw [List.take_add_one, hc, Option.toList_some, timesIn_snoc] at h2
  have h3 := h.top j
  omega

theorem Fits.good_take {n : Nat} {f : Int → Int} {cs : List (Int × Int)} (h : Fits n f cs) : ∀ k : Nat, k ≤ cs.length → Good n (joinF f (cs.take k))
  | 0, _ => by simpa [joinF] using h.good
  | k + 1, hk => by
    have hg := h.good_take k (by omega)
    have hc : cs[k]? = some cs[k] := List.getElem?_eq_getElem (by omega)
    have hm : cs[k] ∈ cs := List.getElem_mem _
    rw [List.take_add_one, hc, Option.toList_some, joinF_snoc]
    exact hg.upd (h.num _ hm).1 (h.num _ hm).2 (h.pos _ hm) (h.snoc_top hc _)

theorem Fits.good_all {n : Nat} {f : Int → Int} {cs : List (Int × Int)} (h : Fits n f cs) : Good n (joinF f cs) := by
  have := h.good_take cs.length (Nat.le_refl _)
  rwa [List.take_length] at this

end Go.Proofs.Ytacbmpffpfaciaa
