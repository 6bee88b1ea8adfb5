/-
  CaS: The chapter's example: awake.
  CaT: What CacheTells leans on: no coder, plain invariants, an ask's copy.
  CaX: CacheLast, plain: the keys of a cache of room r are the last r of the endless list, in which what is asked moves to the back.
-/
import Derived.Test.YtlmpagicjgldkaaGreatMxbn
import Derived.Test.YtlmpagicjgldkaaGreatMxbm
import Derived.Test.YtlmpagicjgldkaaGreatMxbp
namespace Go.Proofs.YtlmpagicjgldkaaGreat

section -- CaS
open Go.RowKit Go.Maps
set_option linter.unusedVariables false
set_option linter.unusedSimpArgs false
set_option maxRecDepth 100000
set_option maxHeartbeats 2000000

def aw0 : PS := ⟨4, 1, 0, 0, 0, 0, []⟩
def aw1 : PS := ⟨4, 1, 1, 0, 1, 0, [(2, [0, 1])]⟩
def aw2 : PS := ⟨4, 1, 2, 0, 2, 1, [(2, [0, 2])]⟩
def aw3 : PS := ⟨4, 1, 3, 0, 3, 2, [(2, [0, 1])]⟩
def aw4 : PS := ⟨4, 1, 4, 1, 3, 2, [(2, [0, 1])]⟩
theorem aw01 : aw0.ask (2, [0, 1]) = aw1 := by rfl
theorem aw12 : aw1.ask (2, [0, 2]) = aw2 := by rfl
theorem aw23 : aw2.ask (2, [0, 1]) = aw3 := by rfl
theorem aw34 : aw3.ask (2, [0, 1]) = aw4 := by rfl
theorem ok01 : AskOk 4 2 [0, 1] := ⟨by decide, by decide, by decide⟩
theorem ok02 : AskOk 4 2 [0, 2] := ⟨by decide, by decide, by decide⟩
theorem lit2 (w : World) (a b : Int) : IntsAt (w.alloc (.cells #[.int .i64 a, .int .i64 b] 3)) (.slice (some ⟨w.heap.size, 0, none⟩) 2 2) [a, b] :=
  ⟨_, _, rfl, Nat.le_refl _, fun _ => ⟨_, 0, rfl, fun i hi => by
    rw [Nat.zero_add]
    refine (World.cell?_alloc_new w _ _ i).trans ?_
    have hi' : i < 2 := hi
    obtain rfl | rfl : i = 0 ∨ i = 1 := by omega
    all_goals rfl⟩⟩
/-- A cache of this plain kind. -/
def Live (w : World) (b bm : Nat) (p : PS) : Prop := ∃ s, CacheAt w (CK b bm) b bm s ∧ s.plain = p
theorem Live.below {w w' : World} {b bm : Nat} {p : PS} (h : Live w b bm p) (hb : Below w.heap.size w w') : Live w' b bm p := by
  obtain ⟨s, hc, hp⟩ := h
  exact ⟨s, hc.below hb, hp⟩
theorem turn_live (w : World) {b bm : Nat} {p p' : PS} (h : Live w b bm p) (K : Nat) (v : Value) (xs : List Int) (hv : IntsAt w v xs) (hl : xs.length ≤ 1000000) (h1 : 1 ≤ K) (h2 : K ≤ p.n) (ho : AskOk p.n K xs) (hs : p.now < 1000000000 ∧ p.hits < 1000000000 ∧ p.misses < 1000000000 ∧ p.dropped < 1000000000) (hp : p.ask (K, xs.take K) = p') :
    Calls Tryz.prog 11 #[.pointer (some ⟨b, 0, none⟩), .int .i64 (K : Int), v] w fun e w' => ∃ u, e = .returned (.tuple #[u, .int .i64 0]) ∧ Live w' b bm p' ∧ Kept (CK b bm) w w' := by
  obtain ⟨s, hc, rfl⟩ := h
  refine (turn_c_any w hc (fun i hi => by rcases hi with rfl | rfl; exact hc.lt; exact hc.map.lt) K v xs hv hl h1 h2 ho hs.1 hs.2.1 hs.2.2.1 hs.2.2.2).mono (fun e w' ⟨s', base, u, q1, q2, q3, q4, q5, q6, q7⟩ => ?_)
  exact ⟨u, q1, ⟨s', q5 w' (Below.refl _ _), q6.trans hp⟩, q7⟩

theorem awake_any (w : World) :
    Calls Tryz.prog 6 #[] w fun e w' => e = .returned (.bool true) ∧ Below w.heap.size w w' := by
  go_enter Tryz.func6, Tryz.ntmps6
  go_wp2_with fail
  refine (new_any w 4 1 (by omega) (by omega) (by omega) (by omega)).mono ?_
  rintro e w1 ⟨b, bm, rfl, hb, hbm, hc, hB1⟩
  have HB1 := Lib.hid hB1
  have HL1 := Lib.hid (show Live w1 b bm aw0 from ⟨_, hc (CK b bm) (.inl rfl) (.inr rfl), rfl⟩)
  have HCK := Lib.hid (show ∀ i, CK b bm i → w.heap.size ≤ i from fun i hi => by rcases hi with rfl | rfl; exact hb; exact hbm)
  clear hc hB1
  go_wp2_with fail
  refine (turn_live _ (HL1.out.below (balC w1 _)) 2 _ [0, 1] (lit2 w1 0 1) (by decide) (by omega) (by decide) ok01 (by decide) aw01).mono ?_
  rintro e w2 ⟨u2, rfl, hL, hk⟩
  have HB2 := Lib.hid (show Below w.heap.size w w2 from (HB1.out.trans ((balC w1 _).mono HB1.out.size)).trans (hk.toBelow (by have := HB1.out.size; simp; omega) (fun i hi => HCK.out i hi)))
  have HL2 := Lib.hid hL
  clear hL hk
  go_wp2_with fail
  refine (turn_live _ (HL2.out.below (balC w2 _)) 2 _ [0, 2] (lit2 w2 0 2) (by decide) (by omega) (by decide) ok02 (by decide) aw12).mono ?_
  rintro e w3 ⟨u3, rfl, hL, hk⟩
  have HB3 := Lib.hid (show Below w.heap.size w w3 from (HB2.out.trans ((balC w2 _).mono HB2.out.size)).trans (hk.toBelow (by have := HB2.out.size; simp; omega) (fun i hi => HCK.out i hi)))
  have HL3 := Lib.hid hL
  clear hL hk
  go_wp2_with fail
  refine (turn_live _ (HL3.out.below (balC w3 _)) 2 _ [0, 1] (lit2 w3 0 1) (by decide) (by omega) (by decide) ok01 (by decide) aw23).mono ?_
  rintro e w4 ⟨u4, rfl, hL, hk⟩
  have HB4 := Lib.hid (show Below w.heap.size w w4 from (HB3.out.trans ((balC w3 _).mono HB3.out.size)).trans (hk.toBelow (by have := HB3.out.size; simp; omega) (fun i hi => HCK.out i hi)))
  have HL4 := Lib.hid hL
  clear hL hk
  go_wp2_with fail
  refine (turn_live _ (HL4.out.below (balC w4 _)) 2 _ [0, 1] (lit2 w4 0 1) (by decide) (by omega) (by decide) ok01 (by decide) aw34).mono ?_
  rintro e w5 ⟨u5, rfl, hL, hk⟩
  have HB5 := Lib.hid (show Below w.heap.size w w5 from (HB4.out.trans ((balC w4 _).mono HB4.out.size)).trans (hk.toBelow (by have := HB4.out.size; simp; omega) (fun i hi => HCK.out i hi)))
  obtain ⟨s, hc, hp⟩ := hL
  have p1 : s.es.length = 1 := by have := congrArg (fun p => p.keys.length) hp; simpa [CS.plain, aw4] using this
  have p2 : s.hits = 1 := congrArg PS.hits hp
  have p3 : s.misses = 3 := congrArg PS.misses hp
  have p4 : s.dropped = 2 := congrArg PS.dropped hp
  have HST := Lib.hid (stat_any w5 hc)
  rw [p1, p2, p3, p4] at HST
  clear hk hc hp p1 p2 p3 p4
  go_wp2_with fail
  refine HST.out.mono ?_
  rintro e w6 ⟨rfl, hB6⟩
  have HB6 := Lib.hid (below_more HB5.out hB6 HB5.out.size)
  clear hB6
  go_wp2
  go_ret
  exact ⟨rfl, HB6.out⟩
end -- CaS

section -- CaT
open Go.RowKit Go.Maps
set_option linter.unusedVariables false
set_option linter.unusedSimpArgs false
set_option maxRecDepth 100000
set_option maxHeartbeats 2000000

def NoCoder (w : World) (v : Value) : Prop := v = .pointer none ∨ ∃ b, v = .pointer (some ⟨b, 0, none⟩) ∧ w.cell? ⟨b, 2, none⟩ = some (.int .i64 0)
theorem there_no (w : World) (v : Value) (h : NoCoder w v) :
    Calls Tryz.prog 56 #[v] w fun e w' => e = .returned (.bool false) ∧ w = w' := by
  rcases h with rfl | ⟨b, rfl, d2⟩
  · go_enter Tryz.func56, Tryz.ntmps56
    go_wp2
    go_ret
    exact ⟨rfl, rfl⟩
  · go_enter Tryz.func56, Tryz.ntmps56
    go_wp2
    go_ret
    exact ⟨rfl, rfl⟩

theorem turn_no (w : World) (v v2 : Value) (h : NoCoder w v) :
    Calls Tryz.prog 43 #[v, v2] w fun e w' => e = .returned (.tuple #[.slice none 0 0, .int .i64 1]) ∧ w = w' := by
  go_enter Tryz.func43, Tryz.ntmps43
  go_wp2_with fail
  refine (there_no w v h).mono ?_
  rintro e w' ⟨rfl, rfl⟩
  go_wp2
  go_ret2
  exact ⟨rfl, rfl⟩


/-- Plain invariants. -/
structure PInv (N R M : Nat) (p : PS) : Prop where
  n : p.n = N
  room : p.room = R
  hm : p.hits + p.misses = M
  now : p.now = M
  md : p.misses = p.keys.length + p.dropped
  full : p.keys.length ≤ R
  nd : p.keys.Nodup
theorem filter_ne {α : Type} [DecidableEq α] {q : α} : ∀ {l : List α}, l.Nodup → q ∈ l → (l.filter (fun x => decide (x ≠ q))).length + 1 = l.length
  | [], _, h => by simp at h
  | x :: r, hn, h => by
    obtain ⟨h1, h2⟩ := List.nodup_cons.1 hn
    by_cases e : x = q
    · subst e
      rw [List.filter_cons_of_neg (by simp), List.filter_eq_self.2 (fun y hy => by
        simp only [decide_eq_true_eq]
        rintro rfl
        exact h1 hy)]
      rfl
    · rw [List.filter_cons_of_pos (by simpa using e)]
      rcases List.mem_cons.1 h with h3 | h3
      · exact absurd h3.symm e
      · have := filter_ne h2 h3
        simp only [List.length_cons]
        omega
theorem PInv.ask {N R M : Nat} {p : PS} (h : PInv N R M p) (hR : 1 ≤ R) (q : Nat × List Int) : PInv N R (M + 1) (p.ask q) := by
  obtain ⟨a1, a2, a3, a4, a5, a6, a7⟩ := h
  unfold PS.ask
  by_cases hq : q ∈ p.keys
  · rw [if_pos hq]
    have := filter_ne a7 hq
    refine ⟨a1, a2, by show p.hits + 1 + p.misses = M + 1; omega, by show p.now + 1 = M + 1; omega, ?_, ?_, ?_⟩
    · show p.misses = (p.keys.filter _ ++ [q]).length + p.dropped
      rw [List.length_append, List.length_singleton]; omega
    · show (p.keys.filter _ ++ [q]).length ≤ R
      rw [List.length_append, List.length_singleton]; omega
    · show (p.keys.filter _ ++ [q]).Nodup
      rw [List.nodup_append]
      refine ⟨a7.sublist List.filter_sublist, by simp, fun x hx y hy e => ?_⟩
      have := (List.mem_filter.1 hx).2
      simp at this hy
      exact this (e.trans hy)
  · rw [if_neg hq]
    by_cases hl : p.keys.length < p.room
    · rw [if_pos hl]
      refine ⟨a1, a2, by show p.hits + (p.misses + 1) = M + 1; omega, by show p.now + 1 = M + 1; omega, ?_, ?_, ?_⟩
      · show p.misses + 1 = (p.keys ++ [q]).length + p.dropped
        rw [List.length_append, List.length_singleton]; omega
      · show (p.keys ++ [q]).length ≤ R
        rw [List.length_append, List.length_singleton]; omega
      · show (p.keys ++ [q]).Nodup
        rw [List.nodup_append]
        exact ⟨a7, by simp, fun x hx y hy e => hq (by simp at hy; rw [← hy, ← e]; exact hx)⟩
    · rw [if_neg hl]
      have hk : 1 ≤ p.keys.length := by omega
      refine ⟨a1, a2, by show p.hits + (p.misses + 1) = M + 1; omega, by show p.now + 1 = M + 1; omega, ?_, ?_, ?_⟩
      · show p.misses + 1 = (p.keys.tail ++ [q]).length + (p.dropped + 1)
        rw [List.length_append, List.length_singleton, List.length_tail]; omega
      · show (p.keys.tail ++ [q]).length ≤ R
        rw [List.length_append, List.length_singleton, List.length_tail]; omega
      · show (p.keys.tail ++ [q]).Nodup
        rw [List.nodup_append]
        exact ⟨a7.sublist (List.tail_sublist _), by simp, fun x hx y hy e => hq (by simp at hy; rw [← hy, ← e]; exact List.mem_of_mem_tail hx)⟩
theorem PInv.small {N R M : Nat} {p : PS} (h : PInv N R M p) (hM : M < 1000000000) : p.now < 1000000000 ∧ p.hits < 1000000000 ∧ p.misses < 1000000000 ∧ p.dropped < 1000000000 := by
  obtain ⟨a1, a2, a3, a4, a5, a6, a7⟩ := h
  omega

/-- An ask's copy. -/
structure BoxAt (w : World) (g : Nat) (a : AskI) (u : Value) : Prop where
  c0 : w.cell? ⟨g, 0, none⟩ = some (.int .i64 a.what)
  c1 : w.cell? ⟨g, 1, none⟩ = some (.int .i64 a.k)
  c2 : w.cell? ⟨g, 2, none⟩ = some (.int .i64 a.long)
  c3 : w.cell? ⟨g, 3, none⟩ = some (bv a.first)
  c4 : w.cell? ⟨g, 4, none⟩ = some u
theorem BoxAt.lt {w : World} {g : Nat} {a : AskI} {u : Value} (h : BoxAt w g a u) : g < w.heap.size := blt h.c0
theorem BoxAt.kept {S : Nat → Prop} {w w' : World} {g : Nat} {a : AskI} {u : Value} (h : BoxAt w g a u) (hk : Kept S w w') (hS : ¬ S g) : BoxAt w' g a u := by
  have hl := h.lt
  exact ⟨(hk.cell (p := ⟨g, 0, none⟩) hl hS).trans h.c0, (hk.cell (p := ⟨g, 1, none⟩) hl hS).trans h.c1, (hk.cell (p := ⟨g, 2, none⟩) hl hS).trans h.c2, (hk.cell (p := ⟨g, 3, none⟩) hl hS).trans h.c3, (hk.cell (p := ⟨g, 4, none⟩) hl hS).trans h.c4⟩
theorem BoxAt.below {w w' : World} {g : Nat} {a : AskI} {u : Value} (h : BoxAt w g a u) (hb : Below w.heap.size w w') : BoxAt w' g a u := h.kept (Kept.below hb) (fun h => h)
theorem BoxAt.made (w : World) (a : AskI) (u : Value) : BoxAt (w.alloc (.cells #[.int .i64 a.what, .int .i64 a.k, .int .i64 a.long, bv a.first, u] 34)) w.heap.size a u :=
  ⟨World.cell?_alloc_new w _ _ 0, World.cell?_alloc_new w _ _ 1, World.cell?_alloc_new w _ _ 2, World.cell?_alloc_new w _ _ 3, World.cell?_alloc_new w _ _ 4⟩
end -- CaT

section -- CaX
set_option linter.unusedVariables false

abbrev Q := Nat × List Int
def mtb (E : List Q) (q : Q) : List Q := E.filter (fun x => decide (x ≠ q)) ++ [q]
def lastN (r : Nat) (E : List Q) : List Q := E.drop (E.length - r)
theorem filter_off {l : List Q} {q : Q} (h : q ∉ l) : l.filter (fun x => decide (x ≠ q)) = l := by
  rw [List.filter_eq_self]
  intro x hx
  exact decide_eq_true (fun e => h (e ▸ hx))
theorem mtb_nodup {E : List Q} {q : Q} (h : E.Nodup) : (mtb E q).Nodup := by
  unfold mtb
  rw [List.nodup_append]
  refine ⟨h.filter _, by simp, fun a ha b hb => ?_⟩
  simp at hb
  subst hb
  simp at ha
  exact ha.2
theorem lastN_split (r : Nat) (E : List Q) : ∃ A, E = A ++ lastN r E ∧ (lastN r E).length = min r E.length ∧ A.length = E.length - r := by
  refine ⟨E.take (E.length - r), (List.take_append_drop _ _).symm, ?_, ?_⟩
  · unfold lastN; rw [List.length_drop]; omega
  · rw [List.length_take]; omega
theorem ask_last {p : PS} {E : List Q} (hE : E.Nodup) (h : p.keys = lastN p.room E) (hr : 1 ≤ p.room) (q : Q) : (p.ask q).keys = lastN p.room (mtb E q) ∧ (p.ask q).room = p.room := by
  obtain ⟨A, hA, hl, hal⟩ := lastN_split p.room E
  rw [← h] at hA hl
  have hnd : (A ++ p.keys).Nodup := hA ▸ hE
  rw [List.nodup_append] at hnd
  unfold PS.ask
  by_cases hq : q ∈ p.keys
  · rw [if_pos hq]
    refine ⟨?_, rfl⟩
    have hqA : q ∉ A := fun hh => hnd.2.2 q hh q hq rfl
    have hf := filter_ne hnd.2.1 hq
    have e : mtb E q = A ++ (p.keys.filter (fun x => decide (x ≠ q)) ++ [q]) := by
      unfold mtb
      conv => lhs; rw [hA]
      rw [List.filter_append, filter_off hqA, List.append_assoc]
    unfold lastN
    rw [e, List.length_append, List.length_append, List.length_singleton, hf]
    have : A.length + p.keys.length - p.room = A.length := by
      have := congrArg List.length hA
      rw [List.length_append] at this
      omega
    rw [this, List.drop_left]
  · rw [if_neg hq]
    by_cases hlt : p.keys.length < p.room
    · rw [if_pos hlt]
      refine ⟨?_, rfl⟩
      have hA0 : A = [] := List.eq_nil_of_length_eq_zero (by omega)
      subst hA0
      have e : mtb E q = p.keys ++ [q] := by
        unfold mtb
        conv => lhs; rw [hA]
        rw [List.nil_append, filter_off hq]
      unfold lastN
      rw [e, List.length_append, List.length_singleton, show p.keys.length + 1 - p.room = 0 by omega, List.drop_zero]
    · rw [if_neg hlt]
      refine ⟨?_, rfl⟩
      have e : mtb E q = A.filter (fun x => decide (x ≠ q)) ++ (p.keys ++ [q]) := by
        unfold mtb
        conv => lhs; rw [hA]
        rw [List.filter_append, filter_off hq, List.append_assoc]
      unfold lastN
      rw [e, List.length_append, List.length_append, List.length_singleton]
      generalize A.filter (fun x => decide (x ≠ q)) = A'
      have hk : p.keys.length = p.room := by omega
      rw [show A'.length + (p.keys.length + 1) - p.room = A'.length + 1 by omega, List.drop_append, List.drop_of_length_le (by omega), List.nil_append]
      rw [show A'.length + 1 - A'.length = 1 by omega]
      cases hc : p.keys with
      | nil => rw [hc] at hk; simp at hk; omega
      | cons x xs => simp
theorem lastN_sub {r r' : Nat} (h : r ≤ r') (E : List Q) {q : Q} (hq : q ∈ lastN r E) : q ∈ lastN r' E := by
  unfold lastN at *
  obtain ⟨k, hk⟩ : ∃ k, E.length - r = (E.length - r') + k := ⟨(E.length - r) - (E.length - r'), by omega⟩
  rw [hk, ← List.drop_drop] at hq
  exact List.mem_of_mem_drop hq
/-- More room, more hits. -/
theorem hits_more {p p' : PS} {E : List Q} (h : p.keys = lastN p.room E) (h' : p'.keys = lastN p'.room E) (hr : p.room ≤ p'.room) (hh : p.hits ≤ p'.hits) (q : Q) : (p.ask q).hits ≤ (p'.ask q).hits := by
  unfold PS.ask
  by_cases hq : q ∈ p.keys
  · have hq' : q ∈ p'.keys := by rw [h'] ; rw [h] at hq; exact lastN_sub hr E hq
    rw [if_pos hq, if_pos hq']
    exact Nat.succ_le_succ hh
  · rw [if_neg hq]
    split <;> split <;> first | exact hh | exact Nat.le_succ_of_le hh | (split <;> first | exact hh | exact Nat.le_succ_of_le hh)
/-- What was asked is kept. -/
theorem ask_mem (p : PS) (q : Q) : q ∈ (p.ask q).keys := by
  unfold PS.ask
  split
  · simp
  · split <;> simp
/-- What is not dropped. -/
theorem ask_drop {p : PS} (h : p.dropped = 0 ∨ p.keys.length = p.room) (hl : p.keys.length ≤ p.room) (hr : 1 ≤ p.room) (hn : p.keys.Nodup) (q : Q) : (p.ask q).dropped = 0 ∨ (p.ask q).keys.length = (p.ask q).room := by
  unfold PS.ask
  by_cases hq : q ∈ p.keys
  · rw [if_pos hq]
    have := filter_ne hn hq
    rcases h with h | h
    · exact .inl h
    · exact .inr (by simp only [List.length_append, List.length_singleton]; omega)
  · rw [if_neg hq]
    by_cases hlt : p.keys.length < p.room
    · rw [if_pos hlt]
      exact .inl (by rcases h with h | h <;> first | exact h | omega)
    · rw [if_neg hlt]
      exact .inr (by simp only [List.length_append, List.length_singleton, List.length_tail]; omega)
end -- CaX

end Go.Proofs.YtlmpagicjgldkaaGreat
