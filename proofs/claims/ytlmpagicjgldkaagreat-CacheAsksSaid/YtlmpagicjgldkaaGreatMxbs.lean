/-
  CaX: CacheLast, plain: the keys of a cache of room r are the last r of the endless list, in which what is asked moves to the back.
  CaY: CacheLast: a Turn, whatever it answers.
-/
import Derived.Test.YtlmpagicjgldkaaGreatMxbr
namespace Go.Proofs.YtlmpagicjgldkaaGreat

section -- CaX
set_option linter.unusedVariables false

abbrev Q := Nat × List Int
def mtb (E : List Q) (q : Q) : List Q := E.filter (fun x => decide (x ≠ q)) ++ [q]
def lastN (r : Nat) (E : List Q) : List Q := E.drop (E.length - r)
theorem filter_off {l : List Q} {q : Q} (h : q ∉ l) : l.filter (fun x => decide (x ≠ q)) = l := by
  rw [List.filter_eq_self]
  intro x hx
  exact decide_eq_true (fun e => h (e ▸ hx))
theorem mtb_nodup {E : List Q} {q : Q} (h : E.Nodup) : (mtb E q).Nodup := by
  unfold mtb
  rw [List.nodup_append]
  refine ⟨h.filter _, by simp, fun a ha b hb => ?_⟩
  simp at hb
  subst hb
  simp at ha
  exact ha.2
theorem lastN_split (r : Nat) (E : List Q) : ∃ A, E = A ++ lastN r E ∧ (lastN r E).length = min r E.length ∧ A.length = E.length - r := by
  refine ⟨E.take (E.length - r), (List.take_append_drop _ _).symm, ?_, ?_⟩
  · unfold lastN; rw [List.length_drop]; omega
  · rw [List.length_take]; omega
theorem ask_last {p : PS} {E : List Q} (hE : E.Nodup) (h : p.keys = lastN p.room E) (hr : 1 ≤ p.room) (q : Q) : (p.ask q).keys = lastN p.room (mtb E q) ∧ (p.ask q).room = p.room := by
  obtain ⟨A, hA, hl, hal⟩ := lastN_split p.room E
  rw [← h] at hA hl
  have hnd : (A ++ p.keys).Nodup := hA ▸ hE
  rw [List.nodup_append] at hnd
  unfold PS.ask
  by_cases hq : q ∈ p.keys
  · rw [if_pos hq]
    refine ⟨?_, rfl⟩
    have hqA : q ∉ A := fun hh => hnd.2.2 q hh q hq rfl
    have hf := filter_ne hnd.2.1 hq
    have e : mtb E q = A ++ (p.keys.filter (fun x => decide (x ≠ q)) ++ [q]) := by
      unfold mtb
      conv => lhs; rw [hA]
      rw [List.filter_append, filter_off hqA, List.append_assoc]
    unfold lastN
    rw [e, List.length_append, List.length_append, List.length_singleton, hf]
    have : A.length + p.keys.length - p.room = A.length := by
      have := congrArg List.length hA
      rw [List.length_append] at this
      omega
    rw [this, List.drop_left]
  · rw [if_neg hq]
    by_cases hlt : p.keys.length < p.room
    · rw [if_pos hlt]
      refine ⟨?_, rfl⟩
      have hA0 : A = [] := List.eq_nil_of_length_eq_zero (by omega)
      subst hA0
      have e : mtb E q = p.keys ++ [q] := by
        unfold mtb
        conv => lhs; rw [hA]
        rw [List.nil_append, filter_off hq]
      unfold lastN
      rw [e, List.length_append, List.length_singleton, show p.keys.length + 1 - p.room = 0 by omega, List.drop_zero]
    · rw [if_neg hlt]
      refine ⟨?_, rfl⟩
      have e : mtb E q = A.filter (fun x => decide (x ≠ q)) ++ (p.keys ++ [q]) := by
        unfold mtb
        conv => lhs; rw [hA]
        rw [List.filter_append, filter_off hq, List.append_assoc]
      unfold lastN
      rw [e, List.length_append, List.length_append, List.length_singleton]
      generalize A.filter (fun x => decide (x ≠ q)) = A'
      have hk : p.keys.length = p.room := by omega
      rw [show A'.length + (p.keys.length + 1) - p.room = A'.length + 1 by omega, List.drop_append, List.drop_of_length_le (by omega), List.nil_append]
      rw [show A'.length + 1 - A'.length = 1 by omega]
      cases hc : p.keys with
      | nil => rw [hc] at hk; simp at hk; omega
      | cons x xs => simp
theorem lastN_sub {r r' : Nat} (h : r ≤ r') (E : List Q) {q : Q} (hq : q ∈ lastN r E) : q ∈ lastN r' E := by
  unfold lastN at *
  obtain ⟨k, hk⟩ : ∃ k, E.length - r = (E.length - r') + k := ⟨(E.length - r) - (E.length - r'), by omega⟩
  rw [hk, ← List.drop_drop] at hq
  exact List.mem_of_mem_drop hq
/-- More room, more hits. -/
theorem hits_more {p p' : PS} {E : List Q} (h : p.keys = lastN p.room E) (h' : p'.keys = lastN p'.room E) (hr : p.room ≤ p'.room) (hh : p.hits ≤ p'.hits) (q : Q) : (p.ask q).hits ≤ (p'.ask q).hits := by
  unfold PS.ask
  by_cases hq : q ∈ p.keys
  · have hq' : q ∈ p'.keys := by rw [h'] ; rw [h] at hq; exact lastN_sub hr E hq
    rw [if_pos hq, if_pos hq']
    exact Nat.succ_le_succ hh
  · rw [if_neg hq]
    split <;> split <;> first | exact hh | exact Nat.le_succ_of_le hh | (split <;> first | exact hh | exact Nat.le_succ_of_le hh)
/-- What was asked is kept. -/
theorem ask_mem (p : PS) (q : Q) : q ∈ (p.ask q).keys := by
  unfold PS.ask
  split
  · simp
  · split <;> simp
/-- What is not dropped. -/
theorem ask_drop {p : PS} (h : p.dropped = 0 ∨ p.keys.length = p.room) (hl : p.keys.length ≤ p.room) (hr : 1 ≤ p.room) (hn : p.keys.Nodup) (q : Q) : (p.ask q).dropped = 0 ∨ (p.ask q).keys.length = (p.ask q).room := by
  unfold PS.ask
  by_cases hq : q ∈ p.keys
  · rw [if_pos hq]
    have := filter_ne hn hq
    rcases h with h | h
    · exact .inl h
    · exact .inr (by simp only [List.length_append, List.length_singleton]; omega)
  · rw [if_neg hq]
    by_cases hlt : p.keys.length < p.room
    · rw [if_pos hlt]
      exact .inl (by rcases h with h | h <;> first | exact h | omega)
    · rw [if_neg hlt]
      exact .inr (by simp only [List.length_append, List.length_singleton, List.length_tail]; omega)
end -- CaX

section -- CaY
open Go.RowKit Go.Maps
set_option linter.unusedVariables false
set_option maxRecDepth 100000
set_option maxHeartbeats 2000000

/-- What an ask makes of a cache. -/
def PS.step (p : PS) (k : Int) (xs : List Int) : PS := if askErr p.n k xs = 0 then p.ask (k.toNat, xs.take k.toNat) else p
theorem turn_step (w : World) {F : Nat → Prop} {b bm : Nat} {s : CS} (hc : CacheAt w F b bm s) (hF : ∀ i, F i → i < w.heap.size) (k : Int) (v : Value) (xs : List Int) (hv : IntsAt w v xs) (hl : xs.length ≤ 1000)
    (h : s.now < 1000000000 ∧ s.hits < 1000000000 ∧ s.misses < 1000000000 ∧ s.dropped < 1000000000) :
    Calls Tryz.prog 11 #[.pointer (some ⟨b, 0, none⟩), .int .i64 k, v] w fun e w' => ∃ pv lv cv s', e = .returned (.tuple #[.slice pv lv cv, .int .i64 (askErr s.n k xs)]) ∧ CacheAt w' F b bm s' ∧ s'.plain = s.plain.step k xs ∧ Kept (CK b bm) w w' := by
  by_cases h0 : askErr s.n k xs = 0
  · obtain ⟨K, rfl, h1, h2, ho⟩ := askErr_zero h0
    refine (turn_c_any w hc hF K v xs hv (by omega) h1 h2 ho h.1 h.2.1 h.2.2.1 h.2.2.2).mono ?_
    rintro e w' ⟨s', base, vv, rfl, hlone, _, hbw, hca, hpp, hk⟩
    obtain ⟨pv, cv, rfl⟩ := hlone.rows.shape
    refine ⟨_, _, _, s', by rw [h0], hca w' (Below.refl _ _), ?_, hk⟩
    unfold PS.step
    rw [if_pos (show askErr s.plain.n (K : Int) xs = 0 from h0), hpp, Int.toNat_natCast]
  · refine (turn_c_bad w hc k v xs hv (by omega) h0).mono ?_
    rintro e w' ⟨rfl, hB⟩
    refine ⟨_, _, _, s, rfl, hc.below hB, ?_, (Kept.below hB).mono (fun _ _ h => h.elim)⟩
    unfold PS.step
    rw [if_neg (show ¬ askErr s.plain.n k xs = 0 from h0)]
end -- CaY

end Go.Proofs.YtlmpagicjgldkaaGreat
