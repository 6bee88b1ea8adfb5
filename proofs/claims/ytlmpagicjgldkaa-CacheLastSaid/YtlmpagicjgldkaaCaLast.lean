/-
  CacheLast: the plain laws, a Turn, the walk.
-/
import Derived.Test.YtlmpagicjgldkaaCaT
namespace Go.Proofs.Ytlmpagicjgldkaa

section -- CaX
set_option linter.unusedVariables false

abbrev Q := Nat × List Int
def mtb (E : List Q) (q : Q) : List Q := E.filter (fun x => decide (x ≠ q)) ++ [q]
def lastN (r : Nat) (E : List Q) : List Q := E.drop (E.length - r)
theorem filter_off {l : List Q} {q : Q} (h : q ∉ l) : l.filter (fun x => decide (x ≠ q)) = l := by
  rw [List.filter_eq_self]
  intro x hx
  exact decide_eq_true (fun e => h (e ▸ hx))
theorem mtb_nodup {E : List Q} {q : Q} (h : E.Nodup) : (mtb E q).Nodup := by
  unfold mtb
  rw [List.nodup_append]
  refine ⟨h.filter _, by simp, fun a ha b hb => ?_⟩
  simp at hb
  subst hb
  simp at ha
  exact ha.2
theorem lastN_split (r : Nat) (E : List Q) : ∃ A, E = A ++ lastN r E ∧ (lastN r E).length = min r E.length ∧ A.length = E.length - r := by
  refine ⟨E.take (E.length - r), (List.take_append_drop _ _).symm, ?_, ?_⟩
  · unfold lastN; rw [List.length_drop]; omega
  · rw [List.length_take]; omega
theorem ask_last {p : PS} {E : List Q} (hE : E.Nodup) (h : p.keys = lastN p.room E) (hr : 1 ≤ p.room) (q : Q) : (p.ask q).keys = lastN p.room (mtb E q) ∧ (p.ask q).room = p.room := by
  obtain ⟨A, hA, hl, hal⟩ := lastN_split p.room E
  rw [← h] at hA hl
  have hnd : (A ++ p.keys).Nodup := hA ▸ hE
  rw [List.nodup_append] at hnd
  unfold PS.ask
  by_cases hq : q ∈ p.keys
  · rw [if_pos hq]
    refine ⟨?_, rfl⟩
    have hqA : q ∉ A := fun hh => hnd.2.2 q hh q hq rfl
    have hf := filter_ne hnd.2.1 hq
    have e : mtb E q = A ++ (p.keys.filter (fun x => decide (x ≠ q)) ++ [q]) := by
      unfold mtb
      conv => lhs; rw [hA]
      rw [List.filter_append, filter_off hqA, List.append_assoc]
    unfold lastN
    rw [e, List.length_append, List.length_append, List.length_singleton, hf]
    have : A.length + p.keys.length - p.room = A.length := by
      have := congrArg List.length hA
      rw [List.length_append] at this
      omega
    rw [this, List.drop_left]
  · rw [if_neg hq]
    by_cases hlt : p.keys.length < p.room
    · rw [if_pos hlt]
      refine ⟨?_, rfl⟩
      have hA0 : A = [] := List.eq_nil_of_length_eq_zero (by omega)
      subst hA0
      have e : mtb E q = p.keys ++ [q] := by
        unfold mtb
        conv => lhs; rw [hA]
        rw [List.nil_append, filter_off hq]
      unfold lastN
      rw [e, List.length_append, List.length_singleton, show p.keys.length + 1 - p.room = 0 by omega, List.drop_zero]
    · rw [if_neg hlt]
      refine ⟨?_, rfl⟩
      have e : mtb E q = A.filter (fun x => decide (x ≠ q)) ++ (p.keys ++ [q]) := by
        unfold mtb
        conv => lhs; rw [hA]
        rw [List.filter_append, filter_off hq, List.append_assoc]
      unfold lastN
      rw [e, List.length_append, List.length_append, List.length_singleton]
      generalize A.filter (fun x => decide (x ≠ q)) = A'
      have hk : p.keys.length = p.room := by omega
      rw [show A'.length + (p.keys.length + 1) - p.room = A'.length + 1 by omega, List.drop_append, List.drop_of_length_le (by omega), List.nil_append]
      rw [show A'.length + 1 - A'.length = 1 by omega]
      cases hc : p.keys with
      | nil => rw [hc] at hk; simp at hk; omega
      | cons x xs => simp
theorem lastN_sub {r r' : Nat} (h : r ≤ r') (E : List Q) {q : Q} (hq : q ∈ lastN r E) : q ∈ lastN r' E := by
  unfold lastN at *
  obtain ⟨k, hk⟩ : ∃ k, E.length - r = (E.length - r') + k := ⟨(E.length - r) - (E.length - r'), by omega⟩
  rw [hk, ← List.drop_drop] at hq
  exact List.mem_of_mem_drop hq
/-- More room, more hits. -/
theorem hits_more {p p' : PS} {E : List Q} (h : p.keys = lastN p.room E) (h' : p'.keys = lastN p'.room E) (hr : p.room ≤ p'.room) (hh : p.hits ≤ p'.hits) (q : Q) : (p.ask q).hits ≤ (p'.ask q).hits := by
  unfold PS.ask
  by_cases hq : q ∈ p.keys
  · have hq' : q ∈ p'.keys := by rw [h'] ; rw [h] at hq; exact lastN_sub hr E hq
    rw [if_pos hq, if_pos hq']
    exact Nat.succ_le_succ hh
  · rw [if_neg hq]
    split <;> split <;> first | exact hh | exact Nat.le_succ_of_le hh | (split <;> first | exact hh | exact Nat.le_succ_of_le hh)
/-- What was asked is kept. -/
theorem ask_mem (p : PS) (q : Q) : q ∈ (p.ask q).keys := by
  unfold PS.ask
  split
  · simp
  · split <;> simp
/-- What is not dropped. -/
theorem ask_drop {p : PS} (h : p.dropped = 0 ∨ p.keys.length = p.room) (hl : p.keys.length ≤ p.room) (hr : 1 ≤ p.room) (hn : p.keys.Nodup) (q : Q) : (p.ask q).dropped = 0 ∨ (p.ask q).keys.length = (p.ask q).room := by
  unfold PS.ask
  by_cases hq : q ∈ p.keys
  · rw [if_pos hq]
    have := filter_ne hn hq
    rcases h with h | h
    · exact .inl h
    · exact .inr (by simp only [List.length_append, List.length_singleton]; omega)
  · rw [if_neg hq]
    by_cases hlt : p.keys.length < p.room
    · rw [if_pos hlt]
      exact .inl (by rcases h with h | h <;> first | exact h | omega)
    · rw [if_neg hlt]
      exact .inr (by simp only [List.length_append, List.length_singleton, List.length_tail]; omega)
end -- CaX

section -- CaY
open Go.RowKit Go.Maps
set_option linter.unusedVariables false
set_option maxRecDepth 100000
set_option maxHeartbeats 2000000

/-- What an ask makes of a cache. -/
def PS.step (p : PS) (k : Int) (xs : List Int) : PS := if askErr p.n k xs = 0 then p.ask (k.toNat, xs.take k.toNat) else p
theorem turn_step (w : World) {F : Nat → Prop} {b bm : Nat} {s : CS} (hc : CacheAt w F b bm s) (hF : ∀ i, F i → i < w.heap.size) (k : Int) (v : Value) (xs : List Int) (hv : IntsAt w v xs) (hl : xs.length ≤ 1000)
    (h : s.now < 1000000000 ∧ s.hits < 1000000000 ∧ s.misses < 1000000000 ∧ s.dropped < 1000000000) :
    Calls Try.prog 9 #[.pointer (some ⟨b, 0, none⟩), .int .i64 k, v] w fun e w' => ∃ pv lv cv s', e = .returned (.tuple #[.slice pv lv cv, .int .i64 (askErr s.n k xs)]) ∧ CacheAt w' F b bm s' ∧ s'.plain = s.plain.step k xs ∧ Kept (CK b bm) w w' := by
  by_cases h0 : askErr s.n k xs = 0
  · obtain ⟨K, rfl, h1, h2, ho⟩ := askErr_zero h0
    refine (turn_c_any w hc hF K v xs hv (by omega) h1 h2 ho h.1 h.2.1 h.2.2.1 h.2.2.2).mono ?_
    rintro e w' ⟨s', base, vv, rfl, hlone, _, hbw, hca, hpp, hk⟩
    obtain ⟨pv, cv, rfl⟩ := hlone.rows.shape
    refine ⟨_, _, _, s', by rw [h0], hca w' (Below.refl _ _), ?_, hk⟩
    unfold PS.step
    rw [if_pos (show askErr s.plain.n (K : Int) xs = 0 from h0), hpp, Int.toNat_natCast]
  · refine (turn_c_bad w hc k v xs hv (by omega) h0).mono ?_
    rintro e w' ⟨rfl, hB⟩
    refine ⟨_, _, _, s, rfl, hc.below hB, ?_, (Kept.below hB).mono (fun _ _ h => h.elim)⟩
    unfold PS.step
    rw [if_neg (show ¬ askErr s.plain.n k xs = 0 from h0)]
end -- CaY

section -- CaZ
set_option linter.unusedVariables false

structure LInv (N r1 r2 M : Nat) (E : List Q) (p1 p2 p3 : PS) : Prop where
  i1 : PInv N r1 M p1
  i2 : PInv N r2 M p2
  i3 : PInv N 64 M p3
  nodup : E.Nodup
  k1 : p1.keys = lastN p1.room E
  k2 : p2.keys = lastN p2.room E
  k3 : p3.keys = lastN p3.room E
  h12 : p1.hits ≤ p2.hits
  h23 : p2.hits ≤ p3.hits
  drop : p3.dropped = 0 ∨ p3.keys.length = p3.room
theorem LInv.ask {N r1 r2 M : Nat} {E : List Q} {p1 p2 p3 : PS} (h : LInv N r1 r2 M E p1 p2 p3) (h1 : 1 ≤ r1) (h12 : r1 ≤ r2) (h2 : r2 ≤ 64) (q : Q) : LInv N r1 r2 (M + 1) (mtb E q) (p1.ask q) (p2.ask q) (p3.ask q) := by
  have e1 := h.i1.room
  have e2 := h.i2.room
  have e3 := h.i3.room
  exact ⟨h.i1.ask h1 q, h.i2.ask (by omega) q, h.i3.ask (by omega) q, mtb_nodup h.nodup,
    by have := ask_last h.nodup h.k1 (by omega) q; rw [this.2]; exact this.1,
    by have := ask_last h.nodup h.k2 (by omega) q; rw [this.2]; exact this.1,
    by have := ask_last h.nodup h.k3 (by omega) q; rw [this.2]; exact this.1,
    hits_more h.k1 h.k2 (by omega) h.h12 q, hits_more h.k2 h.k3 (by omega) h.h23 q,
    ask_drop h.drop (by have := h.i3.full; omega) (by omega) h.i3.nd q⟩
theorem LInv.start (N r1 r2 : Nat) : LInv N r1 r2 0 [] ⟨N, r1, 0, 0, 0, 0, []⟩ ⟨N, r2, 0, 0, 0, 0, []⟩ ⟨N, 64, 0, 0, 0, 0, []⟩ :=
  ⟨⟨rfl, rfl, rfl, rfl, rfl, Nat.zero_le _, List.nodup_nil⟩, ⟨rfl, rfl, rfl, rfl, rfl, Nat.zero_le _, List.nodup_nil⟩, ⟨rfl, rfl, rfl, rfl, rfl, Nat.zero_le _, List.nodup_nil⟩, List.nodup_nil, by simp [lastN], by simp [lastN], by simp [lastN], Nat.le_refl _, Nat.le_refl _, .inl rfl⟩
/-- Few misses in the cache of 64: nothing is dropped. -/
theorem LInv.few {N r1 r2 M : Nat} {E : List Q} {p1 p2 p3 : PS} (h : LInv N r1 r2 M E p1 p2 p3) (hm : p3.misses ≤ 64) : p3.dropped = 0 ∧ p3.keys.length = p3.misses := by
  have e3 := h.i3.room
  have md := h.i3.md
  rcases h.drop with d | d
  · exact ⟨d, by omega⟩
  · exact ⟨by omega, by omega⟩
end -- CaZ

section -- CaZa
open Go.RowKit Go.Maps
set_option linter.unusedVariables false
set_option linter.unusedSimpArgs false
set_option maxRecDepth 100000
set_option maxHeartbeats 4000000

theorem drewBelowL (w : World) (q : Nat) : Below w.heap.size w (w.drewN q) := ⟨rfl, rfl, rfl, Nat.le_refl _, fun _ _ => rfl⟩
/-- The blocks of three caches. -/
def CK3 (b1 m1 b2 m2 b3 m3 : Nat) (i : Nat) : Prop := CK b1 m1 i ∨ CK b2 m2 i ∨ CK b3 m3 i
structure Live3 (w : World) (b1 m1 b2 m2 b3 m3 : Nat) (p1 p2 p3 : PS) : Prop where
  c1 : ∃ s, CacheAt w (CK3 b1 m1 b2 m2 b3 m3) b1 m1 s ∧ s.plain = p1
  c2 : ∃ s, CacheAt w (CK3 b1 m1 b2 m2 b3 m3) b2 m2 s ∧ s.plain = p2
  c3 : ∃ s, CacheAt w (CK3 b1 m1 b2 m2 b3 m3) b3 m3 s ∧ s.plain = p3
theorem Live3.below {w w' : World} {b1 m1 b2 m2 b3 m3 : Nat} {p1 p2 p3 : PS} (h : Live3 w b1 m1 b2 m2 b3 m3 p1 p2 p3) (hb : Below w.heap.size w w') : Live3 w' b1 m1 b2 m2 b3 m3 p1 p2 p3 := by
  obtain ⟨⟨s1, h1, e1⟩, ⟨s2, h2, e2⟩, ⟨s3, h3, e3⟩⟩ := h
  exact ⟨⟨s1, h1.below hb, e1⟩, ⟨s2, h2.below hb, e2⟩, ⟨s3, h3.below hb, e3⟩⟩
theorem Live3.lt {w : World} {b1 m1 b2 m2 b3 m3 : Nat} {p1 p2 p3 : PS} (h : Live3 w b1 m1 b2 m2 b3 m3 p1 p2 p3) : ∀ i, CK3 b1 m1 b2 m2 b3 m3 i → i < w.heap.size := by
  obtain ⟨⟨s1, h1, e1⟩, ⟨s2, h2, e2⟩, ⟨s3, h3, e3⟩⟩ := h
  rintro i ((rfl | rfl) | (rfl | rfl) | (rfl | rfl))
  · exact h1.lt
  · exact h1.map.lt
  · exact h2.lt
  · exact h2.map.lt
  · exact h3.lt
  · exact h3.map.lt

structure Apart3 (b1 m1 b2 m2 b3 m3 : Nat) : Prop where
  a12 : ∀ i, CK b1 m1 i → ¬ CK b2 m2 i
  a13 : ∀ i, CK b1 m1 i → ¬ CK b3 m3 i
  a23 : ∀ i, CK b2 m2 i → ¬ CK b3 m3 i
theorem Live3.turn1 {w w' : World} {b1 m1 b2 m2 b3 m3 : Nat} {p1 p2 p3 p : PS} (h : Live3 w b1 m1 b2 m2 b3 m3 p1 p2 p3) (ha : Apart3 b1 m1 b2 m2 b3 m3) (hk : Kept (CK b1 m1) w w') (hc : ∃ s, CacheAt w' (CK3 b1 m1 b2 m2 b3 m3) b1 m1 s ∧ s.plain = p) : Live3 w' b1 m1 b2 m2 b3 m3 p p2 p3 := by
  obtain ⟨_, ⟨s2, h2, e2⟩, ⟨s3, h3, e3⟩⟩ := h
  exact ⟨hc, ⟨s2, h2.kept hk (fun h => ha.a12 _ h (.inl rfl)) (fun h => ha.a12 _ h (.inr rfl)) (fun _ h => .inl h), e2⟩, ⟨s3, h3.kept hk (fun h => ha.a13 _ h (.inl rfl)) (fun h => ha.a13 _ h (.inr rfl)) (fun _ h => .inl h), e3⟩⟩
theorem Live3.turn2 {w w' : World} {b1 m1 b2 m2 b3 m3 : Nat} {p1 p2 p3 p : PS} (h : Live3 w b1 m1 b2 m2 b3 m3 p1 p2 p3) (ha : Apart3 b1 m1 b2 m2 b3 m3) (hk : Kept (CK b2 m2) w w') (hc : ∃ s, CacheAt w' (CK3 b1 m1 b2 m2 b3 m3) b2 m2 s ∧ s.plain = p) : Live3 w' b1 m1 b2 m2 b3 m3 p1 p p3 := by
  obtain ⟨⟨s1, h1, e1⟩, _, ⟨s3, h3, e3⟩⟩ := h
  exact ⟨⟨s1, h1.kept hk (fun h => ha.a12 _ (.inl rfl) h) (fun h => ha.a12 _ (.inr rfl) h) (fun _ h => .inr (.inl h)), e1⟩, hc, ⟨s3, h3.kept hk (fun h => ha.a23 _ h (.inl rfl)) (fun h => ha.a23 _ h (.inr rfl)) (fun _ h => .inr (.inl h)), e3⟩⟩
theorem Live3.turn3 {w w' : World} {b1 m1 b2 m2 b3 m3 : Nat} {p1 p2 p3 p : PS} (h : Live3 w b1 m1 b2 m2 b3 m3 p1 p2 p3) (ha : Apart3 b1 m1 b2 m2 b3 m3) (hk : Kept (CK b3 m3) w w') (hc : ∃ s, CacheAt w' (CK3 b1 m1 b2 m2 b3 m3) b3 m3 s ∧ s.plain = p) : Live3 w' b1 m1 b2 m2 b3 m3 p1 p2 p := by
  obtain ⟨⟨s1, h1, e1⟩, ⟨s2, h2, e2⟩, _⟩ := h
  exact ⟨⟨s1, h1.kept hk (fun h => ha.a13 _ (.inl rfl) h) (fun h => ha.a13 _ (.inr rfl) h) (fun _ h => .inr (.inr h)), e1⟩, ⟨s2, h2.kept hk (fun h => ha.a23 _ (.inl rfl) h) (fun h => ha.a23 _ (.inr rfl) h) (fun _ h => .inr (.inr h)), e2⟩, hc⟩
/-- A Turn of one of them. -/
theorem turn_pl (w : World) {F : Nat → Prop} {b bm N M R : Nat} {p : PS} (hc : ∃ s, CacheAt w F b bm s ∧ s.plain = p) (hi : PInv N R M p) (hM : M < 1000000000) (hF : ∀ i, F i → i < w.heap.size) (k : Int) (v : Value) (xs : List Int) (hv : IntsAt w v xs) (hl : xs.length ≤ 1000) :
    Calls Try.prog 9 #[.pointer (some ⟨b, 0, none⟩), .int .i64 k, v] w fun e w' => ∃ pv lv cv, e = .returned (.tuple #[.slice pv lv cv, .int .i64 (askErr N k xs)]) ∧ (∃ s', CacheAt w' F b bm s' ∧ s'.plain = p.step k xs) ∧ Kept (CK b bm) w w' := by
  obtain ⟨s, hc, rfl⟩ := hc
  refine (turn_step w hc hF k v xs hv hl (hi.small hM)).mono ?_
  rintro e w' ⟨pv, lv, cv, s', rfl, h1, h2, h3⟩
  refine ⟨pv, lv, cv, ?_, ⟨s', h1, h2⟩, h3⟩
  rw [← show s.n = N from hi.n]

theorem stat_hits (W : World) (x y z u : Int) : (Instr.field 38 (.agg #[.int .i64 x, .int .i64 y, .int .i64 z, .int .i64 u]) 1).run Try.prog W = .ok (.int .i64 y) W := by kernel_rfl

theorem new_some (w : World) (n room : Int) : Calls Try.prog 6 #[.int .i64 n, .int .i64 room] w fun e w' => ∃ pv er, e = .returned (.tuple #[.pointer pv, .int .i64 er]) ∧ Below w.heap.size w w' := by
  by_cases h : n < 1 ∨ 255 < n ∨ room < 1 ∨ 64 < room
  · refine (new_bad w n room h).mono ?_
    rintro e w' ⟨rfl, rfl⟩
    exact ⟨_, _, rfl, Below.refl _ _⟩
  · obtain ⟨N, rfl⟩ : ∃ N : Nat, n = N := ⟨n.toNat, by omega⟩
    obtain ⟨R, rfl⟩ : ∃ R : Nat, room = R := ⟨room.toNat, by omega⟩
    refine (new_any w N R (by omega) (by omega) (by omega) (by omega)).mono ?_
    rintro e w' ⟨b, bm, rfl, _, _, _, hB⟩
    exact ⟨_, _, rfl, hB⟩

theorem last_any (w : World) (n room x : Int) (v : Value) (l : List AskI) (hv : AsksAt w v l) (hl : l.length ≤ 140737488355328) (hr : ∀ i (h : i < l.length), l[i].ix.length ≤ 140737488355328) :
    Calls Try.prog 3 #[.int .i64 n, .int .i64 room, .int .i64 x, v] w fun e w' => e = .returned (.bool true) ∧ Below w.heap.size w w' := by
  have HV := Lib.hid hv
  obtain ⟨p, cap, rfl, hcap, _⟩ := hv
  have HR := Lib.hid hr
  obtain ⟨L, hL⟩ : ∃ L, l.length = L := ⟨_, rfl⟩
  have HL := Lib.hid hL
  have HGR := Lib.hid (fun (W : World) (h : Below w.heap.size w W) => great_any W n _ l (HV.out.below h) hl hr)
  obtain ⟨P, hP⟩ : ∃ P, pickN x 20 = P := ⟨_, rfl⟩
  have hP20 : P < 20 := by rw [← hP]; exact pickN_lt _ (by omega)
  have HPK := Lib.hid (fun (W : World) => by have := pick_ex W x 20 (by omega) (by omega); rw [hP] at this; exact this)
  rw [hL] at HV HGR hcap ⊢
  clear hr hL hP
  go_enter Try.func3, Try.ntmps3
  go_wp2_with fail
  refine (awake_any w).mono ?_
  rintro e w1 ⟨rfl, hB1⟩
  have HB1 := Lib.hid hB1
  clear hB1
  go_wp2_with fail
  by_cases hb : n < 1 ∨ 255 < n ∨ room < 1 ∨ 64 < room
  · refine (new_bad w1 n room hb).mono ?_
    rintro e w' ⟨rfl, rfl⟩
    clear hb
    go_wp2_with fail
    refine (HPK.out _).mono ?_
    rintro e w' ⟨rfl, rfl⟩
    go_wp2_with fail
    refine (new_some _ _ _).mono ?_
    rintro e w2 ⟨pv2, er2, rfl, hB2⟩
    have HB2 := Lib.hid (below_more HB1.out hB2 HB1.out.size)
    clear hB2
    go_wp2_with fail
    refine (new_some _ _ _).mono ?_
    rintro e w3 ⟨pv3, er3, rfl, hB3⟩
    have HB3 := Lib.hid (below_more HB2.out hB3 HB2.out.size)
    clear hB3
    go_wp2_with fail
    refine (HGR.out w3 HB3.out).mono ?_
    rintro e w4 ⟨hg, q, rfl⟩
    have HB4 := Lib.hid (below_more HB3.out (drewBelowL w3 q) HB3.out.size)
    generalize w3.drewN q = w4 at *
    rcases hg with rfl | ⟨rfl, _⟩
    all_goals
      go_wp2
      go_ret
      exact ⟨rfl, HB4.out⟩
  · obtain ⟨N, rfl⟩ : ∃ N : Nat, n = N := ⟨n.toNat, by omega⟩
    obtain ⟨R, rfl⟩ : ∃ R : Nat, room = R := ⟨room.toNat, by omega⟩
    have hN1 : 1 ≤ N := by omega
    have hN2 : N ≤ 255 := by omega
    have hR1 : 1 ≤ R := by omega
    have hR2 : R ≤ 64 := by omega
    clear hb
    refine (new_any w1 N R hN1 hN2 hR1 hR2).mono ?_
    rintro e w2 ⟨b1, m1, rfl, hbb, hbm, hc1, hB2⟩
    have HC1 := Lib.hid hc1
    have HB2 := Lib.hid (below_more HB1.out hB2 HB1.out.size)
    clear hc1 hB2
    go_wp2_with fail
    refine (HPK.out w2).mono ?_
    rintro e w' ⟨rfl, rfl⟩
    go_wp2_with fail
    by_cases hb : 64 < R + P
    · refine (new_bad w2 _ ((R : Int) + (P : Int)) (by omega)).mono ?_
      rintro e w' ⟨rfl, rfl⟩
      clear hb
      go_wp2_with fail
      refine (new_some _ _ _).mono ?_
      rintro e w3 ⟨pv3, er3, rfl, hB3⟩
      have HB3 := Lib.hid (below_more HB2.out hB3 HB2.out.size)
      clear hB3
      go_wp2_with fail
      refine (HGR.out w3 HB3.out).mono ?_
      rintro e w4 ⟨hg, q, rfl⟩
      have HB4 := Lib.hid (below_more HB3.out (drewBelowL w3 q) HB3.out.size)
      generalize w3.drewN q = w4 at *
      rcases hg with rfl | ⟨rfl, _⟩
      all_goals
        go_wp2
        go_ret
        exact ⟨rfl, HB4.out⟩
    · obtain ⟨T, hT⟩ : ∃ T, R + P = T := ⟨_, rfl⟩
      have hT2 : (R : Int) + (P : Int) = (T : Int) := by omega
      rw [hT2]
      refine (new_any w2 N T hN1 hN2 (by omega) (by omega)).mono ?_
      rintro e w3 ⟨b2, m2, rfl, hbb2, hbm2, hc2, hB3⟩
      have HC2 := Lib.hid hc2
      have HB23 := Lib.hid hB3
      have HB3 := Lib.hid (below_more HB2.out hB3 HB2.out.size)
      clear hc2 hB3
      go_wp2_with fail
      refine (new_any w3 N 64 hN1 hN2 (by omega) (by omega)).mono ?_
      rintro e w4 ⟨b3, m3, rfl, hbb3, hbm3, hc3, hB4⟩
      have HL4 := Lib.hid (show Live3 w4 b1 m1 b2 m2 b3 m3 ⟨N, R, 0, 0, 0, 0, []⟩ ⟨N, T, 0, 0, 0, 0, []⟩ ⟨N, 64, 0, 0, 0, 0, []⟩ from
        ⟨⟨_, ((HC1.out _ (.inl (.inl rfl)) (.inl (.inr rfl))).below HB23.out).below hB4, rfl⟩, ⟨_, (HC2.out _ (.inr (.inl (.inl rfl))) (.inr (.inl (.inr rfl)))).below hB4, rfl⟩, ⟨_, hc3 _ (.inr (.inr (.inl rfl))) (.inr (.inr (.inr rfl))), rfl⟩⟩)
      have HB4 := Lib.hid (below_more HB3.out hB4 HB3.out.size)
      have HAP := Lib.hid (show Apart3 b1 m1 b2 m2 b3 m3 from by
        have x1 := HC1.out (fun _ => True) trivial trivial
        have x2 := HC2.out (fun _ => True) trivial trivial
        have l1 := x1.lt
        have l2 := x1.map.lt
        have l3 := x2.lt
        have l4 := x2.map.lt
        have s23 := HB23.out.size
        refine ⟨?_, ?_, ?_⟩ <;> (rintro i (h | h) (g | g) <;> omega))
      have HCK := Lib.hid (show ∀ i, CK3 b1 m1 b2 m2 b3 m3 i → w.heap.size ≤ i from by
        have z1 := HB1.out.size
        have z2 := HB2.out.size
        have z3 := HB3.out.size
        rintro i ((h | h) | (h | h) | (h | h)) <;> omega)
      clear hc3 hB4
      go_wp2_with fail
      refine (HGR.out w4 HB4.out).mono ?_
      rintro e w5 ⟨hg, q, rfl⟩
      have HB5 := Lib.hid (below_more HB4.out (drewBelowL w4 q) HB4.out.size)
      have HL5 := Lib.hid (HL4.out.below (drewBelowL w4 q))
      generalize w4.drewN q = w5 at *
      rcases hg with rfl | ⟨rfl, g1, g2, g3⟩
      · go_wp2
        go_ret
        exact ⟨rfl, HB5.out⟩
      have hL3 : L ≤ 300 := by rw [← HL.out]; exact g2
      have HG3 := Lib.hid g3
      clear g2 g3
      go_wp2
      go_loopw [15] (fun v15 wr => ∃ i M : Nat, ∃ E p1 p2 p3, i ≤ L ∧ M ≤ i ∧ v15 = .int .i64 (i : Int) ∧ LInv N R T M E p1 p2 p3 ∧ Live3 wr b1 m1 b2 m2 b3 m3 p1 p2 p3 ∧ Below w.heap.size w wr) (fun i _ => L - (intOf i).toNat)
      case atStart => exact ⟨0, 0, [], _, _, _, Nat.zero_le _, Nat.le_refl _, rfl, LInv.start N R T, HL5.out, HB5.out⟩
      case round =>
        obtain ⟨wo, rfl⟩ : ∃ wo, wo = wr := ⟨_, rfl⟩
        obtain ⟨i, M, E, p1, p2, p3, hi, hMi, rfl, hI, hLv, hB⟩ := hrel
        have HI := Lib.hid hI
        have HLV := Lib.hid hLv
        have HB := Lib.hid hB
        clear hI hLv hB
        by_cases hlt : i < L
        · have hli : i < l.length := by rw [HL.out]; exact hlt
          obtain ⟨p2, cap2, e2, _, hc2⟩ := HV.out
          obtain ⟨g, off, e3, hcc⟩ := hc2 (by omega)
          have e4 := Value.slice.inj e2
          have e5 := e4.1
          clear e4
          subst e5
          subst e3
          obtain ⟨x0, x1, x2, x3, u, x4, x5⟩ := hcc i hli
          have hgl := blt x0
          have x0 := (HB.out.cell (p := ⟨g, off + i * 5, none⟩) hgl).trans x0
          have x1 := (HB.out.cell (p := ⟨g, off + i * 5 + 1, none⟩) hgl).trans x1
          have x2 := (HB.out.cell (p := ⟨g, off + i * 5 + 2, none⟩) hgl).trans x2
          have x3 := (HB.out.cell (p := ⟨g, off + i * 5 + 3, none⟩) hgl).trans x3
          have x4 := (HB.out.cell (p := ⟨g, off + i * 5 + 4, none⟩) hgl).trans x4
          have hix := HG3.out i hli
          obtain ⟨a, ha⟩ : ∃ a, l[i] = a := ⟨_, rfl⟩
          rw [ha] at x0 x1 x2 x3 x5 hix
          have hx5 := x5
          obtain ⟨pu, cu, rfl, _⟩ := hx5
          obtain ⟨lu, hlu⟩ : ∃ lu, a.ix.length = lu := ⟨_, rfl⟩
          have HIX := Lib.hid (show a.ix.length ≤ 300 from hix)
          rw [hlu] at x4
          have HX0 := Lib.hid x5
          have HX5 := Lib.hid (x5.below (HB.out.trans ((balC wo (.cells #[.int .i64 a.what, .int .i64 a.k, .int .i64 a.long, .int .u8 ((a.first.v : Nat) : Int), .slice pu a.ix.length cu] 32)).mono HB.out.size)))
          have HBX := Lib.hid (BoxAt.made wo a (.slice pu a.ix.length cu))
          have HB4 := Lib.hid (show Below w.heap.size w (wo.alloc (.cells #[.int .i64 a.what, .int .i64 a.k, .int .i64 a.long, .int .u8 ((a.first.v : Nat) : Int), .slice pu a.ix.length cu] 32)) from HB.out.alloc HB.out.size _)
          have HLV4 := Lib.hid (HLV.out.below (balC wo (.cells #[.int .i64 a.what, .int .i64 a.k, .int .i64 a.long, .int .u8 ((a.first.v : Nat) : Int), .slice pu a.ix.length cu] 32)))
          have hgb : wo.heap.size < (wo.alloc (.cells #[.int .i64 a.what, .int .i64 a.k, .int .i64 a.long, .int .u8 ((a.first.v : Nat) : Int), .slice pu a.ix.length cu] 32)).heap.size := by simp
          have HNG := Lib.hid (show ¬ CK3 b1 m1 b2 m2 b3 m3 wo.heap.size from fun h => absurd (HLV.out.lt _ h) (Nat.lt_irrefl _))
          rw [hlu] at HX0 HX5 HBX HB4 HLV4 hgb
          have HLU := Lib.hid hlu
          clear hcc hc2 ha x5 hix hlu e2
          go_wp2_with fail
          generalize wo.alloc (.cells #[.int .i64 a.what, .int .i64 a.k, .int .i64 a.long, .int .u8 ((a.first.v : Nat) : Int), .slice pu lu cu] 32) = w4 at *
          refine (turn_pl w4 HLV4.out.c1 HI.out.i1 (by omega) HLV4.out.lt a.k _ a.ix HX5.out (by rw [HLU.out]; have := HIX.out; have := HLU.out; omega)).mono ?_
          rintro e w6 ⟨pv1, lv1, cv1, rfl, hc6, hk6⟩
          have HL6 := Lib.hid (HLV4.out.turn1 HAP.out hk6 hc6)
          have HBX6 := Lib.hid (HBX.out.kept hk6 (fun h => HNG.out (.inl h)))
          have HB6 := Lib.hid (HB4.out.trans (hk6.toBelow HB4.out.size (fun i hi => HCK.out i (.inl hi))))
          clear hc6 hk6
          have c1' := HBX6.out.c1
          have c4' := HBX6.out.c4
          go_wp2_with fail
          refine (turn_pl w6 HL6.out.c2 HI.out.i2 (by omega) HL6.out.lt a.k _ a.ix (HX0.out.below HB6.out) (by rw [HLU.out]; have := HIX.out; have := HLU.out; omega)).mono ?_
          rintro e w7 ⟨pv2, lv2, cv2, rfl, hc7, hk7⟩
          have HL7 := Lib.hid (HL6.out.turn2 HAP.out hk7 hc7)
          have HBX7 := Lib.hid (HBX6.out.kept hk7 (fun h => HNG.out (.inr (.inl h))))
          have HB7 := Lib.hid (HB6.out.trans (hk7.toBelow HB6.out.size (fun i hi => HCK.out i (.inr (.inl hi)))))
          clear hc7 hk7 c1' c4'
          have c1' := HBX7.out.c1
          have c4' := HBX7.out.c4
          go_wp2_with fail
          refine (turn_pl w7 HL7.out.c3 HI.out.i3 (by omega) HL7.out.lt a.k _ a.ix (HX0.out.below HB7.out) (by rw [HLU.out]; have := HIX.out; have := HLU.out; omega)).mono ?_
          rintro e w8 ⟨pv3, lv3, cv3, rfl, hc8, hk8⟩
          have HL8 := Lib.hid (HL7.out.turn3 HAP.out hk8 hc8)
          have HBX8 := Lib.hid (HBX7.out.kept hk8 (fun h => HNG.out (.inr (.inr h))))
          have HB8 := Lib.hid (HB7.out.trans (hk8.toBelow HB7.out.size (fun i hi => HCK.out i (.inr (.inr hi)))))
          clear hc8 hk8 c1' c4'
          have c1' := HBX8.out.c1
          have c4' := HBX8.out.c4
          by_cases hask : askErr N a.k a.ix = 0
          · have HI8 := Lib.hid (HI.out.ask hR1 (by omega) (by omega) (a.k.toNat, a.ix.take a.k.toNat))
            have e1 : p1.step a.k a.ix = p1.ask (a.k.toNat, a.ix.take a.k.toNat) := by unfold PS.step; rw [HI.out.i1.n, if_pos hask]
            have e2 : p2.step a.k a.ix = p2.ask (a.k.toNat, a.ix.take a.k.toNat) := by unfold PS.step; rw [HI.out.i2.n, if_pos hask]
            have e3 : p3.step a.k a.ix = p3.ask (a.k.toNat, a.ix.take a.k.toNat) := by unfold PS.step; rw [HI.out.i3.n, if_pos hask]
            rw [e1, e2, e3] at HL8
            clear e1 e2 e3
            have HZ := Lib.hid (askErr_zero hask)
            rw [hask]
            clear hask
            go_wp2_with fail
            obtain ⟨sh, hch, hph⟩ := HL8.out.c1
            have hyes : sh.plain.has a.k a.ix = true := by
              obtain ⟨K, hK, hk1, hk2, hok⟩ := HZ.out
              have hn := HI8.out.i1.n
              rw [hph]
              unfold PS.has
              rw [hn, hK, Int.toNat_natCast]
              have hmem := ask_mem p1 (K, a.ix.take K)
              have hmem2 : (K, a.ix.take K) ∈ (p1.ask (a.k.toNat, a.ix.take a.k.toNat)).keys := by rw [hK, Int.toNat_natCast]; exact hmem
              rw [hK, Int.toNat_natCast] at hmem2
              exact decide_eq_true ⟨by omega, by omega, by have := hok.len; omega, fun x hx => hok.range x (List.mem_of_mem_take hx), hmem2⟩
            have HH := Lib.hid (has_any w8 hch a.k _ a.ix (HX0.out.below HB8.out) (by rw [HLU.out]; have := HIX.out; have := HLU.out; omega))
            rw [hyes] at HH
            clear hyes hch hph
            refine HH.out.mono ?_
            rintro e w9 ⟨rfl, hB9⟩
            have HL9 := Lib.hid (HL8.out.below hB9)
            have HB9 := Lib.hid (below_more HB8.out hB9 HB8.out.size)
            clear hB9
            go_wp2_with fail
            obtain ⟨sd, hcd, hpd⟩ := HL9.out.c2
            obtain ⟨sc, hcc1, hpc⟩ := HL9.out.c1
            have hhh : sc.hits ≤ sd.hits := by
              have := HI8.out.h12
              rw [← hpd, ← hpc] at this
              exact this
            obtain ⟨hd, hhd⟩ : ∃ q, sd.hits = q := ⟨_, rfl⟩
            obtain ⟨hcn, hhc⟩ : ∃ q, sc.hits = q := ⟨_, rfl⟩
            have HSD := Lib.hid (stat_any w9 hcd)
            have HSC := Lib.hid (fun (W : World) (hB : Below w9.heap.size w9 W) => stat_any W (hcc1.below hB))
            rw [hhd] at HSD hhh
            rw [hhc] at HSC hhh
            have rr : decide ((hd : Int) < (hcn : Int)) = false := by simp; omega
            have rr' : decide (hd < hcn) = false := by simp; omega
            clear hcd hpd hcc1 hpc hhd hhc
            refine HSD.out.mono ?_
            rintro e wx ⟨rfl, hBx⟩
            have HBX := Lib.hid hBx
            clear hBx
            go_wp2_with fail
            simp only [stat_hits]
            go_wp2_with fail
            refine (HSC.out wx HBX.out).mono ?_
            rintro e wy ⟨rfl, hBy⟩
            have HB10 := Lib.hid (HB9.out.trans ((below_more HBX.out hBy HBX.out.size).mono HB9.out.size))
            have HL10 := Lib.hid (HL9.out.below (below_more HBX.out hBy HBX.out.size))
            clear hBy
            go_wp2_with fail
            simp only [stat_hits]
            go_wp2
            go_roundw
            case rel => exact ⟨i + 1, M + 1, _, _, _, _, by omega, by omega, by go_num, HI8.out, HL10.out, HB10.out⟩
            case measure => simp [intOf]; omega
          · have e1 : p1.step a.k a.ix = p1 := by unfold PS.step; rw [HI.out.i1.n, if_neg hask]
            have e2 : p2.step a.k a.ix = p2 := by unfold PS.step; rw [HI.out.i2.n, if_neg hask]
            have e3 : p3.step a.k a.ix = p3 := by unfold PS.step; rw [HI.out.i3.n, if_neg hask]
            rw [e1, e2, e3] at HL8
            obtain ⟨ae, hae⟩ : ∃ ae, askErr N a.k a.ix = ae := ⟨_, rfl⟩
            rw [hae] at hask ⊢
            have hae0 : (ae == 0) = false := by rw [beq_eq_false_iff_ne]; exact hask
            clear e1 e2 e3 hask hae
            go_wp2_with fail
            have HL9 := HL8
            have HB9 := HB8
            obtain ⟨sd, hcd, hpd⟩ := HL9.out.c2
            obtain ⟨sc, hcc1, hpc⟩ := HL9.out.c1
            have hhh : sc.hits ≤ sd.hits := by
              have := HI.out.h12
              rw [← hpd, ← hpc] at this
              exact this
            obtain ⟨hd, hhd⟩ : ∃ q, sd.hits = q := ⟨_, rfl⟩
            obtain ⟨hcn, hhc⟩ : ∃ q, sc.hits = q := ⟨_, rfl⟩
            have HSD := Lib.hid (stat_any w8 hcd)
            have HSC := Lib.hid (fun (W : World) (hB : Below w8.heap.size w8 W) => stat_any W (hcc1.below hB))
            rw [hhd] at HSD hhh
            rw [hhc] at HSC hhh
            have rr : decide ((hd : Int) < (hcn : Int)) = false := by simp; omega
            have rr' : decide (hd < hcn) = false := by simp; omega
            clear hcd hpd hcc1 hpc hhd hhc
            refine HSD.out.mono ?_
            rintro e wx ⟨rfl, hBx⟩
            have HBX := Lib.hid hBx
            clear hBx
            go_wp2_with fail
            simp only [stat_hits]
            go_wp2_with fail
            refine (HSC.out wx HBX.out).mono ?_
            rintro e wy ⟨rfl, hBy⟩
            have HB10 := Lib.hid (HB9.out.trans ((below_more HBX.out hBy HBX.out.size).mono HB9.out.size))
            have HL10 := Lib.hid (HL9.out.below (below_more HBX.out hBy HBX.out.size))
            clear hBy
            go_wp2_with fail
            simp only [stat_hits]
            go_wp2
            go_roundw
            case rel => exact ⟨i + 1, M, _, _, _, _, by omega, by omega, by go_num, HI.out, HL10.out, HB10.out⟩
            case measure => simp [intOf]; omega
        · obtain rfl : i = L := by omega
          obtain ⟨sw, hcw, hpw⟩ := HLV.out.c3
          obtain ⟨sd, hcd, hpd⟩ := HLV.out.c2
          have hkl : p3.keys.length = sw.es.length := by rw [← hpw]; simp [CS.plain]
          have hms : p3.misses = sw.misses := by rw [← hpw]; rfl
          have hds : p3.dropped = sw.dropped := by rw [← hpw]; rfl
          have hh23 : sd.hits ≤ sw.hits := by
            have := HI.out.h23
            rw [← hpd, ← hpw] at this
            exact this
          have hfew : sw.misses ≤ 64 → sw.dropped = 0 ∧ sw.es.length = sw.misses := fun h => by
            have := HI.out.few (by omega)
            exact ⟨by omega, by omega⟩
          have HSW := Lib.hid (stat_any wo hcw)
          have HSD := Lib.hid (fun (W : World) (hB : Below wo.heap.size wo W) => stat_any W (hcd.below hB))
          generalize sw.es.length = ke at *
          generalize sw.hits = hw at *
          generalize sw.misses = mw at *
          generalize sw.dropped = dw at *
          generalize sd.hits = hd at *
          clear hkl hms hds hcw hcd hpw hpd
          by_cases hm : mw ≤ 64
          · obtain ⟨rfl, rfl⟩ := hfew hm
            have r1 : decide ((64 : Int) < (ke : Int)) = false := by simp; omega
            have r1' : decide (64 < ke) = false := by simp; omega
            have r2 : decide ((hd : Int) ≤ (hw : Int)) = true := by simp; omega
            have r2' : decide (hd ≤ hw) = true := by simp; omega
            clear hfew hm
            go_wp2_with fail
            refine HSW.out.mono ?_
            rintro e wx ⟨rfl, hBx⟩
            have HBX := Lib.hid hBx
            clear hBx
            go_wp2_with fail
            have H9 := Lib.hid (show Below wo.heap.size wo (wx.alloc (.cells #[.int .i64 (ke : Int), .int .i64 (hw : Int), .int .i64 (ke : Int), .int .i64 0] 38)) from HBX.out.alloc HBX.out.size _)
            have q0 : (wx.alloc (.cells #[.int .i64 (ke : Int), .int .i64 (hw : Int), .int .i64 (ke : Int), .int .i64 0] 38)).cell? ⟨wx.heap.size, 0, none⟩ = some (.int .i64 (ke : Int)) := World.cell?_alloc_new wx _ _ 0
            have q1 : (wx.alloc (.cells #[.int .i64 (ke : Int), .int .i64 (hw : Int), .int .i64 (ke : Int), .int .i64 0] 38)).cell? ⟨wx.heap.size, 1, none⟩ = some (.int .i64 (hw : Int)) := World.cell?_alloc_new wx _ _ 1
            have q2 : (wx.alloc (.cells #[.int .i64 (ke : Int), .int .i64 (hw : Int), .int .i64 (ke : Int), .int .i64 0] 38)).cell? ⟨wx.heap.size, 2, none⟩ = some (.int .i64 (ke : Int)) := World.cell?_alloc_new wx _ _ 2
            have q3 : (wx.alloc (.cells #[.int .i64 (ke : Int), .int .i64 (hw : Int), .int .i64 (ke : Int), .int .i64 0] 38)).cell? ⟨wx.heap.size, 3, none⟩ = some (.int .i64 0) := World.cell?_alloc_new wx _ _ 3
            have HG9 := Lib.hid (show wx.heap.size < (wx.alloc (.cells #[.int .i64 (ke : Int), .int .i64 (hw : Int), .int .i64 (ke : Int), .int .i64 0] 38)).heap.size by simp)
            generalize wx.alloc (.cells #[.int .i64 (ke : Int), .int .i64 (hw : Int), .int .i64 (ke : Int), .int .i64 0] 38) = w9 at *
            generalize wx.heap.size = g9 at *
            have HQ0 := Lib.hid q0
            have HQ1 := Lib.hid q1
            have HQ2 := Lib.hid q2
            have HQ3 := Lib.hid q3
            clear q0 q1 q2 q3
            have HKD := Lib.hid (show Below w9.heap.size w9 w9.drew from drewBelowL w9 1)
            refine s_start 24 (fun w' => Below w9.heap.size w9 w') (by as_aux_lemma => kernel_rfl) (by as_aux_lemma => kernel_rfl) HKD.out ?_
            refine s_take 0 (by as_aux_lemma => kernel_rfl) (by as_aux_lemma => kernel_rfl) (by as_aux_lemma => kernel_rfl) (by as_aux_lemma => kernel_rfl) HKD.out (fun oi ho => ?_)
            simp only [List.getElem?_toArray, List.getElem?_cons_succ, List.getElem?_cons_zero, Option.some.injEq] at ho
            subst ho
            refine ⟨?_, Or.inl ⟨by rfl, fun w _ => ?_⟩, ?_⟩
            rotate_left
            · (go_simp <;> with_reducible rfl)
            try simp only [Act.put, List.setIfInBounds_toArray, List.set_cons_zero, List.set_cons_succ]
            refine s_take 1 (by as_aux_lemma => kernel_rfl) (by as_aux_lemma => kernel_rfl) (by as_aux_lemma => kernel_rfl) (by as_aux_lemma => kernel_rfl) HKD.out (fun oi ho => ?_)
            simp only [List.getElem?_toArray, List.getElem?_cons_succ, List.getElem?_cons_zero, Option.some.injEq] at ho
            subst ho
            refine ⟨.int .i64 (ke : Int), Or.inl ⟨by rfl, fun w' hS' => ?_⟩, ?_⟩
            · have q := (hS'.cell (p := ⟨g9, 2, none⟩) HG9.out).trans HQ2.out
              (go_simp <;> with_reducible rfl)
            try simp only [Act.put, List.setIfInBounds_toArray, List.set_cons_zero, List.set_cons_succ]
            refine s_take 2 (by as_aux_lemma => kernel_rfl) (by as_aux_lemma => kernel_rfl) (by as_aux_lemma => kernel_rfl) (by as_aux_lemma => kernel_rfl) HKD.out (fun oi ho => ?_)
            simp only [List.getElem?_toArray, List.getElem?_cons_succ, List.getElem?_cons_zero, Option.some.injEq] at ho
            subst ho
            refine ⟨.bool false, Or.inl ⟨by rfl, fun w' hS' => ?_⟩, ?_⟩
            · (go_simp <;> with_reducible rfl)
            try simp only [Act.put, List.setIfInBounds_toArray, List.set_cons_zero, List.set_cons_succ]
            refine s_take 3 (by as_aux_lemma => kernel_rfl) (by as_aux_lemma => kernel_rfl) (by as_aux_lemma => kernel_rfl) (by as_aux_lemma => kernel_rfl) HKD.out (fun oi ho => ?_)
            simp only [List.getElem?_toArray, List.getElem?_cons_succ, List.getElem?_cons_zero, Option.some.injEq] at ho
            subst ho
            refine ⟨?_, Or.inl ⟨by rfl, fun w _ => ?_⟩, ?_⟩
            rotate_left
            · (go_simp <;> with_reducible rfl)
            try simp only [Act.put, List.setIfInBounds_toArray, List.set_cons_zero, List.set_cons_succ]
            refine s_take 4 (by as_aux_lemma => kernel_rfl) (by as_aux_lemma => kernel_rfl) (by as_aux_lemma => kernel_rfl) (by as_aux_lemma => kernel_rfl) HKD.out (fun oi ho => ?_)
            simp only [List.getElem?_toArray, List.getElem?_cons_succ, List.getElem?_cons_zero, Option.some.injEq] at ho
            subst ho
            refine ⟨?_, Or.inl ⟨by rfl, fun w _ => ?_⟩, ?_⟩
            rotate_left
            · (go_simp <;> with_reducible rfl)
            try simp only [Act.put, List.setIfInBounds_toArray, List.set_cons_zero, List.set_cons_succ]
            refine s_take 5 (by as_aux_lemma => kernel_rfl) (by as_aux_lemma => kernel_rfl) (by as_aux_lemma => kernel_rfl) (by as_aux_lemma => kernel_rfl) HKD.out (fun oi ho => ?_)
            simp only [List.getElem?_toArray, List.getElem?_cons_succ, List.getElem?_cons_zero, Option.some.injEq] at ho
            subst ho
            refine ⟨.int .i64 0, Or.inl ⟨by rfl, fun w' hS' => ?_⟩, ?_⟩
            · have q := (hS'.cell (p := ⟨g9, 3, none⟩) HG9.out).trans HQ3.out
              (go_simp <;> with_reducible rfl)
            try simp only [Act.put, List.setIfInBounds_toArray, List.set_cons_zero, List.set_cons_succ]
            refine s_take 6 (by as_aux_lemma => kernel_rfl) (by as_aux_lemma => kernel_rfl) (by as_aux_lemma => kernel_rfl) (by as_aux_lemma => kernel_rfl) HKD.out (fun oi ho => ?_)
            simp only [List.getElem?_toArray, List.getElem?_cons_succ, List.getElem?_cons_zero, Option.some.injEq] at ho
            subst ho
            refine ⟨?_, Or.inl ⟨by rfl, fun w _ => ?_⟩, ?_⟩
            rotate_left
            · (go_simp <;> with_reducible rfl)
            try simp only [Act.put, List.setIfInBounds_toArray, List.set_cons_zero, List.set_cons_succ]
            refine s_take 7 (by as_aux_lemma => kernel_rfl) (by as_aux_lemma => kernel_rfl) (by as_aux_lemma => kernel_rfl) (by as_aux_lemma => kernel_rfl) HKD.out (fun oi ho => ?_)
            simp only [List.getElem?_toArray, List.getElem?_cons_succ, List.getElem?_cons_zero, Option.some.injEq] at ho
            subst ho
            refine ⟨?_, Or.inl ⟨by rfl, fun w _ => ?_⟩, ?_⟩
            rotate_left
            · (go_simp <;> with_reducible rfl)
            try simp only [Act.put, List.setIfInBounds_toArray, List.set_cons_zero, List.set_cons_succ]
            refine s_take 8 (by as_aux_lemma => kernel_rfl) (by as_aux_lemma => kernel_rfl) (by as_aux_lemma => kernel_rfl) (by as_aux_lemma => kernel_rfl) HKD.out (fun oi ho => ?_)
            simp only [List.getElem?_toArray, List.getElem?_cons_succ, List.getElem?_cons_zero, Option.some.injEq] at ho
            subst ho
            refine ⟨?_, Or.inl ⟨by rfl, fun w _ => ?_⟩, ?_⟩
            rotate_left
            · (go_simp <;> with_reducible rfl)
            try simp only [Act.put, List.setIfInBounds_toArray, List.set_cons_zero, List.set_cons_succ]
            refine s_take 9 (by as_aux_lemma => kernel_rfl) (by as_aux_lemma => kernel_rfl) (by as_aux_lemma => kernel_rfl) (by as_aux_lemma => kernel_rfl) HKD.out (fun oi ho => ?_)
            simp only [List.getElem?_toArray, List.getElem?_cons_succ, List.getElem?_cons_zero, Option.some.injEq] at ho
            subst ho
            refine ⟨.int .i64 (ke : Int), Or.inl ⟨by rfl, fun w' hS' => ?_⟩, ?_⟩
            · have q := (hS'.cell (p := ⟨g9, 0, none⟩) HG9.out).trans HQ0.out
              (go_simp <;> with_reducible rfl)
            try simp only [Act.put, List.setIfInBounds_toArray, List.set_cons_zero, List.set_cons_succ]
            refine s_take 10 (by as_aux_lemma => kernel_rfl) (by as_aux_lemma => kernel_rfl) (by as_aux_lemma => kernel_rfl) (by as_aux_lemma => kernel_rfl) HKD.out (fun oi ho => ?_)
            simp only [List.getElem?_toArray, List.getElem?_cons_succ, List.getElem?_cons_zero, Option.some.injEq] at ho
            subst ho
            refine ⟨?_, Or.inl ⟨by rfl, fun w _ => ?_⟩, ?_⟩
            rotate_left
            · (go_simp <;> with_reducible rfl)
            try simp only [Act.put, List.setIfInBounds_toArray, List.set_cons_zero, List.set_cons_succ]
            refine s_take 11 (by as_aux_lemma => kernel_rfl) (by as_aux_lemma => kernel_rfl) (by as_aux_lemma => kernel_rfl) (by as_aux_lemma => kernel_rfl) HKD.out (fun oi ho => ?_)
            simp only [List.getElem?_toArray, List.getElem?_cons_succ, List.getElem?_cons_zero, Option.some.injEq] at ho
            subst ho
            refine ⟨.int .i64 (ke : Int), Or.inl ⟨by rfl, fun w' hS' => ?_⟩, ?_⟩
            · have q := (hS'.cell (p := ⟨g9, 2, none⟩) HG9.out).trans HQ2.out
              (go_simp <;> with_reducible rfl)
            try simp only [Act.put, List.setIfInBounds_toArray, List.set_cons_zero, List.set_cons_succ]
            refine s_take 12 (by as_aux_lemma => kernel_rfl) (by as_aux_lemma => kernel_rfl) (by as_aux_lemma => kernel_rfl) (by as_aux_lemma => kernel_rfl) HKD.out (fun oi ho => ?_)
            simp only [List.getElem?_toArray, List.getElem?_cons_succ, List.getElem?_cons_zero, Option.some.injEq] at ho
            subst ho
            refine ⟨.bool true, Or.inl ⟨by rfl, fun w' hS' => ?_⟩, ?_⟩
            · (go_simp <;> with_reducible rfl)
            try simp only [Act.put, List.setIfInBounds_toArray, List.set_cons_zero, List.set_cons_succ]
            refine s_take 13 (by as_aux_lemma => kernel_rfl) (by as_aux_lemma => kernel_rfl) (by as_aux_lemma => kernel_rfl) (by as_aux_lemma => kernel_rfl) HKD.out (fun oi ho => ?_)
            simp only [List.getElem?_toArray, List.getElem?_cons_succ, List.getElem?_cons_zero, Option.some.injEq] at ho
            subst ho
            refine ⟨?_, Or.inl ⟨by rfl, fun w _ => ?_⟩, ?_⟩
            rotate_left
            · (go_simp <;> with_reducible rfl)
            try simp only [Act.put, List.setIfInBounds_toArray, List.set_cons_zero, List.set_cons_succ]
            refine s_take 14 (by as_aux_lemma => kernel_rfl) (by as_aux_lemma => kernel_rfl) (by as_aux_lemma => kernel_rfl) (by as_aux_lemma => kernel_rfl) HKD.out (fun oi ho => ?_)
            simp only [List.getElem?_toArray, List.getElem?_cons_succ, List.getElem?_cons_zero, Option.some.injEq] at ho
            subst ho
            refine ⟨?_, Or.inl ⟨by rfl, fun w _ => ?_⟩, ?_⟩
            rotate_left
            · (go_simp <;> with_reducible rfl)
            try simp only [Act.put, List.setIfInBounds_toArray, List.set_cons_zero, List.set_cons_succ]
            refine s_take 15 (by as_aux_lemma => kernel_rfl) (by as_aux_lemma => kernel_rfl) (by as_aux_lemma => kernel_rfl) (by as_aux_lemma => kernel_rfl) HKD.out (fun oi ho => ?_)
            simp only [List.getElem?_toArray, List.getElem?_cons_succ, List.getElem?_cons_zero, Option.some.injEq] at ho
            subst ho
            refine ⟨?_, Or.inl ⟨by rfl, fun w _ => ?_⟩, ?_⟩
            rotate_left
            · (go_simp <;> with_reducible rfl)
            try simp only [Act.put, List.setIfInBounds_toArray, List.set_cons_zero, List.set_cons_succ]
            refine s_take 16 (by as_aux_lemma => kernel_rfl) (by as_aux_lemma => kernel_rfl) (by as_aux_lemma => kernel_rfl) (by as_aux_lemma => kernel_rfl) HKD.out (fun oi ho => ?_)
            simp only [List.getElem?_toArray, List.getElem?_cons_succ, List.getElem?_cons_zero, Option.some.injEq] at ho
            subst ho
            refine ⟨.int .i64 (hw : Int), Or.inl ⟨by rfl, fun w' hS' => ?_⟩, ?_⟩
            · have q := (hS'.cell (p := ⟨g9, 1, none⟩) HG9.out).trans HQ1.out
              (go_simp <;> with_reducible rfl)
            try simp only [Act.put, List.setIfInBounds_toArray, List.set_cons_zero, List.set_cons_succ]
            refine s_take 17 (by as_aux_lemma => kernel_rfl) (by as_aux_lemma => kernel_rfl) (by as_aux_lemma => kernel_rfl) (by as_aux_lemma => kernel_rfl) HKD.out (fun oi ho => ?_)
            simp only [List.getElem?_toArray, List.getElem?_cons_succ, List.getElem?_cons_zero, Option.some.injEq] at ho
            subst ho
            refine ⟨?_, Or.inl ⟨by rfl, fun w _ => ?_⟩, ?_⟩
            rotate_left
            · (go_simp <;> with_reducible rfl)
            try simp only [Act.put, List.setIfInBounds_toArray, List.set_cons_zero, List.set_cons_succ]
            refine s_all (rs := [18]) (by as_aux_lemma => kernel_rfl) (by simp) ?_
            refine s_step 18 (by as_aux_lemma => kernel_rfl) (fun o ho K hK => ?_) AllReadyH.nil
            simp only [List.getElem?_toArray, List.getElem?_cons_succ, List.getElem?_cons_zero, Option.some.injEq] at ho
            subst ho
            go_simp
            refine (HSD.out _ (below_more H9.out HKD.out H9.out.size)).mono ?_
            rintro e wa ⟨rfl, hBa⟩
            have HKA := Lib.hid (below_more HKD.out hBa HKD.out.size)
            clear hBa
            go_wp2_with fail
            refine hK.out _ _ HKA.out ?_
            clear hK K
            try simp only [Act.put, List.setIfInBounds_toArray, List.set_cons_zero, List.set_cons_succ]
            refine s_take 19 (by as_aux_lemma => kernel_rfl) (by as_aux_lemma => kernel_rfl) (by as_aux_lemma => kernel_rfl) (by as_aux_lemma => kernel_rfl) HKA.out (fun oi ho => ?_)
            simp only [List.getElem?_toArray, List.getElem?_cons_succ, List.getElem?_cons_zero, Option.some.injEq] at ho
            subst ho
            refine ⟨.int .i64 (hd : Int), Or.inl ⟨by rfl, fun w' hS' => ?_⟩, ?_⟩
            · have q := @stat_hits
              (go_simp <;> first | with_reducible rfl | exact q _ _ _ _)
            try simp only [Act.put, List.setIfInBounds_toArray, List.set_cons_zero, List.set_cons_succ]
            refine s_take 20 (by as_aux_lemma => kernel_rfl) (by as_aux_lemma => kernel_rfl) (by as_aux_lemma => kernel_rfl) (by as_aux_lemma => kernel_rfl) HKA.out (fun oi ho => ?_)
            simp only [List.getElem?_toArray, List.getElem?_cons_succ, List.getElem?_cons_zero, Option.some.injEq] at ho
            subst ho
            refine ⟨.bool true, Or.inl ⟨by rfl, fun w' hS' => ?_⟩, ?_⟩
            · (go_simp <;> with_reducible rfl)
            try simp only [Act.put, List.setIfInBounds_toArray, List.set_cons_zero, List.set_cons_succ]
            refine s_take 21 (by as_aux_lemma => kernel_rfl) (by as_aux_lemma => kernel_rfl) (by as_aux_lemma => kernel_rfl) (by as_aux_lemma => kernel_rfl) HKA.out (fun oi ho => ?_)
            simp only [List.getElem?_toArray, List.getElem?_cons_succ, List.getElem?_cons_zero, Option.some.injEq] at ho
            subst ho
            refine ⟨?_, Or.inl ⟨by rfl, fun w _ => ?_⟩, ?_⟩
            rotate_left
            · (go_simp <;> with_reducible rfl)
            try simp only [Act.put, List.setIfInBounds_toArray, List.set_cons_zero, List.set_cons_succ]
            refine s_take 22 (by as_aux_lemma => kernel_rfl) (by as_aux_lemma => kernel_rfl) (by as_aux_lemma => kernel_rfl) (by as_aux_lemma => kernel_rfl) HKA.out (fun oi ho => ?_)
            simp only [List.getElem?_toArray, List.getElem?_cons_succ, List.getElem?_cons_zero, Option.some.injEq] at ho
            subst ho
            refine ⟨?_, Or.inl ⟨by rfl, fun w _ => ?_⟩, ?_⟩
            rotate_left
            · (go_simp <;> with_reducible rfl)
            try simp only [Act.put, List.setIfInBounds_toArray, List.set_cons_zero, List.set_cons_succ]
            refine s_take 23 (by as_aux_lemma => kernel_rfl) (by as_aux_lemma => kernel_rfl) (by as_aux_lemma => kernel_rfl) (by as_aux_lemma => kernel_rfl) HKA.out (fun oi ho => ?_)
            simp only [List.getElem?_toArray, List.getElem?_cons_succ, List.getElem?_cons_zero, Option.some.injEq] at ho
            subst ho
            refine ⟨?_, Or.inl ⟨by rfl, fun w _ => ?_⟩, ?_⟩
            rotate_left
            · (go_simp <;> with_reducible rfl)
            try simp only [Act.put, List.setIfInBounds_toArray, List.set_cons_zero, List.set_cons_succ]
            refine s_done (by as_aux_lemma => kernel_rfl) ?_
            have HB9 := Lib.hid (HB.out.trans ((below_more H9.out HKA.out H9.out.size).mono HB.out.size))
            go_wp2
            go_ret
            exact ⟨rfl, HB9.out⟩
          · have r1 : decide ((64 : Int) < (mw : Int)) = true := by simp; omega
            have r1' : decide (64 < mw) = true := by simp; omega
            clear hfew hm
            go_wp2_with fail
            refine HSW.out.mono ?_
            rintro e wx ⟨rfl, hBx⟩
            have HBX := Lib.hid hBx
            clear hBx
            go_wp2_with fail
            have H9 := Lib.hid (HB.out.trans ((show Below wo.heap.size wo (wx.alloc (.cells #[.int .i64 (ke : Int), .int .i64 (hw : Int), .int .i64 (mw : Int), .int .i64 (dw : Int)] 38)) from HBX.out.alloc HBX.out.size _).mono HB.out.size))
            go_quiet (fail)
            go_wp2
            go_ret
            exact ⟨rfl, below_more H9.out (drewBelowL _ _) H9.out.size⟩
end -- CaZa

end Go.Proofs.Ytlmpagicjgldkaa
