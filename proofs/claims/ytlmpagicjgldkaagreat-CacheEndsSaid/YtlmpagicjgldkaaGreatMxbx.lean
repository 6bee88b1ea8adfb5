/-
  RcH: Layer 6: Turn and Decode of the cache, then of the document's: what both tell, and that both are alike behind it; same; OverBytes.
  RcI: Layer 6: are both caches alike; what lies behind a list is written over.
-/
import Derived.Test.YtlmpagicjgldkaaGreatMxbw
namespace Go.Proofs.YtlmpagicjgldkaaGreat

section -- RcH
open Go.RowKit Go.Maps
set_option linter.unusedVariables false
set_option linter.unusedSimpArgs false
set_option maxRecDepth 100000
set_option maxHeartbeats 4000000

theorem rows_nilC (w : World) : RowsAt w (.slice none 0 0) [] := ⟨none, 0, rfl, fun h => absurd h (by simp)⟩
theorem drewBelow (w : World) (q : Nat) : Below w.heap.size w (w.drewN q) := ⟨rfl, rfl, rfl, Nat.le_refl _, fun _ _ => rfl⟩
theorem heldL_w0 (a : AskI) : ((heldL a).getD 0 (0, [])).2.length ≤ 900000 := by
  by_cases h : 0 < a.ix.length
  · rw [heldL_wide a h]
    have := pickN_lt a.long (m := 6) (by omega)
    omega
  · have : heldL a = [] := by
      apply List.eq_nil_of_length_eq_zero
      rw [heldL_len]
      omega
    rw [this]
    simp
theorem cdec_ask (n : Nat) (k : Int) (a : AskI) : cdecErr n k (heldL a) = askErr n k a.ix := by
  unfold cdecErr
  rw [if_pos (heldL_even a), heldL_idx]
theorem decL_lenC (k : Nat) (ys : List B) (l : List (List B)) (wide : Nat) : (decL k ys l wide).length = k := by
  unfold decL
  rw [List.length_map, turnL_lenC]
theorem decL_wideC (k : Nat) (ys : List B) (l : List (List B)) {wide : Nat} (hw : wide ≤ 900000) : ∀ i, i < (decL k ys l wide).length → ((decL k ys l wide).getD i []).length ≤ 900000 := by
  intro i hi
  have hm : (decL k ys l wide).getD i [] ∈ decL k ys l wide := by
    rw [List.getD_eq_getElem?_getD, List.getElem?_eq_getElem hi]
    exact List.getElem_mem hi
  unfold decL at hm
  obtain ⟨ws, _, e⟩ := List.mem_map.1 hm
  unfold decL
  rw [← e, mixL_len]
  omega

/-- What is told where there is no error. -/
def RR (er : Int) (R : List (List B)) : List (List B) := if er = 0 then R else []
/-- Rows told are few and short. -/
def Few (R : List (List B)) : Prop := R.length ≤ 900000 ∧ ∀ i, i < R.length → (R.getD i []).length ≤ 900000
theorem Few.rr {R : List (List B)} (h : Few R) (er : Int) : Few (RR er R) := by
  unfold RR
  split
  · exact h
  · exact ⟨by simp, fun i hi => absurd hi (by simp)⟩
theorem few_turn (k : Int) (n : Nat) (xs : List Int) (hk : askErr n k xs = 0) (hn : n ≤ 255) : Few (turnL k.toNat (idxB (xs.take k.toNat))) := by
  obtain ⟨K, rfl, h1, h2, ho⟩ := askErr_zero hk
  rw [Int.toNat_natCast]
  have hl : (idxB (xs.take K)).length ≤ K := by rw [idxB_len, List.length_take]; omega
  refine ⟨by rw [turnL_lenC]; omega, fun i hi => ?_⟩
  rw [turnL_lenC] at hi
  unfold turnL
  rw [getD_range _ _ hi, wtsL_len]
  omega
theorem few_dec (k : Int) (n : Nat) (xs : List Int) (hk : askErr n k xs = 0) (hn : n ≤ 255) (ys : List B) (l : List (List B)) {wide : Nat} (hw : wide ≤ 900000) : Few (decL k.toNat ys l wide) := by
  obtain ⟨K, rfl, h1, h2, ho⟩ := askErr_zero hk
  rw [Int.toNat_natCast]
  exact ⟨by rw [decL_lenC]; omega, decL_wideC _ _ _ hw⟩
theorem few_rr {R : List (List B)} {er : Int} (h : er = 0 → Few R) : Few (RR er R) := by
  by_cases h0 : er = 0
  · exact (h h0).rr er
  · unfold RR
    rw [if_neg h0]
    exact ⟨by simp, fun i hi => absurd hi (by simp)⟩

section
variable {w w1 : World} {lo base b bm rb N R M : Nat} {v : Value} {p p' : PS}
theorem Both.told {s : CS} {q : Nat × List Int} {RL : List (List B)} {e : Ending} {k : Int} {xs : List Int} (h : Both w base b bm rb v s.plain) (hq : q = (k.toNat, xs.take k.toNat)) (h0 : askErr s.n k xs = 0) (ht : Told w (CF b bm rb v) b bm s q RL e w1) :
    ∃ pa la ca lo, e = .returned (.tuple #[.slice pa la ca, .int .i64 (askErr s.n k xs)]) ∧ Mid w w1 lo base b bm rb v s.plain (s.plain.step k xs) ∧ RowsLone w1 lo (.slice pa la ca) (RR (askErr s.n k xs) RL) := by
  obtain ⟨s', lo, vv, rfl, hlone, hbs, hbw, hca, hpp, hk⟩ := ht
  obtain ⟨pv, cv, rfl⟩ := hlone.rows.shape
  refine ⟨_, _, _, lo, by rw [h0], ?_, by unfold RR; rw [if_pos h0]; exact hlone⟩
  have hst : s.plain.step k xs = s'.plain := by
    unfold PS.step
    rw [if_pos (show askErr s.plain.n k xs = 0 from h0), hpp, hq]
  rw [hst]
  exact h.mid hca hbs hbw hk
theorem Both.bad {s : CS} {RL : List (List B)} {e : Ending} {k : Int} {xs : List Int} (h : Both w base b bm rb v s.plain) (hc : CacheAt w (CF b bm rb v) b bm s) (h0 : askErr s.n k xs ≠ 0) (he : e = .returned (.tuple #[.slice none 0 0, .int .i64 (askErr s.n k xs)])) (hB : Below w.heap.size w w1) :
    ∃ pa la ca lo, e = .returned (.tuple #[.slice pa la ca, .int .i64 (askErr s.n k xs)]) ∧ Mid w w1 lo base b bm rb v s.plain (s.plain.step k xs) ∧ RowsLone w1 lo (.slice pa la ca) (RR (askErr s.n k xs) RL) := by
  have hst : s.plain.step k xs = s.plain := by
    unfold PS.step
    rw [if_neg (show ¬ askErr s.plain.n k xs = 0 from h0)]
  rw [hst]
  refine ⟨none, 0, 0, w1.heap.size, he, ?_, by unfold RR; rw [if_neg h0]; exact RowsLone.nil _ _⟩
  exact h.mid (s' := s) (fun w2 h2 => hc.below (below_more hB h2 hB.size)) hB.size (Nat.le_refl _) ((Kept.below hB).mono (fun _ _ h => h.elim))
end
theorem ct_any (w : World) {base b bm rb N R M : Nat} {v : Value} {p : PS} (h : Both w base b bm rb v p) (hi : PInv N R M p) (hM : M < 1000000000) (k : Int) (vx : Value) (xs : List Int) (hv : IntsAt w vx xs) (hl : xs.length ≤ 1000) :
    Calls Tryz.prog 11 #[.pointer (some ⟨b, 0, none⟩), .int .i64 k, vx] w fun e w1 => ∃ pa la ca lo, e = .returned (.tuple #[.slice pa la ca, .int .i64 (askErr N k xs)]) ∧ Mid w w1 lo base b bm rb v p (p.step k xs) ∧ RowsLone w1 lo (.slice pa la ca) (RR (askErr N k xs) (turnL k.toNat (idxB (xs.take k.toNat)))) := by
  obtain ⟨s, hc, hp⟩ := h.c
  subst hp
  have hn : s.n = N := hi.n
  obtain ⟨s1, s2, s3, s4⟩ := hi.small hM
  subst hn
  by_cases h0 : askErr s.n k xs = 0
  · obtain ⟨K, e, h1, h2, ho⟩ := askErr_zero h0
    have hK : k.toNat = K := by omega
    rw [hK]
    refine (show Calls Tryz.prog _ #[.pointer (some ⟨b, 0, none⟩), .int .i64 k, vx] w _ from e ▸ turn_c_any w hc h.flt K vx xs hv (by omega) h1 h2 ho s1 s2 s3 s4).mono ?_
    exact fun e w1 ht => h.told (by rw [hK]) h0 ht
  · refine (turn_c_bad w hc k vx xs hv (by omega) h0).mono ?_
    exact fun e w1 ht => h.bad hc h0 ht.1 ht.2
theorem cd_any (w : World) {base b bm rb N R M : Nat} {v : Value} {p : PS} (h : Both w base b bm rb v p) (hi : PInv N R M p) (hM : M < 1000000000) (k : Int) (vx : Value) (a : AskI) (hv : HeldFar (CF b bm rb v) w vx (heldL a)) (hl : a.ix.length ≤ 1000) :
    Calls Tryz.prog 15 #[.pointer (some ⟨b, 0, none⟩), .int .i64 k, vx] w fun e w1 => ∃ pa la ca lo, e = .returned (.tuple #[.slice pa la ca, .int .i64 (askErr N k a.ix)]) ∧ Mid w w1 lo base b bm rb v p (p.step k a.ix) ∧ RowsLone w1 lo (.slice pa la ca) (RR (askErr N k a.ix) (decL k.toNat (idxB (a.ix.take k.toNat)) (hRow (heldL a)) ((heldL a).getD 0 (0, [])).2.length)) := by
  obtain ⟨s, hc, hp⟩ := h.c
  subst hp
  have hn : s.n = N := hi.n
  obtain ⟨s1, s2, s3, s4⟩ := hi.small hM
  subst hn
  refine (dec_c w hc h.flt k vx (heldL a) _ hv (by rw [heldL_len]; omega) rfl (Nat.le_trans (heldL_w0 a) (by omega)) s1 s2 s3 s4).mono ?_
  unfold DecC
  rw [cdec_ask, heldL_idx]
  rintro e w' (⟨h0, h2, h3⟩ | ⟨h0, h2⟩)
  · exact h.bad hc h0 h2 h3
  · exact h.told rfl h0 h2

/-- What the reference's Turn, Decode leave behind the cache's. -/
def After (w1 w2 : World) (lo base b bm rb : Nat) (v v' : Value) (p' : PS) : Prop :=
  (∀ (S : Nat → Prop) w3, Kept S w2 w3 → (∀ i, S i → lo ≤ i ∧ i < w1.heap.size) → Both w3 base b bm rb v' p') ∧ Kept (RK rb v) w1 w2
theorem Mid.after {w w1 w2 : World} {lo base b bm rb : Nat} {v : Value} {p p' : PS} {er : Int} {RL : List (List B)} {e : Ending} (h : Mid w w1 lo base b bm rb v p p') (ht : RTold w1 base (fun i => CG b bm rb i ∧ ¬ (lo ≤ i ∧ i < w1.heap.size)) rb v p' er RL e w2) :
    ∃ pr lr cr v', e = .returned (.tuple #[.slice pr lr cr, .int .i64 er]) ∧ RowsAt w2 (.slice pr lr cr) (RR er RL) ∧ After w1 w2 lo base b bm rb v v' p' := by
  obtain ⟨vr, v', rfl, h0, h1, hr, hk, hv⟩ := ht
  have hrow : RowsAt w2 vr (RR er RL) := by
    unfold RR
    by_cases e0 : er = 0
    · rw [if_pos e0]
      exact (h0 e0).rows
    · rw [if_neg e0, h1 e0]
      exact rows_nilC w2
  obtain ⟨pv, cv, rfl⟩ := hrow.shape
  exact ⟨_, _, _, v', rfl, hrow, fun S w3 hk3 hS => h.both hr hk hv hk3 hS, hk⟩
theorem Mid.fresh {w w1 : World} {lo base b bm rb : Nat} {v : Value} {p p' : PS} (h : Mid w w1 lo base b bm rb v p p') : ∀ i, w1.heap.size ≤ i → CG b bm rb i ∧ ¬ (lo ≤ i ∧ i < w1.heap.size) := fun i hi => by
  have h1 := h.fl b (.inl rfl)
  have h2 := h.fl bm (.inr (.inl rfl))
  have h3 := h.fl rb (.inr (.inr (.inl rfl)))
  have h4 := h.l1
  have h5 := h.l2
  exact ⟨⟨by omega, by omega, by omega⟩, by omega⟩
theorem rt_any {w w1 : World} {lo base b bm rb N R M : Nat} {v : Value} {p : PS} {k : Int} {xs : List Int} (h : Mid w w1 lo base b bm rb v p (p.step k xs)) (hi : PInv N R M p) (hN : N ≤ 255) (hR : 1 ≤ R) (hR2 : R ≤ 64) (hM : M < 1000000000) (vx : Value) (hv : IntsAt w1 vx xs) (hl : xs.length ≤ 1000) :
    Calls Tryz.prog 12 #[.pointer (some ⟨rb, 0, none⟩), .int .i64 k, vx] w1 fun e w2 => ∃ pr lr cr v', e = .returned (.tuple #[.slice pr lr cr, .int .i64 (askErr N k xs)]) ∧ RowsAt w2 (.slice pr lr cr) (RR (askErr N k xs) (turnL k.toNat (idxB (xs.take k.toNat)))) ∧ After w1 w2 lo base b bm rb v v' (p.step k xs) :=
  (rcturn_any w1 h.r h.fresh (by have := h.bs; have := h.l1; have := h.l2; omega) hi hN hR hR2 hM k vx xs hv hl).mono fun e w2 ht => h.after ht
theorem rd_any {w w1 : World} {lo base b bm rb N R M : Nat} {v : Value} {p : PS} {k : Int} {a : AskI} (h : Mid w w1 lo base b bm rb v p (p.step k a.ix)) (hi : PInv N R M p) (hN : N ≤ 255) (hR : 1 ≤ R) (hR2 : R ≤ 64) (hM : M < 1000000000) (w1' : World) (hb : Below w1.heap.size w1 w1') (vx : Value) (hv : HeldAt w1' vx (heldL a)) (hl : a.ix.length ≤ 1000) :
    Calls Tryz.prog 17 #[.pointer (some ⟨rb, 0, none⟩), .int .i64 k, vx] w1' fun e w2 => ∃ pr lr cr v', e = .returned (.tuple #[.slice pr lr cr, .int .i64 (askErr N k a.ix)]) ∧ RowsAt w2 (.slice pr lr cr) (RR (askErr N k a.ix) (decL k.toNat (idxB (a.ix.take k.toNat)) (hRow (heldL a)) ((heldL a).getD 0 (0, [])).2.length)) ∧ After w1 w2 lo base b bm rb v v' (p.step k a.ix) := by
  have hsz := hb.size
  refine (rcdecode_any w1' (h.r.below hb) (fun i hi => h.fresh i (by omega)) (by have := h.bs; have := h.l1; have := h.l2; omega) hi hN hR hR2 hM k vx (heldL a) _ hv (by rw [heldL_len]; omega) rfl (Nat.le_trans (heldL_w0 a) (by omega)) (heldL_even a) a.ix (heldL_idx a)).mono fun e w2 ht => h.after ?_
  obtain ⟨vr, v', h1, h2, h3, h4, h5, h6⟩ := ht
  refine ⟨vr, v', h1, fun e => (h2 e).weaken hsz, h3, h4, ((Kept.below hb).mono (fun _ _ h => h.elim)).trans h5 (fun _ _ h => h), fun b e => ?_⟩
  rcases h6 b e with h | h
  · exact .inl h
  · exact .inr (by omega)
end -- RcH

section -- RcI
open Go.RowKit Go.Maps
set_option linter.unusedVariables false
set_option linter.unusedSimpArgs false
set_option maxRecDepth 100000
set_option maxHeartbeats 4000000

theorem same_any (w : World) {base b bm rb : Nat} {v : Value} {p : PS} (h : Both w base b bm rb v p) :
    Calls Tryz.prog 21 #[.pointer (some ⟨b, 0, none⟩), .pointer (some ⟨rb, 0, none⟩)] w fun e w' => e = .returned (.bool true) ∧ Below w.heap.size w w' := by
  obtain ⟨s, hc, hp⟩ := h.c
  have HR := Lib.hid h.r
  obtain ⟨pv, n, cv, rfl⟩ : ∃ pv n cv, v = .slice pv n cv := by
    obtain ⟨us, ho, _⟩ := h.r.keys
    rcases ho.2 with ⟨rfl, hz⟩ | ⟨g, cap, cur, rfl, _⟩
    · exact ⟨none, 0, 0, rfl⟩
    · exact ⟨_, _, cap, rfl⟩
  have hn : s.es.length = n := by
    obtain ⟨us, ho, _⟩ := h.r.keys
    have e : p.keys.length = s.es.length := by rw [← hp]; simp [CS.plain]
    rcases ho.2 with ⟨e1, hz⟩ | ⟨g, cap, cur, e1, _⟩
    · have := (Value.slice.inj e1).2.1
      omega
    · have := (Value.slice.inj e1).2.1
      omega
  have HST := Lib.hid (stat_any w.drew (hc.below (show Below w.heap.size w w.drew from drewBelow w 1)))
  obtain ⟨ht, hht⟩ : ∃ q, s.hits = q := ⟨_, rfl⟩
  obtain ⟨ms, hms⟩ : ∃ q, s.misses = q := ⟨_, rfl⟩
  obtain ⟨dr, hdr⟩ : ∃ q, s.dropped = q := ⟨_, rfl⟩
  rw [hn, hht, hms, hdr] at HST
  have HP1 := Lib.hid (show p.hits = ht by rw [← hp, ← hht]; rfl)
  have HP2 := Lib.hid (show p.misses = ms by rw [← hp, ← hms]; rfl)
  have HP3 := Lib.hid (show p.dropped = dr by rw [← hp, ← hdr]; rfl)
  clear hc hp hn hht hms hdr h
  have HS := Lib.hid (show Below w.heap.size w w.drew from drewBelow w 1)
  go_enter Tryz.func21, Tryz.ntmps21
  go_wp2_with fail
  refine s_start 22 (fun w' => Below w.heap.size w w') (by as_aux_lemma => kernel_rfl) (by as_aux_lemma => kernel_rfl) HS.out ?_
  refine s_take 0 (by as_aux_lemma => kernel_rfl) (by as_aux_lemma => kernel_rfl) (by as_aux_lemma => kernel_rfl) (by as_aux_lemma => kernel_rfl) HS.out (fun oi ho => ?_)
  simp only [List.getElem?_toArray, List.getElem?_cons_succ, List.getElem?_cons_zero, Option.some.injEq] at ho
  subst ho
  refine ⟨?_, Or.inl ⟨by rfl, fun w _ => ?_⟩, ?_⟩
  rotate_left
  · (go_simp <;> with_reducible rfl)
  try simp only [Act.put, List.setIfInBounds_toArray, List.set_cons_zero, List.set_cons_succ]
  refine s_take 2 (by as_aux_lemma => kernel_rfl) (by as_aux_lemma => kernel_rfl) (by as_aux_lemma => kernel_rfl) (by as_aux_lemma => kernel_rfl) HS.out (fun oi ho => ?_)
  simp only [List.getElem?_toArray, List.getElem?_cons_succ, List.getElem?_cons_zero, Option.some.injEq] at ho
  subst ho
  refine ⟨?_, Or.inl ⟨by rfl, fun w _ => ?_⟩, ?_⟩
  rotate_left
  · (go_simp <;> with_reducible rfl)
  try simp only [Act.put, List.setIfInBounds_toArray, List.set_cons_zero, List.set_cons_succ]
  refine s_take 3 (by as_aux_lemma => kernel_rfl) (by as_aux_lemma => kernel_rfl) (by as_aux_lemma => kernel_rfl) (by as_aux_lemma => kernel_rfl) HS.out (fun oi ho => ?_)
  simp only [List.getElem?_toArray, List.getElem?_cons_succ, List.getElem?_cons_zero, Option.some.injEq] at ho
  subst ho
  refine ⟨?_, Or.inl ⟨by rfl, fun w _ => ?_⟩, ?_⟩
  rotate_left
  · (go_simp <;> with_reducible rfl)
  try simp only [Act.put, List.setIfInBounds_toArray, List.set_cons_zero, List.set_cons_succ]
  refine s_take 4 (by as_aux_lemma => kernel_rfl) (by as_aux_lemma => kernel_rfl) (by as_aux_lemma => kernel_rfl) (by as_aux_lemma => kernel_rfl) HS.out (fun oi ho => ?_)
  simp only [List.getElem?_toArray, List.getElem?_cons_succ, List.getElem?_cons_zero, Option.some.injEq] at ho
  subst ho
  refine ⟨?_, Or.inl ⟨by rfl, fun w _ => ?_⟩, ?_⟩
  rotate_left
  · (go_simp <;> with_reducible rfl)
  try simp only [Act.put, List.setIfInBounds_toArray, List.set_cons_zero, List.set_cons_succ]
  refine s_take 5 (by as_aux_lemma => kernel_rfl) (by as_aux_lemma => kernel_rfl) (by as_aux_lemma => kernel_rfl) (by as_aux_lemma => kernel_rfl) HS.out (fun oi ho => ?_)
  simp only [List.getElem?_toArray, List.getElem?_cons_succ, List.getElem?_cons_zero, Option.some.injEq] at ho
  subst ho
  refine ⟨.slice pv n cv, Or.inl ⟨by rfl, fun w' hS' => ?_⟩, ?_⟩
  · have q0 := (HR.out.below hS').c2
    (go_simp <;> with_reducible rfl)
  try simp only [Act.put, List.setIfInBounds_toArray, List.set_cons_zero, List.set_cons_succ]
  refine s_take 6 (by as_aux_lemma => kernel_rfl) (by as_aux_lemma => kernel_rfl) (by as_aux_lemma => kernel_rfl) (by as_aux_lemma => kernel_rfl) HS.out (fun oi ho => ?_)
  simp only [List.getElem?_toArray, List.getElem?_cons_succ, List.getElem?_cons_zero, Option.some.injEq] at ho
  subst ho
  refine ⟨?_, Or.inl ⟨by rfl, fun w _ => ?_⟩, ?_⟩
  rotate_left
  · (go_simp <;> with_reducible rfl)
  try simp only [Act.put, List.setIfInBounds_toArray, List.set_cons_zero, List.set_cons_succ]
  refine s_take 7 (by as_aux_lemma => kernel_rfl) (by as_aux_lemma => kernel_rfl) (by as_aux_lemma => kernel_rfl) (by as_aux_lemma => kernel_rfl) HS.out (fun oi ho => ?_)
  simp only [List.getElem?_toArray, List.getElem?_cons_succ, List.getElem?_cons_zero, Option.some.injEq] at ho
  subst ho
  refine ⟨?_, Or.inl ⟨by rfl, fun w _ => ?_⟩, ?_⟩
  rotate_left
  · (go_simp <;> with_reducible rfl)
  try simp only [Act.put, List.setIfInBounds_toArray, List.set_cons_zero, List.set_cons_succ]
  refine s_take 8 (by as_aux_lemma => kernel_rfl) (by as_aux_lemma => kernel_rfl) (by as_aux_lemma => kernel_rfl) (by as_aux_lemma => kernel_rfl) HS.out (fun oi ho => ?_)
  simp only [List.getElem?_toArray, List.getElem?_cons_succ, List.getElem?_cons_zero, Option.some.injEq] at ho
  subst ho
  refine ⟨?_, Or.inl ⟨by rfl, fun w _ => ?_⟩, ?_⟩
  rotate_left
  · (go_simp <;> with_reducible rfl)
  try simp only [Act.put, List.setIfInBounds_toArray, List.set_cons_zero, List.set_cons_succ]
  refine s_take 9 (by as_aux_lemma => kernel_rfl) (by as_aux_lemma => kernel_rfl) (by as_aux_lemma => kernel_rfl) (by as_aux_lemma => kernel_rfl) HS.out (fun oi ho => ?_)
  simp only [List.getElem?_toArray, List.getElem?_cons_succ, List.getElem?_cons_zero, Option.some.injEq] at ho
  subst ho
  refine ⟨?_, Or.inl ⟨by rfl, fun w _ => ?_⟩, ?_⟩
  rotate_left
  · (go_simp <;> with_reducible rfl)
  try simp only [Act.put, List.setIfInBounds_toArray, List.set_cons_zero, List.set_cons_succ]
  refine s_take 10 (by as_aux_lemma => kernel_rfl) (by as_aux_lemma => kernel_rfl) (by as_aux_lemma => kernel_rfl) (by as_aux_lemma => kernel_rfl) HS.out (fun oi ho => ?_)
  simp only [List.getElem?_toArray, List.getElem?_cons_succ, List.getElem?_cons_zero, Option.some.injEq] at ho
  subst ho
  refine ⟨.int .i64 (ht : Int), Or.inl ⟨by rfl, fun w' hS' => ?_⟩, ?_⟩
  · have q0 := (HR.out.below hS').c3
    rw [HP1.out] at q0
    (go_simp <;> with_reducible rfl)
  try simp only [Act.put, List.setIfInBounds_toArray, List.set_cons_zero, List.set_cons_succ]
  refine s_take 11 (by as_aux_lemma => kernel_rfl) (by as_aux_lemma => kernel_rfl) (by as_aux_lemma => kernel_rfl) (by as_aux_lemma => kernel_rfl) HS.out (fun oi ho => ?_)
  simp only [List.getElem?_toArray, List.getElem?_cons_succ, List.getElem?_cons_zero, Option.some.injEq] at ho
  subst ho
  refine ⟨?_, Or.inl ⟨by rfl, fun w _ => ?_⟩, ?_⟩
  rotate_left
  · (go_simp <;> with_reducible rfl)
  try simp only [Act.put, List.setIfInBounds_toArray, List.set_cons_zero, List.set_cons_succ]
  refine s_take 12 (by as_aux_lemma => kernel_rfl) (by as_aux_lemma => kernel_rfl) (by as_aux_lemma => kernel_rfl) (by as_aux_lemma => kernel_rfl) HS.out (fun oi ho => ?_)
  simp only [List.getElem?_toArray, List.getElem?_cons_succ, List.getElem?_cons_zero, Option.some.injEq] at ho
  subst ho
  refine ⟨?_, Or.inl ⟨by rfl, fun w _ => ?_⟩, ?_⟩
  rotate_left
  · (go_simp <;> with_reducible rfl)
  try simp only [Act.put, List.setIfInBounds_toArray, List.set_cons_zero, List.set_cons_succ]
  refine s_take 13 (by as_aux_lemma => kernel_rfl) (by as_aux_lemma => kernel_rfl) (by as_aux_lemma => kernel_rfl) (by as_aux_lemma => kernel_rfl) HS.out (fun oi ho => ?_)
  simp only [List.getElem?_toArray, List.getElem?_cons_succ, List.getElem?_cons_zero, Option.some.injEq] at ho
  subst ho
  refine ⟨?_, Or.inl ⟨by rfl, fun w _ => ?_⟩, ?_⟩
  rotate_left
  · (go_simp <;> with_reducible rfl)
  try simp only [Act.put, List.setIfInBounds_toArray, List.set_cons_zero, List.set_cons_succ]
  refine s_take 14 (by as_aux_lemma => kernel_rfl) (by as_aux_lemma => kernel_rfl) (by as_aux_lemma => kernel_rfl) (by as_aux_lemma => kernel_rfl) HS.out (fun oi ho => ?_)
  simp only [List.getElem?_toArray, List.getElem?_cons_succ, List.getElem?_cons_zero, Option.some.injEq] at ho
  subst ho
  refine ⟨.int .i64 (ms : Int), Or.inl ⟨by rfl, fun w' hS' => ?_⟩, ?_⟩
  · have q0 := (HR.out.below hS').c4
    rw [HP2.out] at q0
    (go_simp <;> with_reducible rfl)
  try simp only [Act.put, List.setIfInBounds_toArray, List.set_cons_zero, List.set_cons_succ]
  refine s_take 15 (by as_aux_lemma => kernel_rfl) (by as_aux_lemma => kernel_rfl) (by as_aux_lemma => kernel_rfl) (by as_aux_lemma => kernel_rfl) HS.out (fun oi ho => ?_)
  simp only [List.getElem?_toArray, List.getElem?_cons_succ, List.getElem?_cons_zero, Option.some.injEq] at ho
  subst ho
  refine ⟨?_, Or.inl ⟨by rfl, fun w _ => ?_⟩, ?_⟩
  rotate_left
  · (go_simp <;> with_reducible rfl)
  try simp only [Act.put, List.setIfInBounds_toArray, List.set_cons_zero, List.set_cons_succ]
  refine s_take 16 (by as_aux_lemma => kernel_rfl) (by as_aux_lemma => kernel_rfl) (by as_aux_lemma => kernel_rfl) (by as_aux_lemma => kernel_rfl) HS.out (fun oi ho => ?_)
  simp only [List.getElem?_toArray, List.getElem?_cons_succ, List.getElem?_cons_zero, Option.some.injEq] at ho
  subst ho
  refine ⟨?_, Or.inl ⟨by rfl, fun w _ => ?_⟩, ?_⟩
  rotate_left
  · (go_simp <;> with_reducible rfl)
  try simp only [Act.put, List.setIfInBounds_toArray, List.set_cons_zero, List.set_cons_succ]
  refine s_take 17 (by as_aux_lemma => kernel_rfl) (by as_aux_lemma => kernel_rfl) (by as_aux_lemma => kernel_rfl) (by as_aux_lemma => kernel_rfl) HS.out (fun oi ho => ?_)
  simp only [List.getElem?_toArray, List.getElem?_cons_succ, List.getElem?_cons_zero, Option.some.injEq] at ho
  subst ho
  refine ⟨?_, Or.inl ⟨by rfl, fun w _ => ?_⟩, ?_⟩
  rotate_left
  · (go_simp <;> with_reducible rfl)
  try simp only [Act.put, List.setIfInBounds_toArray, List.set_cons_zero, List.set_cons_succ]
  refine s_take 18 (by as_aux_lemma => kernel_rfl) (by as_aux_lemma => kernel_rfl) (by as_aux_lemma => kernel_rfl) (by as_aux_lemma => kernel_rfl) HS.out (fun oi ho => ?_)
  simp only [List.getElem?_toArray, List.getElem?_cons_succ, List.getElem?_cons_zero, Option.some.injEq] at ho
  subst ho
  refine ⟨.int .i64 (dr : Int), Or.inl ⟨by rfl, fun w' hS' => ?_⟩, ?_⟩
  · have q0 := (HR.out.below hS').c5
    rw [HP3.out] at q0
    (go_simp <;> with_reducible rfl)
  try simp only [Act.put, List.setIfInBounds_toArray, List.set_cons_zero, List.set_cons_succ]
  refine s_take 19 (by as_aux_lemma => kernel_rfl) (by as_aux_lemma => kernel_rfl) (by as_aux_lemma => kernel_rfl) (by as_aux_lemma => kernel_rfl) HS.out (fun oi ho => ?_)
  simp only [List.getElem?_toArray, List.getElem?_cons_succ, List.getElem?_cons_zero, Option.some.injEq] at ho
  subst ho
  refine ⟨?_, Or.inl ⟨by rfl, fun w _ => ?_⟩, ?_⟩
  rotate_left
  · (go_simp <;> with_reducible rfl)
  try simp only [Act.put, List.setIfInBounds_toArray, List.set_cons_zero, List.set_cons_succ]
  refine s_all (rs := [1]) (by as_aux_lemma => kernel_rfl) (by simp) ?_
  refine s_step 1 (by as_aux_lemma => kernel_rfl) (fun o ho K hK => ?_) AllReadyH.nil
  simp only [List.getElem?_toArray, List.getElem?_cons_succ, List.getElem?_cons_zero, Option.some.injEq] at ho
  subst ho
  go_simp
  refine (HST.out).mono ?_
  rintro e w1 ⟨rfl, hb⟩
  have HB1 := Lib.hid (show Below w.heap.size w w1 from ⟨hb.os, hb.tape, hb.output, hb.size, hb.block⟩)
  clear hb
  go_wp2_with fail
  refine hK.out _ _ HB1.out ?_
  clear hK K
  try simp only [Act.put, List.setIfInBounds_toArray, List.set_cons_zero, List.set_cons_succ]
  refine s_take 20 (by as_aux_lemma => kernel_rfl) (by as_aux_lemma => kernel_rfl) (by as_aux_lemma => kernel_rfl) (by as_aux_lemma => kernel_rfl) HB1.out (fun oi ho => ?_)
  simp only [List.getElem?_toArray, List.getElem?_cons_succ, List.getElem?_cons_zero, Option.some.injEq] at ho
  subst ho
  refine ⟨?_, Or.inl ⟨by rfl, fun w _ => ?_⟩, ?_⟩
  rotate_left
  · (go_simp <;> with_reducible rfl)
  try simp only [Act.put, List.setIfInBounds_toArray, List.set_cons_zero, List.set_cons_succ]
  refine s_take 21 (by as_aux_lemma => kernel_rfl) (by as_aux_lemma => kernel_rfl) (by as_aux_lemma => kernel_rfl) (by as_aux_lemma => kernel_rfl) HB1.out (fun oi ho => ?_)
  simp only [List.getElem?_toArray, List.getElem?_cons_succ, List.getElem?_cons_zero, Option.some.injEq] at ho
  subst ho
  refine ⟨?_, Or.inl ⟨by rfl, fun w _ => ?_⟩, ?_⟩
  rotate_left
  · (go_simp <;> with_reducible rfl)
  try simp only [Act.put, List.setIfInBounds_toArray, List.set_cons_zero, List.set_cons_succ]
  refine s_done (by as_aux_lemma => kernel_rfl) ?_
  go_wp2
  go_ret
  exact ⟨rfl, HB1.out⟩

/-- A list's cells, as far as they go, lie in a block of their own. -/
theorem overB_any (w : World) {lo : Nat} (u : Value) (l : List B) (hO : Own w lo u l) (hl : l.length ≤ 900000) :
    Calls Tryz.prog 14 #[u] w fun e w' => e = .returned (.tuple #[]) ∧ Kept (fun i => u.ownBlock = some i) w w' := by
  obtain ⟨n, hn⟩ : ∃ n, l.length = n := ⟨_, rfl⟩
  have hO2 := hO.2
  rw [hn] at hO2 hl
  clear hO hn
  rcases hO2 with ⟨rfl, hz⟩ | ⟨g, cap, cur, rfl, h2, h3, h4, h5, h6, _⟩
  · clear hl
    go_enter Tryz.func14, Tryz.ntmps14
    go_wp2
    go_loopw [3] (fun i wr => i = .int .i64 0 ∧ wr = w) (fun _ _ => 0)
    case atStart => exact ⟨rfl, rfl⟩
    case round =>
      obtain ⟨rfl, rfl⟩ := hrel
      go_wp2
      go_end0
      exact ⟨rfl, Kept.refl _ _⟩
  · rw [Nat.mul_one] at h6
    have h5' : cap ≤ 9223372036854775807 := by unfold maxLen at h5; omega
    have HW := Lib.hid (show ∃ C, w.heap[g]? = some (.cells C 5 (0, 0)) ∧ C.size = cap from ⟨cur, h3, h6⟩)
    clear h2 h3 h6 h5
    obtain ⟨m, hm, HMC, hm2, hcs⟩ : ∃ m : Nat, (if (n : Int) + 12 < (cap : Int) then (n : Int) + 12 else (cap : Int)) = (m : Int) ∧ m ≤ cap ∧ m ≤ 900012 ∧ ((n + 12 < cap ∧ m = n + 12) ∨ (¬ n + 12 < cap ∧ m = cap)) := by
      by_cases h : n + 12 < cap
      · exact ⟨n + 12, by rw [if_pos (by omega)]; omega, by omega, by omega, .inl ⟨h, rfl⟩⟩
      · exact ⟨cap, by rw [if_neg (by omega)], Nat.le_refl _, by omega, .inr ⟨h, rfl⟩⟩
    have hmi : (m : Int) ≤ (cap : Int) := by omega
    clear hcs
    go_enter Tryz.func14, Tryz.ntmps14
    go_wp2
    go_loopw [3] (fun i wr => ∃ t : Nat, t ≤ m ∧ i = .int .i64 (t : Int) ∧ (∃ C, wr.heap[g]? = some (.cells C 5 (0, 0)) ∧ C.size = cap) ∧ Kept (fun i => i = g) w wr) (fun i _ => m - (intOf i).toNat)
    case atStart => exact ⟨0, Nat.zero_le _, rfl, HW.out, Kept.refl _ _⟩
    case round =>
      obtain ⟨t, ht, rfl, ⟨C, hC, hCs⟩, hk⟩ := hrel
      have HK := Lib.hid hk
      by_cases hlt : t < m
      · have d1 : wr.cell? ⟨g, t, none⟩ = some (C[t]'(by omega)) := by rw [cell_of hC, Array.getElem?_eq_getElem]
        have d2 : wr.frozen? ⟨g, t, none⟩ = false := fz_of hC t
        generalize C[t]'(by omega) = old at d1
        have HC := Lib.hid (show ∀ u, ∃ C', (wr.setCell ⟨g, t, none⟩ u).heap[g]? = some (.cells C' 5 (0, 0)) ∧ C'.size = cap from fun u => ⟨_, heap_set hC u, by simp [hCs]⟩)
        have HMB := Lib.hid (fun W => markByte_any W 2 t (by omega) (by omega))
        obtain ⟨y, hy⟩ : ∃ y, mkB 2 t = y := ⟨_, rfl⟩
        rw [hy] at HMB
        clear hC hCs hk hy
        go_wp2_with fail
        refine (HMB.out _).mono ?_
        rintro e w' ⟨rfl, rfl⟩
        go_wp2
        go_roundw
        case rel => exact ⟨t + 1, by omega, by go_num, HC.out _, HK.out.setCell' (p := ⟨g, t, none⟩) rfl _⟩
        case measure => simp [intOf]; omega
      · obtain rfl : t = m := by omega
        go_wp2
        go_end0
        exact ⟨rfl, HK.out.mono (fun i _ e => by subst e; rfl)⟩
/-- The rows told, as far as they are written over. -/
def RowsDone (us : List Value) (m i : Nat) : Prop := ∃ (j : Nat) (u : Value), j < m ∧ us[j]? = some u ∧ u.ownBlock = some i
/-- Rows told, apart from one another, all below hi. -/
def LoneU (w : World) (lo hi : Nat) (v : Value) (ls : List (List B)) (us : List Value) : Prop := w.ownsRow lo 43 1 v ls.length us ∧
  (∀ i u, us[i]? = some u → Own w lo u (ls.getD i []) ∧ ∀ b, u.ownBlock = some b → v.ownBlock ≠ some b ∧ lo ≤ b ∧ b < hi) ∧
  ∀ (i j : Nat) (u z : Value) (b : Nat), us[i]? = some u → us[j]? = some z → u.ownBlock = some b → z.ownBlock = some b → i = j
theorem RowsLone.us {w : World} {lo : Nat} {v : Value} {ls : List (List B)} (h : RowsLone w lo v ls) : ∃ us, LoneU w lo w.heap.size v ls us := by
  obtain ⟨us, h1, h2, h3⟩ := h
  exact ⟨us, h1, fun i u hi => ⟨(h2 i u hi).1, fun b e => ⟨(h2 i u hi).2 b e, (h2 i u hi).1.blk b e⟩⟩, h3⟩
section
variable {w w' : World} {lo hi : Nat} {v : Value} {ls : List (List B)} {us : List Value}
theorem LoneU.kept {S : Nat → Prop} (h : LoneU w lo hi v ls us) (hk : Kept S w w') (hS : ∀ i, S i → i < lo) : LoneU w' lo hi v ls us := by
  obtain ⟨h1, h2, h3⟩ := h
  refine ⟨ownsRow_keptS h1 hk (fun b hb hs => by have := (World.ownsRow.lt h1 b hb).1; have := hS b hs; omega), fun i u hi => ⟨(h2 i u hi).1.kept hk (fun b hb hs => by have := ((h2 i u hi).2 b hb).2; have := hS b hs; omega), (h2 i u hi).2⟩, h3⟩
theorem LoneU.below (h : LoneU w lo hi v ls us) (hb : Below w.heap.size w w') : LoneU w' lo hi v ls us := h.kept (Kept.below hb) (fun _ h => h.elim)
theorem LoneU.rows (h : LoneU w lo hi v ls us) : RowsAt w v ls := RowsAt.of_owns h.1 (fun i u hi => (h.2.1 i u hi).1.bytes)
/-- The next row, behind some that were written over. -/
theorem LoneU.next {wr : World} {m : Nat} (h : LoneU w lo hi v ls us) (hk : Kept (RowsDone us m) w wr) (hm : m < ls.length) : ∃ g c u, v = .slice (some ⟨g, 0, none⟩) ls.length c ∧ wr.cell? ⟨g, m, none⟩ = some u ∧ us[m]? = some u ∧ Own wr lo u (ls.getD m []) := by
  obtain ⟨h1, h2, h3⟩ := h
  have h4 := ownsRow_keptS h1 hk (fun b hb ⟨j, u, hj, hu, he⟩ => ((h2 j u hu).2 b he).1 hb)
  obtain ⟨g, c, e, _, _, _, hc⟩ := own_cells h4 (by omega)
  have hl := h1.1
  have hu : us[m]? = some (us[m]'(by omega)) := List.getElem?_eq_getElem (by omega)
  refine ⟨g, c, _, e, (hc m hm).trans hu, hu, (h2 m _ hu).1.kept hk (fun b hb ⟨j, z, hj, hz, he⟩ => ?_)⟩
  have := h3 m j _ z b hu hz hb he
  omega
theorem LoneU.done (h : LoneU w lo hi v ls us) (m i : Nat) (hd : RowsDone us m i) : lo ≤ i ∧ i < hi := by
  obtain ⟨j, u, _, hu, he⟩ := hd
  exact ((h.2.1 j u hu).2 i he).2
theorem RowsDone.step {wr wr' : World} {m : Nat} {u : Value} (hk : Kept (RowsDone us m) w wr) (hu : us[m]? = some u) (hk2 : Kept (fun i => u.ownBlock = some i) wr wr') : Kept (RowsDone us (m + 1)) w wr' :=
  (hk.mono (fun i _ ⟨j, z, hj, hz, he⟩ => ⟨j, z, by omega, hz, he⟩)).trans hk2 (fun i _ e => ⟨m, u, by omega, hu, e⟩)
end
theorem PInv.stepE {N R M : Nat} {p : PS} (h : PInv N R M p) (hR : 1 ≤ R) (k : Int) (xs : List Int) : ∃ M', M' ≤ M + 1 ∧ PInv N R M' (p.step k xs) := by
  unfold PS.step
  split
  · exact ⟨M + 1, Nat.le_refl _, h.ask hR _⟩
  · exact ⟨M, by omega, h⟩
end -- RcI

end Go.Proofs.YtlmpagicjgldkaaGreat
