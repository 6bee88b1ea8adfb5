/-
  Layer 6: are both caches alike; what lies behind a list is written over.
-/
import Derived.Test.YtlmpagicjgldkaaGreatMxby
namespace Go.Proofs.YtlmpagicjgldkaaGreat
open Go.RowKit Go.Maps
set_option linter.unusedVariables false
set_option linter.unusedSimpArgs false
set_option maxRecDepth 100000
set_option maxHeartbeats 4000000

theorem same_any (w : World) {base b bm rb : Nat} {v : Value} {p : PS} (h : Both w base b bm rb v p) :
    Calls Tryz.prog 21 #[.pointer (some ⟨b, 0, none⟩), .pointer (some ⟨rb, 0, none⟩)] w fun e w' => e = .returned (.bool true) ∧ Below w.heap.size w w' := by
  obtain ⟨s, hc, hp⟩ := h.c
  have HR := Lib.hid h.r
  obtain ⟨pv, n, cv, rfl⟩ : ∃ pv n cv, v = .slice pv n cv := by
    obtain ⟨us, ho, _⟩ := h.r.keys
    rcases ho.2 with ⟨rfl, hz⟩ | ⟨g, cap, cur, rfl, _⟩
    · exact ⟨none, 0, 0, rfl⟩
    · exact ⟨_, _, cap, rfl⟩
  have hn : s.es.length = n := by
    obtain ⟨us, ho, _⟩ := h.r.keys
    have e : p.keys.length = s.es.length := by rw [← hp]; simp [CS.plain]
    rcases ho.2 with ⟨e1, hz⟩ | ⟨g, cap, cur, e1, _⟩
    · have := (Value.slice.inj e1).2.1
      omega
    · have := (Value.slice.inj e1).2.1
      omega
  have HST := Lib.hid (stat_any w.drew (hc.below (show Below w.heap.size w w.drew from drewBelow w 1)))
  obtain ⟨ht, hht⟩ : ∃ q, s.hits = q := ⟨_, rfl⟩
  obtain ⟨ms, hms⟩ : ∃ q, s.misses = q := ⟨_, rfl⟩
  obtain ⟨dr, hdr⟩ : ∃ q, s.dropped = q := ⟨_, rfl⟩
  rw [hn, hht, hms, hdr] at HST
  have HP1 := Lib.hid (show p.hits = ht by rw [← hp, ← hht]; rfl)
  have HP2 := Lib.hid (show p.misses = ms by rw [← hp, ← hms]; rfl)
  have HP3 := Lib.hid (show p.dropped = dr by rw [← hp, ← hdr]; rfl)
  clear hc hp hn hht hms hdr h
  have HS := Lib.hid (show Below w.heap.size w w.drew from drewBelow w 1)
  go_enter Tryz.func21, Tryz.ntmps21
  go_wp2_with fail
  refine s_start 22 (fun w' => Below w.heap.size w w') (by as_aux_lemma => kernel_rfl) (by as_aux_lemma => kernel_rfl) HS.out ?_
  refine s_take 0 (by as_aux_lemma => kernel_rfl) (by as_aux_lemma => kernel_rfl) (by as_aux_lemma => kernel_rfl) (by as_aux_lemma => kernel_rfl) HS.out (fun oi ho => ?_)
  simp only [List.getElem?_toArray, List.getElem?_cons_succ, List.getElem?_cons_zero, Option.some.injEq] at ho
  subst ho
  refine ⟨?_, Or.inl ⟨by rfl, fun w _ => ?_⟩, ?_⟩
  rotate_left
  · (go_simp <;> with_reducible rfl)
  try simp only [Act.put, List.setIfInBounds_toArray, List.set_cons_zero, List.set_cons_succ]
  refine s_take 2 (by as_aux_lemma => kernel_rfl) (by as_aux_lemma => kernel_rfl) (by as_aux_lemma => kernel_rfl) (by as_aux_lemma => kernel_rfl) HS.out (fun oi ho => ?_)
  simp only [List.getElem?_toArray, List.getElem?_cons_succ, List.getElem?_cons_zero, Option.some.injEq] at ho
  subst ho
  refine ⟨?_, Or.inl ⟨by rfl, fun w _ => ?_⟩, ?_⟩
  rotate_left
  · (go_simp <;> with_reducible rfl)
  try simp only [Act.put, List.setIfInBounds_toArray, List.set_cons_zero, List.set_cons_succ]
  refine s_take 3 (by as_aux_lemma => kernel_rfl) (by as_aux_lemma => kernel_rfl) (by as_aux_lemma => kernel_rfl) (by as_aux_lemma => kernel_rfl) HS.out (fun oi ho => ?_)
  simp only [List.getElem?_toArray, List.getElem?_cons_succ, List.getElem?_cons_zero, Option.some.injEq] at ho
  subst ho
  refine ⟨?_, Or.inl ⟨by rfl, fun w _ => ?_⟩, ?_⟩
  rotate_left
  · (go_simp <;> with_reducible rfl)
  try simp only [Act.put, List.setIfInBounds_toArray, List.set_cons_zero, List.set_cons_succ]
  refine s_take 4 (by as_aux_lemma => kernel_rfl) (by as_aux_lemma => kernel_rfl) (by as_aux_lemma => kernel_rfl) (by as_aux_lemma => kernel_rfl) HS.out (fun oi ho => ?_)
  simp only [List.getElem?_toArray, List.getElem?_cons_succ, List.getElem?_cons_zero, Option.some.injEq] at ho
  subst ho
  refine ⟨?_, Or.inl ⟨by rfl, fun w _ => ?_⟩, ?_⟩
  rotate_left
  · (go_simp <;> with_reducible rfl)
  try simp only [Act.put, List.setIfInBounds_toArray, List.set_cons_zero, List.set_cons_succ]
  refine s_take 5 (by as_aux_lemma => kernel_rfl) (by as_aux_lemma => kernel_rfl) (by as_aux_lemma => kernel_rfl) (by as_aux_lemma => kernel_rfl) HS.out (fun oi ho => ?_)
  simp only [List.getElem?_toArray, List.getElem?_cons_succ, List.getElem?_cons_zero, Option.some.injEq] at ho
  subst ho
  refine ⟨.slice pv n cv, Or.inl ⟨by rfl, fun w' hS' => ?_⟩, ?_⟩
  · have q0 := (HR.out.below hS').c2
    (go_simp <;> with_reducible rfl)
  try simp only [Act.put, List.setIfInBounds_toArray, List.set_cons_zero, List.set_cons_succ]
  refine s_take 6 (by as_aux_lemma => kernel_rfl) (by as_aux_lemma => kernel_rfl) (by as_aux_lemma => kernel_rfl) (by as_aux_lemma => kernel_rfl) HS.out (fun oi ho => ?_)
  simp only [List.getElem?_toArray, List.getElem?_cons_succ, List.getElem?_cons_zero, Option.some.injEq] at ho
  subst ho
  refine ⟨?_, Or.inl ⟨by rfl, fun w _ => ?_⟩, ?_⟩
  rotate_left
  · (go_simp <;> with_reducible rfl)
  try simp only [Act.put, List.setIfInBounds_toArray, List.set_cons_zero, List.set_cons_succ]
  refine s_take 7 (by as_aux_lemma => kernel_rfl) (by as_aux_lemma => kernel_rfl) (by as_aux_lemma => kernel_rfl) (by as_aux_lemma => kernel_rfl) HS.out (fun oi ho => ?_)
  simp only [List.getElem?_toArray, List.getElem?_cons_succ, List.getElem?_cons_zero, Option.some.injEq] at ho
  subst ho
  refine ⟨?_, Or.inl ⟨by rfl, fun w _ => ?_⟩, ?_⟩
  rotate_left
  · (go_simp <;> with_reducible rfl)
  try simp only [Act.put, List.setIfInBounds_toArray, List.set_cons_zero, List.set_cons_succ]
  refine s_take 8 (by as_aux_lemma => kernel_rfl) (by as_aux_lemma => kernel_rfl) (by as_aux_lemma => kernel_rfl) (by as_aux_lemma => kernel_rfl) HS.out (fun oi ho => ?_)
  simp only [List.getElem?_toArray, List.getElem?_cons_succ, List.getElem?_cons_zero, Option.some.injEq] at ho
  subst ho
  refine ⟨?_, Or.inl ⟨by rfl, fun w _ => ?_⟩, ?_⟩
  rotate_left
  · (go_simp <;> with_reducible rfl)
  try simp only [Act.put, List.setIfInBounds_toArray, List.set_cons_zero, List.set_cons_succ]
  refine s_take 9 (by as_aux_lemma => kernel_rfl) (by as_aux_lemma => kernel_rfl) (by as_aux_lemma => kernel_rfl) (by as_aux_lemma => kernel_rfl) HS.out (fun oi ho => ?_)
  simp only [List.getElem?_toArray, List.getElem?_cons_succ, List.getElem?_cons_zero, Option.some.injEq] at ho
  subst ho
  refine ⟨?_, Or.inl ⟨by rfl, fun w _ => ?_⟩, ?_⟩
  rotate_left
  · (go_simp <;> with_reducible rfl)
  try simp only [Act.put, List.setIfInBounds_toArray, List.set_cons_zero, List.set_cons_succ]
  refine s_take 10 (by as_aux_lemma => kernel_rfl) (by as_aux_lemma => kernel_rfl) (by as_aux_lemma => kernel_rfl) (by as_aux_lemma => kernel_rfl) HS.out (fun oi ho => ?_)
  simp only [List.getElem?_toArray, List.getElem?_cons_succ, List.getElem?_cons_zero, Option.some.injEq] at ho
  subst ho
  refine ⟨.int .i64 (ht : Int), Or.inl ⟨by rfl, fun w' hS' => ?_⟩, ?_⟩
  · have q0 := (HR.out.below hS').c3
    rw [HP1.out] at q0
    (go_simp <;> with_reducible rfl)
  try simp only [Act.put, List.setIfInBounds_toArray, List.set_cons_zero, List.set_cons_succ]
  refine s_take 11 (by as_aux_lemma => kernel_rfl) (by as_aux_lemma => kernel_rfl) (by as_aux_lemma => kernel_rfl) (by as_aux_lemma => kernel_rfl) HS.out (fun oi ho => ?_)
  simp only [List.getElem?_toArray, List.getElem?_cons_succ, List.getElem?_cons_zero, Option.some.injEq] at ho
  subst ho
  refine ⟨?_, Or.inl ⟨by rfl, fun w _ => ?_⟩, ?_⟩
  rotate_left
  · (go_simp <;> with_reducible rfl)
  try simp only [Act.put, List.setIfInBounds_toArray, List.set_cons_zero, List.set_cons_succ]
  refine s_take 12 (by as_aux_lemma => kernel_rfl) (by as_aux_lemma => kernel_rfl) (by as_aux_lemma => kernel_rfl) (by as_aux_lemma => kernel_rfl) HS.out (fun oi ho => ?_)
  simp only [List.getElem?_toArray, List.getElem?_cons_succ, List.getElem?_cons_zero, Option.some.injEq] at ho
  subst ho
  refine ⟨?_, Or.inl ⟨by rfl, fun w _ => ?_⟩, ?_⟩
  rotate_left
  · (go_simp <;> with_reducible rfl)
  try simp only [Act.put, List.setIfInBounds_toArray, List.set_cons_zero, List.set_cons_succ]
  refine s_take 13 (by as_aux_lemma => kernel_rfl) (by as_aux_lemma => kernel_rfl) (by as_aux_lemma => kernel_rfl) (by as_aux_lemma => kernel_rfl) HS.out (fun oi ho => ?_)
  simp only [List.getElem?_toArray, List.getElem?_cons_succ, List.getElem?_cons_zero, Option.some.injEq] at ho
  subst ho
  refine ⟨?_, Or.inl ⟨by rfl, fun w _ => ?_⟩, ?_⟩
  rotate_left
  · (go_simp <;> with_reducible rfl)
  try simp only [Act.put, List.setIfInBounds_toArray, List.set_cons_zero, List.set_cons_succ]
  refine s_take 14 (by as_aux_lemma => kernel_rfl) (by as_aux_lemma => kernel_rfl) (by as_aux_lemma => kernel_rfl) (by as_aux_lemma => kernel_rfl) HS.out (fun oi ho => ?_)
  simp only [List.getElem?_toArray, List.getElem?_cons_succ, List.getElem?_cons_zero, Option.some.injEq] at ho
  subst ho
  refine ⟨.int .i64 (ms : Int), Or.inl ⟨by rfl, fun w' hS' => ?_⟩, ?_⟩
  · have q0 := (HR.out.below hS').c4
    rw [HP2.out] at q0
    (go_simp <;> with_reducible rfl)
  try simp only [Act.put, List.setIfInBounds_toArray, List.set_cons_zero, List.set_cons_succ]
  refine s_take 15 (by as_aux_lemma => kernel_rfl) (by as_aux_lemma => kernel_rfl) (by as_aux_lemma => kernel_rfl) (by as_aux_lemma => kernel_rfl) HS.out (fun oi ho => ?_)
  simp only [List.getElem?_toArray, List.getElem?_cons_succ, List.getElem?_cons_zero, Option.some.injEq] at ho
  subst ho
  refine ⟨?_, Or.inl ⟨by rfl, fun w _ => ?_⟩, ?_⟩
  rotate_left
  · (go_simp <;> with_reducible rfl)
  try simp only [Act.put, List.setIfInBounds_toArray, List.set_cons_zero, List.set_cons_succ]
  refine s_take 16 (by as_aux_lemma => kernel_rfl) (by as_aux_lemma => kernel_rfl) (by as_aux_lemma => kernel_rfl) (by as_aux_lemma => kernel_rfl) HS.out (fun oi ho => ?_)
  simp only [List.getElem?_toArray, List.getElem?_cons_succ, List.getElem?_cons_zero, Option.some.injEq] at ho
  subst ho
  refine ⟨?_, Or.inl ⟨by rfl, fun w _ => ?_⟩, ?_⟩
  rotate_left
  · (go_simp <;> with_reducible rfl)
  try simp only [Act.put, List.setIfInBounds_toArray, List.set_cons_zero, List.set_cons_succ]
  refine s_take 17 (by as_aux_lemma => kernel_rfl) (by as_aux_lemma => kernel_rfl) (by as_aux_lemma => kernel_rfl) (by as_aux_lemma => kernel_rfl) HS.out (fun oi ho => ?_)
  simp only [List.getElem?_toArray, List.getElem?_cons_succ, List.getElem?_cons_zero, Option.some.injEq] at ho
  subst ho
  refine ⟨?_, Or.inl ⟨by rfl, fun w _ => ?_⟩, ?_⟩
  rotate_left
  · (go_simp <;> with_reducible rfl)
  try simp only [Act.put, List.setIfInBounds_toArray, List.set_cons_zero, List.set_cons_succ]
  refine s_take 18 (by as_aux_lemma => kernel_rfl) (by as_aux_lemma => kernel_rfl) (by as_aux_lemma => kernel_rfl) (by as_aux_lemma => kernel_rfl) HS.out (fun oi ho => ?_)
  simp only [List.getElem?_toArray, List.getElem?_cons_succ, List.getElem?_cons_zero, Option.some.injEq] at ho
  subst ho
  refine ⟨.int .i64 (dr : Int), Or.inl ⟨by rfl, fun w' hS' => ?_⟩, ?_⟩
  · have q0 := (HR.out.below hS').c5
    rw [HP3.out] at q0
    (go_simp <;> with_reducible rfl)
  try simp only [Act.put, List.setIfInBounds_toArray, List.set_cons_zero, List.set_cons_succ]
  refine s_take 19 (by as_aux_lemma => kernel_rfl) (by as_aux_lemma => kernel_rfl) (by as_aux_lemma => kernel_rfl) (by as_aux_lemma => kernel_rfl) HS.out (fun oi ho => ?_)
  simp only [List.getElem?_toArray, List.getElem?_cons_succ, List.getElem?_cons_zero, Option.some.injEq] at ho
  subst ho
  refine ⟨?_, Or.inl ⟨by rfl, fun w _ => ?_⟩, ?_⟩
  rotate_left
  · (go_simp <;> with_reducible rfl)
  try simp only [Act.put, List.setIfInBounds_toArray, List.set_cons_zero, List.set_cons_succ]
  refine s_all (rs := [1]) (by as_aux_lemma => kernel_rfl) (by simp) ?_
  refine s_step 1 (by as_aux_lemma => kernel_rfl) (fun o ho K hK => ?_) AllReadyH.nil
  simp only [List.getElem?_toArray, List.getElem?_cons_succ, List.getElem?_cons_zero, Option.some.injEq] at ho
  subst ho
  go_simp
  refine (HST.out).mono ?_
  rintro e w1 ⟨rfl, hb⟩
  have HB1 := Lib.hid (show Below w.heap.size w w1 from ⟨hb.os, hb.tape, hb.output, hb.size, hb.block⟩)
  clear hb
  go_wp2_with fail
  refine hK.out _ _ HB1.out ?_
  clear hK K
  try simp only [Act.put, List.setIfInBounds_toArray, List.set_cons_zero, List.set_cons_succ]
  refine s_take 20 (by as_aux_lemma => kernel_rfl) (by as_aux_lemma => kernel_rfl) (by as_aux_lemma => kernel_rfl) (by as_aux_lemma => kernel_rfl) HB1.out (fun oi ho => ?_)
  simp only [List.getElem?_toArray, List.getElem?_cons_succ, List.getElem?_cons_zero, Option.some.injEq] at ho
  subst ho
  refine ⟨?_, Or.inl ⟨by rfl, fun w _ => ?_⟩, ?_⟩
  rotate_left
  · (go_simp <;> with_reducible rfl)
  try simp only [Act.put, List.setIfInBounds_toArray, List.set_cons_zero, List.set_cons_succ]
  refine s_take 21 (by as_aux_lemma => kernel_rfl) (by as_aux_lemma => kernel_rfl) (by as_aux_lemma => kernel_rfl) (by as_aux_lemma => kernel_rfl) HB1.out (fun oi ho => ?_)
  simp only [List.getElem?_toArray, List.getElem?_cons_succ, List.getElem?_cons_zero, Option.some.injEq] at ho
  subst ho
  refine ⟨?_, Or.inl ⟨by rfl, fun w _ => ?_⟩, ?_⟩
  rotate_left
  · (go_simp <;> with_reducible rfl)
  try simp only [Act.put, List.setIfInBounds_toArray, List.set_cons_zero, List.set_cons_succ]
  refine s_done (by as_aux_lemma => kernel_rfl) ?_
  go_wp2
  go_ret
  exact ⟨rfl, HB1.out⟩

/-- A list's cells, as far as they go, lie in a block of their own. -/
theorem overB_any (w : World) {lo : Nat} (u : Value) (l : List B) (hO : Own w lo u l) (hl : l.length ≤ 900000) :
    Calls Tryz.prog 14 #[u] w fun e w' => e = .returned (.tuple #[]) ∧ Kept (fun i => u.ownBlock = some i) w w' := by
  obtain ⟨n, hn⟩ : ∃ n, l.length = n := ⟨_, rfl⟩
  have hO2 := hO.2
  rw [hn] at hO2 hl
  clear hO hn
  rcases hO2 with ⟨rfl, hz⟩ | ⟨g, cap, cur, rfl, h2, h3, h4, h5, h6, _⟩
  · clear hl
    go_enter Tryz.func14, Tryz.ntmps14
    go_wp2
    go_loopw [3] (fun i wr => i = .int .i64 0 ∧ wr = w) (fun _ _ => 0)
    case atStart => exact ⟨rfl, rfl⟩
    case round =>
      obtain ⟨rfl, rfl⟩ := hrel
      go_wp2
      go_end0
      exact ⟨rfl, Kept.refl _ _⟩
  · rw [Nat.mul_one] at h6
    have h5' : cap ≤ 9223372036854775807 := by unfold maxLen at h5; omega
    have HW := Lib.hid (show ∃ C, w.heap[g]? = some (.cells C 5 (0, 0)) ∧ C.size = cap from ⟨cur, h3, h6⟩)
    clear h2 h3 h6 h5
    obtain ⟨m, hm, HMC, hm2, hcs⟩ : ∃ m : Nat, (if (n : Int) + 12 < (cap : Int) then (n : Int) + 12 else (cap : Int)) = (m : Int) ∧ m ≤ cap ∧ m ≤ 900012 ∧ ((n + 12 < cap ∧ m = n + 12) ∨ (¬ n + 12 < cap ∧ m = cap)) := by
      by_cases h : n + 12 < cap
      · exact ⟨n + 12, by rw [if_pos (by omega)]; omega, by omega, by omega, .inl ⟨h, rfl⟩⟩
      · exact ⟨cap, by rw [if_neg (by omega)], Nat.le_refl _, by omega, .inr ⟨h, rfl⟩⟩
    have hmi : (m : Int) ≤ (cap : Int) := by omega
    clear hcs
    go_enter Tryz.func14, Tryz.ntmps14
    go_wp2
    go_loopw [3] (fun i wr => ∃ t : Nat, t ≤ m ∧ i = .int .i64 (t : Int) ∧ (∃ C, wr.heap[g]? = some (.cells C 5 (0, 0)) ∧ C.size = cap) ∧ Kept (fun i => i = g) w wr) (fun i _ => m - (intOf i).toNat)
    case atStart => exact ⟨0, Nat.zero_le _, rfl, HW.out, Kept.refl _ _⟩
    case round =>
      obtain ⟨t, ht, rfl, ⟨C, hC, hCs⟩, hk⟩ := hrel
      have HK := Lib.hid hk
      by_cases hlt : t < m
      · have d1 : wr.cell? ⟨g, t, none⟩ = some (C[t]'(by omega)) := by rw [cell_of hC, Array.getElem?_eq_getElem]
        have d2 : wr.frozen? ⟨g, t, none⟩ = false := fz_of hC t
        generalize C[t]'(by omega) = old at d1
        have HC := Lib.hid (show ∀ u, ∃ C', (wr.setCell ⟨g, t, none⟩ u).heap[g]? = some (.cells C' 5 (0, 0)) ∧ C'.size = cap from fun u => ⟨_, heap_set hC u, by simp [hCs]⟩)
        have HMB := Lib.hid (fun W => markByte_any W 2 t (by omega) (by omega))
        obtain ⟨y, hy⟩ : ∃ y, mkB 2 t = y := ⟨_, rfl⟩
        rw [hy] at HMB
        clear hC hCs hk hy
        go_wp2_with fail
        refine (HMB.out _).mono ?_
        rintro e w' ⟨rfl, rfl⟩
        go_wp2
        go_roundw
        case rel => exact ⟨t + 1, by omega, by go_num, HC.out _, HK.out.setCell' (p := ⟨g, t, none⟩) rfl _⟩
        case measure => simp [intOf]; omega
      · obtain rfl : t = m := by omega
        go_wp2
        go_end0
        exact ⟨rfl, HK.out.mono (fun i _ e => by subst e; rfl)⟩
/-- The rows told, as far as they are written over. -/
def RowsDone (us : List Value) (m i : Nat) : Prop := ∃ (j : Nat) (u : Value), j < m ∧ us[j]? = some u ∧ u.ownBlock = some i
/-- Rows told, apart from one another, all below hi. -/
def LoneU (w : World) (lo hi : Nat) (v : Value) (ls : List (List B)) (us : List Value) : Prop := w.ownsRow lo 43 1 v ls.length us ∧
  (∀ i u, us[i]? = some u → Own w lo u (ls.getD i []) ∧ ∀ b, u.ownBlock = some b → v.ownBlock ≠ some b ∧ lo ≤ b ∧ b < hi) ∧
  ∀ (i j : Nat) (u z : Value) (b : Nat), us[i]? = some u → us[j]? = some z → u.ownBlock = some b → z.ownBlock = some b → i = j
theorem RowsLone.us {w : World} {lo : Nat} {v : Value} {ls : List (List B)} (h : RowsLone w lo v ls) : ∃ us, LoneU w lo w.heap.size v ls us := by
  obtain ⟨us, h1, h2, h3⟩ := h
  exact ⟨us, h1, fun i u hi => ⟨(h2 i u hi).1, fun b e => ⟨(h2 i u hi).2 b e, (h2 i u hi).1.blk b e⟩⟩, h3⟩
section
variable {w w' : World} {lo hi : Nat} {v : Value} {ls : List (List B)} {us : List Value}
theorem LoneU.kept {S : Nat → Prop} (h : LoneU w lo hi v ls us) (hk : Kept S w w') (hS : ∀ i, S i → i < lo) : LoneU w' lo hi v ls us := by
  obtain ⟨h1, h2, h3⟩ := h
  refine ⟨ownsRow_keptS h1 hk (fun b hb hs => by have := (World.ownsRow.lt h1 b hb).1; have := hS b hs; omega), fun i u hi => ⟨(h2 i u hi).1.kept hk (fun b hb hs => by have := ((h2 i u hi).2 b hb).2; have := hS b hs; omega), (h2 i u hi).2⟩, h3⟩
theorem LoneU.below (h : LoneU w lo hi v ls us) (hb : Below w.heap.size w w') : LoneU w' lo hi v ls us := h.kept (Kept.below hb) (fun _ h => h.elim)
theorem LoneU.rows (h : LoneU w lo hi v ls us) : RowsAt w v ls := RowsAt.of_owns h.1 (fun i u hi => (h.2.1 i u hi).1.bytes)
/-- The next row, behind some that were written over. -/
theorem LoneU.next {wr : World} {m : Nat} (h : LoneU w lo hi v ls us) (hk : Kept (RowsDone us m) w wr) (hm : m < ls.length) : ∃ g c u, v = .slice (some ⟨g, 0, none⟩) ls.length c ∧ wr.cell? ⟨g, m, none⟩ = some u ∧ us[m]? = some u ∧ Own wr lo u (ls.getD m []) := by
  obtain ⟨h1, h2, h3⟩ := h
  have h4 := ownsRow_keptS h1 hk (fun b hb ⟨j, u, hj, hu, he⟩ => ((h2 j u hu).2 b he).1 hb)
  obtain ⟨g, c, e, _, _, _, hc⟩ := own_cells h4 (by omega)
  have hl := h1.1
  have hu : us[m]? = some (us[m]'(by omega)) := List.getElem?_eq_getElem (by omega)
  refine ⟨g, c, _, e, (hc m hm).trans hu, hu, (h2 m _ hu).1.kept hk (fun b hb ⟨j, z, hj, hz, he⟩ => ?_)⟩
  have := h3 m j _ z b hu hz hb he
  omega
theorem LoneU.done (h : LoneU w lo hi v ls us) (m i : Nat) (hd : RowsDone us m i) : lo ≤ i ∧ i < hi := by
  obtain ⟨j, u, _, hu, he⟩ := hd
  exact ((h.2.1 j u hu).2 i he).2
theorem RowsDone.step {wr wr' : World} {m : Nat} {u : Value} (hk : Kept (RowsDone us m) w wr) (hu : us[m]? = some u) (hk2 : Kept (fun i => u.ownBlock = some i) wr wr') : Kept (RowsDone us (m + 1)) w wr' :=
  (hk.mono (fun i _ ⟨j, z, hj, hz, he⟩ => ⟨j, z, by omega, hz, he⟩)).trans hk2 (fun i _ e => ⟨m, u, by omega, hu, e⟩)
end
theorem PInv.stepE {N R M : Nat} {p : PS} (h : PInv N R M p) (hR : 1 ≤ R) (k : Int) (xs : List Int) : ∃ M', M' ≤ M + 1 ∧ PInv N R M' (p.step k xs) := by
  unfold PS.step
  split
  · exact ⟨M + 1, Nat.le_refl _, h.ask hR _⟩
  · exact ⟨M, by omega, h⟩
end Go.Proofs.YtlmpagicjgldkaaGreat
