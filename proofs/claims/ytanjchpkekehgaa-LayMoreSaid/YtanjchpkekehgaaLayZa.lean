/-
  LayMore: plain laws, appends of many headers.
-/
import Derived.Test.YtanjchpkekehgaaLayYa
namespace Go.Proofs.Ytanjchpkekehgaa
open Go.RowKit Go.Maps
set_option linter.unusedVariables false
set_option maxRecDepth 100000
set_option maxHeartbeats 4000000

/-- Append of rows' headers, however many. -/
theorem app_headN {ops : Array Oper} {rest : List Oper} {o : Oper} {a : Act} {Q : Exit → Act → World → Prop} {W : World}
    (hgd : o.guard = none) (s x : Operand) (ho : o.op = .call { callee := .builtin .append, args := #[s, x], argTypes := #[32, 32] })
    (base n m : Nat) (v : Value) (l1 l2 : List Value) (hm : l2.length = m) (hown : W.ownsRow base 37 1 v n l1) (p : Option Addr) (c : Nat) (hc : 0 < m → ∃ g off, p = some ⟨g, off, none⟩ ∧ ∀ i u, l2[i]? = some u → W.cell? ⟨g, off + i, none⟩ = some u) (h1 : ∀ u ∈ l2, u.oneCell' = true)
    (hs : a.eval s = v) (hx : a.eval x = .slice p m c) (hnm : n + m < 1000000000000) (hbase : base ≤ W.heap.size)
    (h : ∀ p' c' w', w'.ownsRow base 37 1 (.slice p' (n + m) c') (n + m) (l1 ++ l2) → Kept (fun k => v.ownBlock = some k) W w' →
      wpList Try.prog ops Q rest (a.put o.dst (.slice p' (n + m) c')) w') : wpList Try.prog ops Q (o :: rest) a W := by
  by_cases h0 : m = 0
  · subst h0
    obtain rfl : l2 = [] := List.eq_nil_of_length_eq_zero hm
    have hv : ∃ p' c', v = .slice p' n c' := by
      rcases hown.2 with ⟨rfl, hz⟩ | ⟨g, cap, cur, rfl, _⟩
      · exact ⟨none, 0, by rw [hz]⟩
      · exact ⟨_, cap, rfl⟩
    obtain ⟨p', c', rfl⟩ := hv
    have h2 := h p' c' W (by rw [List.append_nil, Nat.add_zero]; exact hown) (Kept.refl _ _)
    exact app_none 32 37 1 24 (.slice none 0 0) Try.underlying32 infoR hgd s x ho base n (.slice p' n c') l1 hs hown p c hx h2
  · obtain ⟨g, off, rfl, hcc⟩ := hc (by omega)
    obtain ⟨i, hi, hz, hsize, hbytes⟩ := info_parts infoR
    rw [← hsize] at hown
    obtain ⟨g', c', w', hr, h2, h3, h4⟩ := run_app (P := Try.prog) (w := W) base 32 o.type 37 i (.slice none 0 0) Try.underlying32 hi hz (by rw [hsize]; rfl) v n l1 hown g off m c l2 (by simp [hsize, hm]) (by omega) (fun j u hj => by
        rw [add_off]
        exact hcc j u hj) h1 (by omega) (by rw [hbytes]; omega) hbase
    rw [hsize] at h2
    refine wpList_plain hgd fun K hK => ?_
    have h5 := h _ c' w' h2 h3
    unfold Oper.wp execOp
    simp only [ho, resolve, invoke, builtin, Sem.run_bind, Sem.run_pure, Result.andThen_ok, List.map_toArray, List.map_cons, List.map_nil, hs, hx, hr]
    exact hK _ _ h5

/-- With a layer more behind, the stripes ahead stay. -/
theorem bodyL_more {n i : Nat} {ls : List (List B)} {ks : List Int} {b : List B} {k : Int} (hl : ls.length = ks.length) : ∀ {m : Nat}, m ≤ ks.length → bodyL n (ls ++ [b]) (ks ++ [k]) i m = bodyL n ls ks i m
  | 0, _ => rfl
  | m + 1, h => by
    have ih := bodyL_more (n := n) (i := i) (b := b) (k := k) hl (m := m) (by omega)
    have h1 : (tabL (ls ++ [b]) (ks ++ [k])).getD m (0, 0) = (tabL ls ks).getD m (0, 0) := by
      rw [tabL_get (by simp; omega), tabL_get (by omega), getD_snoc_lt (by omega), getD_snoc_lt (by omega)]
    have h2 : (ls ++ [b]).getD m [] = ls.getD m [] := getD_snoc_lt (by omega)
    show bodyL n (ls ++ [b]) (ks ++ [k]) i m ++ (symT n ((tabL (ls ++ [b]) (ks ++ [k])).getD m (0, 0)) ((ls ++ [b]).getD m [])).getD i [] = _
    rw [ih, h1, h2]
    rfl
theorem bodyL_take {n i M : Nat} {ls : List (List B)} {ks : List Int} {b : List B} {k : Int} (hl : ls.length = ks.length) (hM : ks.length = M) : (bodyL n (ls ++ [b]) (ks ++ [k]) i (M + 1)).take (bodyL n ls ks i M).length = bodyL n ls ks i M := by
  have h : bodyL n (ls ++ [b]) (ks ++ [k]) i (M + 1) = bodyL n (ls ++ [b]) (ks ++ [k]) i M ++ (symT n ((tabL (ls ++ [b]) (ks ++ [k])).getD M (0, 0)) ((ls ++ [b]).getD M [])).getD i [] := rfl
  rw [h, bodyL_more hl (by omega), List.take_left]
theorem bodyL_longer {n i M : Nat} {ls : List (List B)} {ks : List Int} {b : List B} {k : Int} (hl : ls.length = ks.length) (hM : ks.length = M) : (bodyL n ls ks i M).length ≤ (bodyL n (ls ++ [b]) (ks ++ [k]) i (M + 1)).length := by
  have h := congrArg List.length (bodyL_take (n := n) (i := i) (b := b) (k := k) hl hM)
  rw [List.length_take] at h
  omega
theorem readyT_none {n : Int} {t : List (Int × Int)} (h : TableOk n t) : readyT t 0 = 0 := by
  refine Nat.eq_zero_of_not_pos fun h0 => ?_
  have h1 := readyT_lt h0
  have h2 := (h.2.2.2.2.ge 0 (by have := h.2.2.1; omega)).1
  omega
theorem readyT_mono {n : Int} {t : List (Int × Int)} (h : TableOk n t) {a b : Int} (hab : a ≤ b) : readyT t a ≤ readyT t b := by
  refine Nat.le_of_not_lt fun h0 => ?_
  have h1 := readyT_lt h0
  have h2 := readyT_end (t := t) (came := b) (by have := readyT_le t a; omega)
  omega
theorem BytesAt.takeB {w : World} {p : Option Addr} {n c m : Nat} {l : List B} (h : BytesAt w (.slice p n c) l) (hm : m ≤ l.length) : BytesAt w (.slice p m c) (l.take m) := by
  obtain ⟨_, _, e, hh⟩ := h
  simp only [Value.slice.injEq] at e
  obtain ⟨rfl, rfl, rfl⟩ := e
  have hl : (l.take m).length = m := by simp; omega
  refine ⟨_, _, by rw [hl], fun h0 => ?_⟩
  rw [hl] at h0
  obtain ⟨g, off, rfl, hc⟩ := hh (by omega)
  refine ⟨g, off, rfl, fun i hi => ?_⟩
  rw [hl] at hi
  rw [hc i (by omega)]
  congr 2
  rw [List.getD_eq_getElem?_getD, List.getD_eq_getElem?_getD, List.getElem?_take, if_pos hi]
theorem lit_none (w : World) (t : TypeId) (size base g : Nat) (hg : w.heap.size = g) (hb : base ≤ w.heap.size) : (w.alloc (.cells #[] t)).ownsRow base t size (.slice (some ⟨g, 0, none⟩) 0 0) 0 [] := by
  subst hg
  exact ⟨by simp, .inr ⟨w.heap.size, 0, #[], rfl, hb, heap_alloc_new w _, Nat.le_refl _, by unfold maxLen; omega, by simp, by simp⟩⟩
/-- The headers of rows. -/
def hdrs (w : World) (g o n : Nat) : List Value := (List.range n).map fun i => (w.cell? ⟨g, o + i, none⟩).getD undef
theorem hdrs_len (w : World) (g o n : Nat) : (hdrs w g o n).length = n := by simp [hdrs]
theorem hdrs_get {w : World} {g o n i : Nat} {u z : Value} (hc : w.cell? ⟨g, o + i, none⟩ = some z) (h : (hdrs w g o n)[i]? = some u) : u = z := by
  unfold hdrs at h
  rw [List.getElem?_map] at h
  obtain ⟨j, hj, e⟩ := Option.map_eq_some_iff.1 h
  have : j = i := by
    have h2 := (List.getElem?_eq_some_iff.1 hj).2
    simpa using h2.symm
  subst this
  rw [hc] at e
  exact e.symm
/-- Append of many to none. -/
theorem app_rows0 {ops : Array Oper} {rest : List Oper} {o : Oper} {a : Act} {Q : Exit → Act → World → Prop} {W : World}
    (hgd : o.guard = none) (s x : Operand) (ho : o.op = .call { callee := .builtin .append, args := #[s, x], argTypes := #[32, 32] })
    (base m : Nat) (v : Value) (l2 : List Value) (hm : l2.length = m) (hown : W.ownsRow base 37 1 v 0 []) (p : Option Addr) (c : Nat) (hc : 0 < m → ∃ g off, p = some ⟨g, off, none⟩ ∧ ∀ i u, l2[i]? = some u → W.cell? ⟨g, off + i, none⟩ = some u) (h1 : ∀ u ∈ l2, u.oneCell' = true)
    (hs : a.eval s = v) (hx : a.eval x = .slice p m c) (hnm : m < 1000000000000) (hbase : base ≤ W.heap.size)
    (h : ∀ p' c' w', w'.ownsRow base 37 1 (.slice p' m c') m l2 → Kept (fun k => v.ownBlock = some k) W w' →
      wpList Try.prog ops Q rest (a.put o.dst (.slice p' m c')) w') : wpList Try.prog ops Q (o :: rest) a W := by
  refine app_headN hgd s x ho base 0 m v [] l2 hm hown p c hc h1 hs hx (by omega) hbase (fun p' c' w' h2 h3 => ?_)
  rw [Nat.zero_add, List.nil_append] at h2
  have := h p' c' w' h2 h3
  rwa [Nat.zero_add]
theorem app_ints0 {ops : Array Oper} {rest : List Oper} {o : Oper} {a : Act} {Q : Exit → Act → World → Prop} {W : World}
    (hgd : o.guard = none) (s x : Operand) (ho : o.op = .call { callee := .builtin .append, args := #[s, x], argTypes := #[33, 33] })
    (base m : Nat) (v : Value) (l2 : List Int) (hm : l2.length = m) (hown : W.ownsRow base 3 1 v 0 []) (p : Option Addr) (c : Nat) (hc : 0 < m → ∃ g off, p = some ⟨g, off, none⟩ ∧ ∀ i, i < m → W.cell? ⟨g, off + i, none⟩ = some (.int .i64 (l2.getD i 0)))
    (hs : a.eval s = v) (hx : a.eval x = .slice p m c) (hnm : m < 1000000000000) (hbase : base ≤ W.heap.size)
    (h : ∀ p' c' w', w'.ownsRow base 3 1 (.slice p' m c') m (l2.map (Value.int .i64)) → Kept (fun k => v.ownBlock = some k) W w' →
      wpList Try.prog ops Q rest (a.put o.dst (.slice p' m c')) w') : wpList Try.prog ops Q (o :: rest) a W := by
  refine app_int_many hgd s x ho base 0 m v [] l2 rfl hm hown p c hc hs hx (by omega) hbase (fun p' c' w' h2 h3 _ => ?_)
  rw [Nat.zero_add, List.nil_append] at h2
  have := h p' c' w' h2 h3
  rwa [Nat.zero_add]
end Go.Proofs.Ytanjchpkekehgaa
