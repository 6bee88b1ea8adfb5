/-
  RefO: Walks of the reference, layer 5 (code): Decode.
  KitF: Walks of the kit: LentInts.
-/
import Derived.Test.YtanjchpkekehgaaMxbl
import Derived.Test.YtanjchpkekehgaaMxba
namespace Go.Proofs.Ytanjchpkekehgaa

section -- RefO
open Go.RowKit Go.Maps
set_option linter.unusedVariables false
set_option maxRecDepth 100000
set_option maxHeartbeats 4000000

theorem hIdx_len (hs : List (Int × List B)) : (hIdx hs).length = hs.length := by simp [hIdx]
theorem hRow_len (hs : List (Int × List B)) : (hRow hs).length = hs.length := by simp [hRow]
theorem hIdx_get {hs : List (Int × List B)} {i : Nat} (h : i < hs.length) : (hIdx hs).getD i 0 = (hs.getD i (0, [])).1 := by
  simp [hIdx, List.getD_eq_getElem?_getD, List.getElem?_eq_getElem h]
theorem hRow_get {hs : List (Int × List B)} {i : Nat} (h : i < hs.length) : (hRow hs).getD i [] = (hs.getD i (0, [])).2 := by
  simp [hRow, List.getD_eq_getElem?_getD, List.getElem?_eq_getElem h]
theorem getD_take {α : Type} {l : List α} {k i : Nat} {d : α} (h : i < k) : (l.take k).getD i d = l.getD i d := by
  rw [List.getD_eq_getElem?_getD, List.getD_eq_getElem?_getD, List.getElem?_take, if_pos h]
theorem mixL_take {ws : List B} {l : List (List B)} {k wide : Nat} (h : ws.length = k) : mixL ws (l.take k) wide = mixL ws l wide := by
  unfold mixL
  refine List.map_congr_left (fun j _ => sm_congr (fun i hi => ?_))
  rw [getD_take (by omega)]
theorem mov_dec {ys : List B} {l : List (List B)} {k wide : Nat} (hy : ys.length = k) : movL ys (l.take k) (ptsL k) k k wide = decL k ys l wide := by
  rw [decL_eq]
  unfold movL decP
  refine List.map_congr_left (fun r hr => ?_)
  rw [mov_row hy (ptsL_get (List.mem_range.1 hr)), mixL_take (by rw [wtsL_len]; exact hy)]
theorem one_int (x : Int) : ∀ u ∈ [Value.int .i64 x], u.oneCell' = true := by simp [Value.oneCell']
end -- RefO

section -- KitF
open Go.RowKit Go.Maps
set_option linter.unusedVariables false
set_option maxRecDepth 100000
set_option maxHeartbeats 2000000

/-- Append of numbers, however many. -/
theorem app_int_many {ops : Array Oper} {rest : List Oper} {o : Oper} {a : Act} {Q : Exit → Act → World → Prop} {W : World}
    (hgd : o.guard = none) (s x : Operand) (ho : o.op = .call { callee := .builtin .append, args := #[s, x], argTypes := #[33, 33] })
    (base n m : Nat) (v : Value) (l1 l2 : List Int) (hn : l1.length = n) (hm : l2.length = m) (hown : W.ownsRow base 3 1 v n (l1.map (Value.int .i64))) (p : Option Addr) (c : Nat) (hc : 0 < m → ∃ g off, p = some ⟨g, off, none⟩ ∧ ∀ i, i < m → W.cell? ⟨g, off + i, none⟩ = some (.int .i64 (l2.getD i 0)))
    (hs : a.eval s = v) (hx : a.eval x = .slice p m c) (hnm : n + m < 1000000000000) (hbase : base ≤ W.heap.size)
    (h : ∀ p' c' w', w'.ownsRow base 3 1 (.slice p' (n + m) c') (n + m) ((l1 ++ l2).map (Value.int .i64)) → Kept (fun k => v.ownBlock = some k) W w' → (∀ b, (Value.slice p' (n + m) c').ownBlock = some b → v.ownBlock = some b ∨ W.heap.size ≤ b) →
      wpList Try.prog ops Q rest (a.put o.dst (.slice p' (n + m) c')) w') : wpList Try.prog ops Q (o :: rest) a W := by
  by_cases h0 : m = 0
  · subst h0
    obtain rfl : l2 = [] := List.eq_nil_of_length_eq_zero hm
    have hv : ∃ p' c', v = .slice p' n c' := by
      rcases hown.2 with ⟨rfl, hz⟩ | ⟨g, cap, cur, rfl, _⟩
      · exact ⟨none, 0, by rw [hz]⟩
      · exact ⟨_, cap, rfl⟩
    obtain ⟨p', c', rfl⟩ := hv
    have h1 := h p' c' W (by rw [List.append_nil, Nat.add_zero]; exact hown) (Kept.refl _ _) (fun b hb => .inl hb)
    refine app_none 33 3 1 8 (.int .i64 0) Try.underlying33 infoI hgd s x ho base n (.slice p' n c') (l1.map (Value.int .i64)) hs hown p c hx ?_
    exact h1
  · obtain ⟨g, off, rfl, hcc⟩ := hc (by omega)
    obtain ⟨i, hi, hz, hsize, hbytes⟩ := info_parts infoI
    have hown' : W.ownsRow base 3 i.size v n (l1.map (Value.int .i64)) := by rw [hsize]; exact hown
    obtain ⟨g', c', w', hr, h2, h3, h4⟩ := run_app (P := Try.prog) (w := W) base 33 o.type 3 i (.int .i64 0) Try.underlying33 hi hz (by rw [hsize]; rfl) v n (l1.map (Value.int .i64)) hown' g off m c (l2.map (Value.int .i64)) (by simp [hsize, hm]) (by omega) (fun j u hj => by
        have hjm : j < l2.length := by
          have := (List.getElem?_eq_some_iff.1 hj).1
          simpa using this
        rw [add_off, hcc j (by omega)]
        rw [List.getElem?_map, List.getElem?_eq_getElem hjm] at hj
        rw [getI hjm]
        exact hj) (fun v hv => by obtain ⟨x, _, rfl⟩ := List.mem_map.1 hv; rfl) (by omega) (by rw [hbytes]; omega) hbase
    rw [hsize, ← List.map_append] at h2
    refine wpList_plain hgd fun K hK => ?_
    have h5 := h _ c' w' h2 h3 (fun b hb => by
      have e : g' = b := own_is hb
      subst e
      exact h4)
    unfold Oper.wp execOp
    simp only [ho, resolve, invoke, builtin, Sem.run_bind, Sem.run_pure, Result.andThen_ok, List.map_toArray, List.map_cons, List.map_nil, hs, hx, hr]
    exact hK _ _ h5

/-- The marks behind numbers that are lent. -/
def behindI (m : Nat) : List Int := (List.range m).map fun i => ((mkN 1 i : Nat) : Int)
theorem behindI_len (m : Nat) : (behindI m).length = m := by simp [behindI]
theorem behindI_succ (m : Nat) : behindI (m + 1) = behindI m ++ [((mkN 1 m : Nat) : Int)] := by simp [behindI, List.range_succ]

def IntLentAt (w : World) (base : Nat) (v : Value) (xs : List Int) : Prop := ∃ g c, v = .slice (some ⟨g, 0, none⟩) xs.length c ∧ w.ownsRow base 3 1 (.slice (some ⟨g, 0, none⟩) (xs.length + 12) c) (xs.length + 12) ((xs ++ behindI 12).map (Value.int .i64))
section
variable {w w' : World} {base : Nat} {v : Value} {xs : List Int}
theorem IntLentAt.cells (h : IntLentAt w base v xs) : ∃ g c, v = .slice (some ⟨g, 0, none⟩) xs.length c ∧ xs.length + 12 ≤ c ∧ g < w.heap.size ∧ ∀ i, i < xs.length + 12 → w.cell? ⟨g, i, none⟩ = some (.int .i64 ((xs ++ behindI 12).getD i 0)) := by
  obtain ⟨g, c, rfl, h0, h1⟩ := h
  rcases h1 with ⟨e, hz⟩ | ⟨g', cap, cur, e, h2, h3, h4, h5, h6, h7⟩
  · cases e
  · simp only [Value.slice.injEq, Option.some.injEq, Addr.mk.injEq, true_and] at e
    obtain ⟨⟨rfl, _⟩, rfl⟩ := e
    refine ⟨g, c, rfl, h4, (Array.getElem?_eq_some_iff.1 h3).1, fun i hi => ?_⟩
    have hl : i < (xs ++ behindI 12).length := by rw [List.length_append, behindI_len]; exact hi
    have : ((xs ++ behindI 12).map (Value.int .i64))[i]? = some (.int .i64 ((xs ++ behindI 12).getD i 0)) := by
      rw [List.getElem?_map, List.getElem?_eq_getElem hl, getI hl]; rfl
    rw [← h7, List.getElem?_take, if_pos (by omega), Array.getElem?_toList] at this
    rw [cell_of h3, this]
theorem IntLentAt.blk (h : IntLentAt w base v xs) : ∀ b, v.ownBlock = some b → base ≤ b ∧ b < w.heap.size := by
  obtain ⟨g, c, rfl, ho⟩ := h
  exact fun b hb => ho.lt b (by rw [← hb]; rfl)
theorem IntLentAt.kept {S : Nat → Prop} (h : IntLentAt w base v xs) (hk : Kept S w w') (hS : ∀ b, v.ownBlock = some b → ¬ S b) : IntLentAt w' base v xs := by
  obtain ⟨g, c, rfl, ho⟩ := h
  exact ⟨g, c, rfl, ownsRow_keptS ho hk (fun b hb => hS b (by rw [← hb]; rfl))⟩
theorem IntLentAt.below (h : IntLentAt w base v xs) (hb : Below w.heap.size w w') : IntLentAt w' base v xs := h.kept (Kept.below hb) (fun _ _ h => h)
theorem IntLentAt.ints (h : IntLentAt w base v xs) : IntsAt w v xs := by
  obtain ⟨g, c, rfl, h1, h2, h3⟩ := h.cells
  refine ⟨_, c, rfl, by omega, fun h0 => ⟨g, 0, rfl, fun i hi => ?_⟩⟩
  rw [Nat.zero_add, h3 i (by omega), List.getD_eq_getElem?_getD, List.getElem?_append_left hi, ← List.getD_eq_getElem?_getD]
end
end -- KitF

end Go.Proofs.Ytanjchpkekehgaa
