/-
  Walks of the kit: LentInts.
-/
import Derived.Test.YtanjchpkekehgaaGreatMxaw
import Derived.Test.YtanjchpkekehgaaGreatMxbi
namespace Go.Proofs.YtanjchpkekehgaaGreat
open Go.RowKit Go.Maps
set_option linter.unusedVariables false
set_option maxRecDepth 100000
set_option maxHeartbeats 2000000

/-- Append of numbers, however many. -/
theorem app_int_many {ops : Array Oper} {rest : List Oper} {o : Oper} {a : Act} {Q : Exit → Act → World → Prop} {W : World}
    (hgd : o.guard = none) (s x : Operand) (ho : o.op = .call { callee := .builtin .append, args := #[s, x], argTypes := #[23, 23] })
    (base n m : Nat) (v : Value) (l1 l2 : List Int) (hn : l1.length = n) (hm : l2.length = m) (hown : W.ownsRow base 3 1 v n (l1.map (Value.int .i64))) (p : Option Addr) (c : Nat) (hc : 0 < m → ∃ g off, p = some ⟨g, off, none⟩ ∧ ∀ i, i < m → W.cell? ⟨g, off + i, none⟩ = some (.int .i64 (l2.getD i 0)))
    (hs : a.eval s = v) (hx : a.eval x = .slice p m c) (hnm : n + m < 1000000000000) (hbase : base ≤ W.heap.size)
    (h : ∀ p' c' w', w'.ownsRow base 3 1 (.slice p' (n + m) c') (n + m) ((l1 ++ l2).map (Value.int .i64)) → Kept (fun k => v.ownBlock = some k) W w' → (∀ b, (Value.slice p' (n + m) c').ownBlock = some b → v.ownBlock = some b ∨ W.heap.size ≤ b) →
      wpList Tryz.prog ops Q rest (a.put o.dst (.slice p' (n + m) c')) w') : wpList Tryz.prog ops Q (o :: rest) a W := by
  by_cases h0 : m = 0
  · subst h0
    obtain rfl : l2 = [] := List.eq_nil_of_length_eq_zero hm
    have hv : ∃ p' c', v = .slice p' n c' := by
      rcases hown.2 with ⟨rfl, hz⟩ | ⟨g, cap, cur, rfl, _⟩
      · exact ⟨none, 0, by rw [hz]⟩
      · exact ⟨_, cap, rfl⟩
    obtain ⟨p', c', rfl⟩ := hv
    have h1 := h p' c' W (by rw [List.append_nil, Nat.add_zero]; exact hown) (Kept.refl _ _) (fun b hb => .inl hb)
    refine app_none 23 3 1 8 (.int .i64 0) Tryz.underlying23 infoI hgd s x ho base n (.slice p' n c') (l1.map (Value.int .i64)) hs hown p c hx ?_
    exact h1
  · obtain ⟨g, off, rfl, hcc⟩ := hc (by omega)
    obtain ⟨i, hi, hz, hsize, hbytes⟩ := info_parts infoI
    have hown' : W.ownsRow base 3 i.size v n (l1.map (Value.int .i64)) := by rw [hsize]; exact hown
    obtain ⟨g', c', w', hr, h2, h3, h4⟩ := run_app (P := Tryz.prog) (w := W) base 23 o.type 3 i (.int .i64 0) Tryz.underlying23 hi hz (by rw [hsize]; rfl) v n (l1.map (Value.int .i64)) hown' g off m c (l2.map (Value.int .i64)) (by simp [hsize, hm]) (by omega) (fun j u hj => by
        have hjm : j < l2.length := by
          have := (List.getElem?_eq_some_iff.1 hj).1
          simpa using this
        rw [add_off, hcc j (by omega)]
        rw [List.getElem?_map, List.getElem?_eq_getElem hjm] at hj
        rw [getI hjm]
        exact hj) (fun v hv => by obtain ⟨x, _, rfl⟩ := List.mem_map.1 hv; rfl) (by omega) (by rw [hbytes]; omega) hbase
    rw [hsize, ← List.map_append] at h2
    refine wpList_plain hgd fun K hK => ?_
    have h5 := h _ c' w' h2 h3 (fun b hb => by
      have e : g' = b := own_is hb
      subst e
      exact h4)
    unfold Oper.wp execOp
    simp only [ho, resolve, invoke, builtin, Sem.run_bind, Sem.run_pure, Result.andThen_ok, List.map_toArray, List.map_cons, List.map_nil, hs, hx, hr]
    exact hK _ _ h5

/-- The marks behind numbers that are lent. -/
def behindI (m : Nat) : List Int := (List.range m).map fun i => ((mkN 1 i : Nat) : Int)
theorem behindI_len (m : Nat) : (behindI m).length = m := by simp [behindI]
theorem behindI_succ (m : Nat) : behindI (m + 1) = behindI m ++ [((mkN 1 m : Nat) : Int)] := by simp [behindI, List.range_succ]

def IntLentAt (w : World) (base : Nat) (v : Value) (xs : List Int) : Prop := ∃ g c, v = .slice (some ⟨g, 0, none⟩) xs.length c ∧ w.ownsRow base 3 1 (.slice (some ⟨g, 0, none⟩) (xs.length + 12) c) (xs.length + 12) ((xs ++ behindI 12).map (Value.int .i64))
section
variable {w w' : World} {base : Nat} {v : Value} {xs : List Int}
theorem IntLentAt.cells (h : IntLentAt w base v xs) : ∃ g c, v = .slice (some ⟨g, 0, none⟩) xs.length c ∧ xs.length + 12 ≤ c ∧ g < w.heap.size ∧ ∀ i, i < xs.length + 12 → w.cell? ⟨g, i, none⟩ = some (.int .i64 ((xs ++ behindI 12).getD i 0)) := by
  obtain ⟨g, c, rfl, h0, h1⟩ := h
  rcases h1 with ⟨e, hz⟩ | ⟨g', cap, cur, e, h2, h3, h4, h5, h6, h7⟩
  · cases e
  · simp only [Value.slice.injEq, Option.some.injEq, Addr.mk.injEq, true_and] at e
    obtain ⟨⟨rfl, _⟩, rfl⟩ := e
    refine ⟨g, c, rfl, h4, (Array.getElem?_eq_some_iff.1 h3).1, fun i hi => ?_⟩
    have hl : i < (xs ++ behindI 12).length := by rw [List.length_append, behindI_len]; exact hi
    have : ((xs ++ behindI 12).map (Value.int .i64))[i]? = some (.int .i64 ((xs ++ behindI 12).getD i 0)) := by
      rw [List.getElem?_map, List.getElem?_eq_getElem hl, getI hl]; rfl
    rw [← h7, List.getElem?_take, if_pos (by omega), Array.getElem?_toList] at this
    rw [cell_of h3, this]
theorem IntLentAt.blk (h : IntLentAt w base v xs) : ∀ b, v.ownBlock = some b → base ≤ b ∧ b < w.heap.size := by
  obtain ⟨g, c, rfl, ho⟩ := h
  exact fun b hb => ho.lt b (by rw [← hb]; rfl)
theorem IntLentAt.kept {S : Nat → Prop} (h : IntLentAt w base v xs) (hk : Kept S w w') (hS : ∀ b, v.ownBlock = some b → ¬ S b) : IntLentAt w' base v xs := by
  obtain ⟨g, c, rfl, ho⟩ := h
  exact ⟨g, c, rfl, ownsRow_keptS ho hk (fun b hb => hS b (by rw [← hb]; rfl))⟩
theorem IntLentAt.below (h : IntLentAt w base v xs) (hb : Below w.heap.size w w') : IntLentAt w' base v xs := h.kept (Kept.below hb) (fun _ _ h => h)
theorem IntLentAt.ints (h : IntLentAt w base v xs) : IntsAt w v xs := by
  obtain ⟨g, c, rfl, h1, h2, h3⟩ := h.cells
  refine ⟨_, c, rfl, by omega, fun h0 => ⟨g, 0, rfl, fun i hi => ?_⟩⟩
  rw [Nat.zero_add, h3 i (by omega), List.getD_eq_getElem?_getD, List.getElem?_append_left hi, ← List.getD_eq_getElem?_getD]
end

theorem lentI_any (w : World) (v : Value) (xs : List Int) (hv : IntsAt w v xs) (hl : xs.length ≤ 1000000) :
    Calls Tryz.prog 9 #[v] w fun e w' => ∃ v', e = .returned v' ∧ IntLentAt w' w.heap.size v' xs ∧ Below w.heap.size w w' := by
  obtain ⟨p, c, rfl, hcap0, hh⟩ := hv
  have HH := Lib.hid hh
  obtain ⟨n, hn⟩ : ∃ n, xs.length = n := ⟨_, rfl⟩
  rw [hn] at HH hl hcap0 ⊢
  have HN := Lib.hid hn
  have hmk := run_make_cap (w := w) 23 3 (.int .i64 0) 8 Tryz.underlying23 infoI rfl (by omega) (n + 12) (by omega)
  rw [show ((n + 12 : Nat) : Int) = (n : Int) + 12 by omega] at hmk
  have HO := Lib.hid (show (w.alloc (.cells (Array.replicate (n + 12) (.int .i64 0)) 3)).ownsRow w.heap.size 3 1 (.slice (some ⟨w.heap.size, 0, none⟩) 0 (n + 12)) 0 (([] : List Int).map (Value.int .i64)) from ⟨rfl, .inr ⟨w.heap.size, n + 12, _, rfl, Nat.le_refl _, heap_alloc_new w _, by omega, by unfold maxLen; omega, by simp, by simp⟩⟩)
  have HA := Lib.hid (bal' w (.cells (Array.replicate (n + 12) (.int .i64 0)) 3))
  have HSA := Lib.hid (show (w.alloc (.cells (Array.replicate (n + 12) (.int .i64 0)) 3)).heap.size = w.heap.size + 1 by simp)
  have HC := Lib.hid (show 0 < n → ∃ g off, p = some ⟨g, off, none⟩ ∧ ∀ i, i < n → (w.alloc (.cells (Array.replicate (n + 12) (.int .i64 0)) 3)).cell? ⟨g, off + i, none⟩ = some (.int .i64 (xs.getD i 0)) from fun h0 => by
    obtain ⟨g, off, e, hc⟩ := HH.out h0
    exact ⟨g, off, e, fun i hi => (HA.out.cell (p := ⟨g, off + i, none⟩) (blt (hc i hi))).trans (hc i hi)⟩)
  clear hh hn
  go_enter Tryz.func9, Tryz.ntmps9
  go_wp2_with (at_builtin; refine app_int_many rfl _ _ rfl w.heap.size 0 n _ [] xs rfl HN.out HO.out p _ HC.out rfl rfl (by omega) (by rw [HSA.out]; omega) ?_; intro p6 c6 w6 hR6 hk6 hg6)
  have HO6 := Lib.hid hR6
  have HB6 := Lib.hid (HA.out.trans ⟨hk6.os, hk6.tape, hk6.output, hk6.size, fun i hi => hk6.block i (by rw [HSA.out]; omega) (fun e => by have e2 : w.heap.size = i := own_is e; omega)⟩)
  clear hR6 hk6 hg6 hmk
  go_loopw [3, 4] (fun v i wr => ∃ k : Nat, k ≤ 12 ∧ i = .int .i64 (k : Int) ∧ wr.ownsRow w.heap.size 3 1 v (n + k) ((xs ++ behindI k).map (Value.int .i64)) ∧ Below w.heap.size w wr) (fun _ i _ => 12 - (intOf i).toNat)
  case atStart => exact ⟨0, by omega, rfl, by have h := HO6.out; rw [Nat.zero_add] at h; rw [show behindI 0 = [] from rfl, List.append_nil]; exact h, HB6.out⟩
  case round =>
    obtain ⟨k, hk, rfl, ho, hB⟩ := hrel
    have HOV := Lib.hid ho
    have HBR := Lib.hid hB
    have hsr := hB.size
    by_cases hlt : k < 12
    · have HS := Lib.hid (show (xs ++ behindI k).map (Value.int .i64) ++ [.int .i64 ((mkN 1 k : Nat) : Int)] = (xs ++ behindI (k + 1)).map (Value.int .i64) by rw [behindI_succ, ← List.append_assoc]; simp)
      have HM := Lib.hid (mark_any wr 1 k (by omega) (by omega))
      obtain ⟨y, hy⟩ : ∃ y, mkN 1 k = y := ⟨_, rfl⟩
      rw [hy] at HM HS
      clear ho hB hy
      go_wp2_with fail
      refine HM.out.mono ?_
      rintro e w5 ⟨rfl, rfl⟩
      go_wp2_with (at_builtin; refine app_el 23 3 1 8 (.int .i64 0) Tryz.underlying23 infoI rfl (by decide) rfl _ _ rfl w.heap.size (n + k) _ _ rfl HOV.out [.int .i64 (y : Int)] rfl (one_int y) rfl (by omega) hsr ?_; intro g' c' w6 hR6 hk6 hs6 hg6)
      go_roundw
      case rel =>
        refine ⟨k + 1, by omega, by go_num, by rw [← HS.out]; exact hR6, HBR.out.trans (hk6.toBelow hsr (fun i hi => (HOV.out.lt i hi).1))⟩
      case measure => simp [intOf]; omega
    · obtain rfl : k = 12 := by omega
      have ho2 := ho.2
      rcases ho2 with ⟨e, hz⟩ | ⟨g, cv, cur, e, hg, h3, h4, h5, h6, h7⟩
      · omega
      · subst e
        have HF := Lib.hid (show IntLentAt wr w.heap.size (.slice (some ⟨g, 0, none⟩) n cv) xs from ⟨g, cv, by rw [HN.out], by rw [HN.out]; exact HOV.out⟩)
        clear ho hB h3 h5 h6 h7
        go_wp2
        go_ret
        exact ⟨_, rfl, HF.out, HBR.out⟩

end Go.Proofs.YtanjchpkekehgaaGreat
