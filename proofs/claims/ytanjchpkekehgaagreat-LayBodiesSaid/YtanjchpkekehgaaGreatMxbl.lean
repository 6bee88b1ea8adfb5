/-
  RefN: Walks of the reference, layer 5 (code): Turn.
  CodeGb: What the laws of layer 5 use: bytesOf.
-/
import Derived.Test.YtanjchpkekehgaaGreatMxbk
import Derived.Test.YtanjchpkekehgaaGreatMxbh
namespace Go.Proofs.YtanjchpkekehgaaGreat

section -- RefN
open Go.RowKit Go.Maps
set_option linter.unusedVariables false
set_option maxRecDepth 100000
set_option maxHeartbeats 4000000

theorem idxB_snoc {m : Nat} {xs : List Int} (h : m < xs.length) : idxB (xs.take m) ++ [ofB (xs.getD m 0).toNat] = idxB (xs.take (m + 1)) := by
  rw [take_snocI h]; simp [idxB]
theorem turnL_len (k : Nat) (ys : List B) : (turnL k ys).length = k := by simp [turnL]
theorem turnL_succ (k : Nat) (ys : List B) : turnL (k + 1) ys = turnL k ys ++ [wtsL ys (ofB k)] := by simp [turnL, List.range_succ]
end -- RefN

section -- CodeGb
open Go.RowKit Go.Maps
set_option linter.unusedVariables false
set_option maxRecDepth 100000
set_option maxHeartbeats 2000000

/-- Append of one row's header; only memory bounds it. -/
theorem app_head {ops : Array Oper} {rest : List Oper} {o : Oper} {a : Act} {Q : Exit → Act → World → Prop} {W : World}
    (hgd : o.guard = none) (s x : Operand) (ho : o.op = .call { callee := .builtin .append, args := #[s, x], argTypes := #[22, 22] })
    (base n : Nat) (v : Value) (us : List Value) (hs : a.eval s = v) (hown : W.ownsRow base 50 1 v n us) (u : Value) (h1 : u.oneCell' = true)
    (hx : a.eval x = .slice (some ⟨W.heap.size, 0, none⟩) 1 1) (hn : n < 5000000000000) (hbase : base ≤ W.heap.size)
    (h : ∀ g' c' w', w'.ownsRow base 50 1 (.slice (some ⟨g', 0, none⟩) (n + 1) c') (n + 1) (us ++ [u]) → Kept (fun k => v.ownBlock = some k) W w' → W.heap.size < w'.heap.size → (v.ownBlock = some g' ∨ W.heap.size < g') →
      wpList Tryz.prog ops Q rest (a.put o.dst (.slice (some ⟨g', 0, none⟩) (n + 1) c')) w') : wpList Tryz.prog ops Q (o :: rest) a (W.alloc (.cells #[u] 50)) := by
  obtain ⟨i, hi, hz, hsize, hbytes⟩ := info_parts infoR
  rw [← hsize] at hown
  obtain ⟨g', c', w', hr, h2, h3, h4⟩ := run_app (P := Tryz.prog) (w := W.alloc (.cells #[u] 50)) base 22 o.type 50 i (.slice none 0 0) Tryz.underlying22 hi hz (by rw [hsize]; rfl) v n us (hown.alloc _) W.heap.size 0 1 1 [u] (by simp [hsize]) (by omega) (fun j y hj => by
      rw [add_zero_off]
      exact (World.cell?_alloc_new W _ _ j).trans (by simpa using hj)) (by simpa using h1) (by omega) (by rw [hbytes]; omega) (by simp; omega)
  rw [hsize] at h2
  refine wpList_plain hgd fun K hK => ?_
  have h5 := h g' c' w' h2 ⟨h3.os, h3.tape, h3.output, Nat.le_trans (by simp) h3.size, fun k hk hn => (h3.block k (by simp; omega) hn).trans (Below.heap_alloc W _ k hk)⟩
    (Nat.lt_of_lt_of_le (by simp) h3.size) (h4.imp id (fun q => by simp at q; omega))
  unfold Oper.wp execOp
  simp only [ho, resolve, invoke, builtin, Sem.run_bind, Sem.run_pure, Result.andThen_ok, List.map_toArray, List.map_cons, List.map_nil, hs, hx, hr]
  exact hK _ _ h5

theorem bytesOf_any (w : World) (v : Value) (hs : List (Int × List B)) (hv : HeldAt w v hs) (hl : hs.length ≤ 4500000000000) :
    Calls Tryz.prog 16 #[v] w fun e w' => ∃ v, e = .returned v ∧ RowsIn w w' v (hRow hs) ∧ Below w.heap.size w w' := by
  obtain ⟨p, cap, rfl, hcap, hh⟩ := hv
  have HH := Lib.hid hh
  clear hh
  go_enter Tryz.func16, Tryz.ntmps16
  go_wp2
  go_loopw [3, 4] (fun v i wr => ∃ m : Nat, m ≤ hs.length ∧ i = .int .i64 (m : Int) ∧ RowsIn w wr v (hRow (hs.take m)) ∧ Below w.heap.size w wr) (fun _ i _ => hs.length - (intOf i).toNat)
  case atStart => exact ⟨0, Nat.zero_le _, rfl, ⟨[], World.ownsRow_nil _ _ _ _, fun i z h => by simp at h⟩, Below.refl _ _⟩
  case round =>
    obtain ⟨m, hm, rfl, hr, hB⟩ := hrel
    have HR := Lib.hid hr
    have HB := Lib.hid hB
    have hsr := hB.size
    clear hr
    by_cases hlt : m < hs.length
    · obtain ⟨gh, oh, rfl, hhc⟩ := HH.out (by omega)
      obtain ⟨x1, u, x2, x3⟩ := hhc m hlt
      obtain ⟨pu, cu, rfl⟩ := x3.shape
      obtain ⟨lm, hlm⟩ : ∃ lm, (hs.getD m (0, [])).2.length = lm := ⟨_, rfl⟩
      rw [hlm] at x2
      have HX3 := Lib.hid x3
      have HLM := Lib.hid hlm
      have y2 := (hB.cell (p := ⟨gh, oh + m * 2 + 1, none⟩) (blt x2)).trans x2
      have HS := Lib.hid (hRow_snoc hlt)
      obtain ⟨us, ho, hz⟩ := HR.out
      have hul : (hRow (hs.take m)).length = m := by simp [hRow]; omega
      rw [hul] at ho
      have HO := Lib.hid ho
      have HZ := Lib.hid hz
      clear x1 x2 x3 hhc hB hlm ho hz hul
      go_wp2_with (at_builtin; refine app_head rfl _ _ rfl w.heap.size m _ us rfl HO.out _ rfl rfl (by omega) hsr ?_; intro g' c' w6 hR6 hk6 hs6 hg6)
      go_roundw
      case rel =>
        refine ⟨m + 1, by omega, by go_num, ?_, HB.out.trans (hk6.toBelow (by omega) (fun i h => (HO.out.lt i h).1))⟩
        rw [← HS.out]
        exact rowsIn_snoc (by simp [hRow]; omega) (by have := HO.out.1; omega) HZ.out (by rw [← HLM.out]; exact HX3.out) hR6
      case measure => simp [intOf]; omega
    · obtain rfl : m = hs.length := by omega
      have hr := HR.out
      rw [List.take_length] at hr
      have HR2 := Lib.hid hr
      clear hr
      go_wp2
      go_ret
      exact ⟨_, rfl, HR2.out, HB.out⟩
end -- CodeGb

end Go.Proofs.YtanjchpkekehgaaGreat
