/-
  RefN: Walks of the reference, layer 5 (code): Turn.
  CodeGb: What the laws of layer 5 use: bytesOf.
-/
import Derived.Test.YtanjchpkekehgaaMxbk
import Derived.Test.YtanjchpkekehgaaMxbh
namespace Go.Proofs.Ytanjchpkekehgaa

section -- RefN
open Go.RowKit Go.Maps
set_option linter.unusedVariables false
set_option maxRecDepth 100000
set_option maxHeartbeats 4000000

theorem idxB_snoc {m : Nat} {xs : List Int} (h : m < xs.length) : idxB (xs.take m) ++ [ofB (xs.getD m 0).toNat] = idxB (xs.take (m + 1)) := by
  rw [take_snocI h]; simp [idxB]
theorem turnL_len (k : Nat) (ys : List B) : (turnL k ys).length = k := by simp [turnL]
theorem turnL_succ (k : Nat) (ys : List B) : turnL (k + 1) ys = turnL k ys ++ [wtsL ys (ofB k)] := by simp [turnL, List.range_succ]
end -- RefN

section -- CodeGb
open Go.RowKit Go.Maps
set_option linter.unusedVariables false
set_option maxRecDepth 100000
set_option maxHeartbeats 2000000

/-- Append of one row's header; only memory bounds it. -/
theorem app_head {ops : Array Oper} {rest : List Oper} {o : Oper} {a : Act} {Q : Exit → Act → World → Prop} {W : World}
    (hgd : o.guard = none) (s x : Operand) (ho : o.op = .call { callee := .builtin .append, args := #[s, x], argTypes := #[32, 32] })
    (base n : Nat) (v : Value) (us : List Value) (hs : a.eval s = v) (hown : W.ownsRow base 37 1 v n us) (u : Value) (h1 : u.oneCell' = true)
    (hx : a.eval x = .slice (some ⟨W.heap.size, 0, none⟩) 1 1) (hn : n < 5000000000000) (hbase : base ≤ W.heap.size)
    (h : ∀ g' c' w', w'.ownsRow base 37 1 (.slice (some ⟨g', 0, none⟩) (n + 1) c') (n + 1) (us ++ [u]) → Kept (fun k => v.ownBlock = some k) W w' → W.heap.size < w'.heap.size → (v.ownBlock = some g' ∨ W.heap.size < g') →
      wpList Try.prog ops Q rest (a.put o.dst (.slice (some ⟨g', 0, none⟩) (n + 1) c')) w') : wpList Try.prog ops Q (o :: rest) a (W.alloc (.cells #[u] 37)) := by
  obtain ⟨i, hi, hz, hsize, hbytes⟩ := info_parts infoR
  rw [← hsize] at hown
  obtain ⟨g', c', w', hr, h2, h3, h4⟩ := run_app (P := Try.prog) (w := W.alloc (.cells #[u] 37)) base 32 o.type 37 i (.slice none 0 0) Try.underlying32 hi hz (by rw [hsize]; rfl) v n us (hown.alloc _) W.heap.size 0 1 1 [u] (by simp [hsize]) (by omega) (fun j y hj => by
      rw [add_zero_off]
      exact (World.cell?_alloc_new W _ _ j).trans (by simpa using hj)) (by simpa using h1) (by omega) (by rw [hbytes]; omega) (by simp; omega)
  rw [hsize] at h2
  refine wpList_plain hgd fun K hK => ?_
  have h5 := h g' c' w' h2 ⟨h3.os, h3.tape, h3.output, Nat.le_trans (by simp) h3.size, fun k hk hn => (h3.block k (by simp; omega) hn).trans (Below.heap_alloc W _ k hk)⟩
    (Nat.lt_of_lt_of_le (by simp) h3.size) (h4.imp id (fun q => by simp at q; omega))
  unfold Oper.wp execOp
  simp only [ho, resolve, invoke, builtin, Sem.run_bind, Sem.run_pure, Result.andThen_ok, List.map_toArray, List.map_cons, List.map_nil, hs, hx, hr]
  exact hK _ _ h5
end -- CodeGb

end Go.Proofs.Ytanjchpkekehgaa
