/-
  CodeLb: Walks of layer 4 (lagr): weights.
  CodeO: Rows of bytes that a call owns, each in its place; they grow by append.
  CodeLc: Walks of layer 4 (lagr): Table; code.New.
-/
import Derived.Test.YtibelpamolcmcaaMxaf
import Derived.Test.YtibelpamolcmcaaQuietTail
import Derived.Deep.RegionWith
import Derived.Test.YtibelpamolcmcaaMxad
namespace Go.Proofs.Ytibelpamolcmcaa

section -- CodeLb
open Go.RowKit Go.Maps
set_option linter.unusedVariables false
set_option maxRecDepth 100000
set_option maxHeartbeats 2000000

theorem replicate_set_unit {n k : Nat} (h : k < n) : (List.replicate n (0 : B)).set k 1 = (List.replicate n 0).set k 1 := rfl

/-- The first k are worked out. -/
def partW (xs : List B) (x : B) (k : Nat) : List B := (wtsL xs x).take k ++ List.replicate (xs.length - k) 0
theorem partW_len (xs : List B) (x : B) {k : Nat} (h : k ≤ xs.length) : (partW xs x k).length = xs.length := by
  simp [partW, wtsL_len]; omega
theorem partW_set (xs : List B) (x : B) {k : Nat} (h : k < xs.length) : (partW xs x k).set k (lag xs k x) = partW xs x (k + 1) := by
  have hl : ((wtsL xs x).take k).length = k := by simp [wtsL_len]; omega
  unfold partW
  rw [List.set_append_right _ _ (by omega), hl, Nat.sub_self, show xs.length - k = (xs.length - (k + 1)) + 1 by omega, List.replicate_succ, List.set_cons_zero,
    List.take_succ_eq_append_getElem (by rw [wtsL_len]; exact h), List.append_assoc]
  congr 1
  simp [wtsL]
theorem partW_all (xs : List B) (x : B) : partW xs x xs.length = wtsL xs x := by
  unfold partW
  rw [List.take_of_length_le (by rw [wtsL_len]; exact Nat.le_refl _)]; simp
end -- CodeLb

section -- CodeO
open Go.RowKit Go.Maps
set_option linter.unusedVariables false

/-- Rows that are owned: the outer cells; what each reads as; none lies in the outer block. -/
def RowsOwn (w : World) (base : Nat) (v : Value) (ls : List (List B)) : Prop := ∃ us, w.ownsRow base 32 1 v ls.length us ∧
  ∀ i u, us[i]? = some u → BytesAt w u (ls.getD i []) ∧ ∀ b, u.ownBlock = some b → b < w.heap.size ∧ v.ownBlock ≠ some b

theorem RowsOwn.nil (w : World) (base : Nat) : RowsOwn w base (.slice none 0 0) [] := ⟨[], World.ownsRow_nil _ _ _ _, fun i u h => by simp at h⟩
theorem RowsOwn.rows {w : World} {base : Nat} {v : Value} {ls : List (List B)} (h : RowsOwn w base v ls) : RowsAt w v ls := by
  obtain ⟨us, h1, h2⟩ := h
  exact RowsAt.of_owns h1 (fun i u hi => (h2 i u hi).1)
theorem RowsOwn.kept {S : Nat → Prop} {w w' : World} {base : Nat} {v : Value} {ls : List (List B)} (h : RowsOwn w base v ls) (hk : Kept S w w') (hS : ∀ k, k < w.heap.size → base ≤ k → ¬ S k) (hu : ∀ k, k < w.heap.size → ¬ S k) : RowsOwn w' base v ls := by
  obtain ⟨us, h1, h2⟩ := h
  refine ⟨us, ownsRow_keptS h1 hk (fun g hg => hS g (h1.lt g hg).2 (h1.lt g hg).1), fun i u hi => ⟨(h2 i u hi).1.kept hk hu, fun b hb => ?_⟩⟩
  have := (h2 i u hi).2 b hb
  exact ⟨Nat.lt_of_lt_of_le this.1 hk.size, this.2⟩
theorem RowsOwn.below {w w' : World} {base : Nat} {v : Value} {ls : List (List B)} (h : RowsOwn w base v ls) (hb : Below w.heap.size w w') : RowsOwn w' base v ls := h.kept (Kept.below hb) (fun _ _ _ h => h) (fun _ _ h => h)
theorem RowsOwn.lt {w : World} {base : Nat} {v : Value} {ls : List (List B)} (h : RowsOwn w base v ls) : ∀ k, v.ownBlock = some k → base ≤ k ∧ k < w.heap.size := by
  obtain ⟨us, h1, _⟩ := h
  exact h1.lt

theorem RowsOwn.weaken {w : World} {base base' : Nat} {v : Value} {ls : List (List B)} (h : RowsOwn w base v ls) (hb : base' ≤ base) : RowsOwn w base' v ls := by
  obtain ⟨us, h1, h2⟩ := h
  exact ⟨us, ownsRow_weaken h1 hb, h2⟩
theorem own_is {g o b len cap : Nat} (hb : (Value.slice (some ⟨g, o, none⟩) len cap).ownBlock = some b) : g = b := by simpa [Value.ownBlock] using hb
theorem RowsAt.shape {w : World} {v : Value} {ls : List (List B)} (h : RowsAt w v ls) : ∃ p c, v = .slice p ls.length c := by
  obtain ⟨p, c, e, _⟩ := h
  exact ⟨p, c, e⟩
theorem BytesAt.shape {w : World} {v : Value} {l : List B} (h : BytesAt w v l) : ∃ p c, v = .slice p l.length c := by
  obtain ⟨p, c, e, _⟩ := h
  exact ⟨p, c, e⟩
end -- CodeO

section -- CodeLc
open Go.RowKit Go.Maps
set_option linter.unusedVariables false
set_option maxRecDepth 100000
set_option maxHeartbeats 2000000

/-- The weights of the first n bytes by the first k. -/
def tblL (k n : Nat) : List (List B) := (List.range n).map fun i => wtsL (ptsL k) (ofB i)
theorem tblL_len (k n : Nat) : (tblL k n).length = n := by simp [tblL]
theorem tblL_succ (k n : Nat) : tblL k (n + 1) = tblL k n ++ [wtsL (ptsL k) (ofB n)] := by simp [tblL, List.range_succ]
theorem ptsL_succ (k : Nat) : ptsL (k + 1) = ptsL k ++ [ofB k] := by simp [ptsL, List.range_succ]
theorem ofB_v {k : Nat} (h : k < 256) : (ofB k).v = k := by simp only [ofB]; omega
theorem tblL_get {k n i : Nat} (h : i < n) : (tblL k n).getD i [] = wtsL (ptsL k) (ofB i) := getD_range _ _ h

section
variable {w w' : World} {bc n k bf : Nat} {vt : Value}
end
end -- CodeLc

end Go.Proofs.Ytibelpamolcmcaa
