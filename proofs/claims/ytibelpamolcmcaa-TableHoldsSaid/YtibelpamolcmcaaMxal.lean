/-
  CodeQb: Walks of layer 5 (code): there, right, Encode, Symbol.
  CodeTa: Walk of layer 5 (code): Turn.
  CodeTb: Held symbols; walk of layer 5 (code): Decode.
-/
import Derived.Test.YtibelpamolcmcaaMxai
import Derived.Test.YtibelpamolcmcaaMxak
import Derived.Deep.RegionHeld3
import Derived.Deep.RegionLaw
namespace Go.Proofs.Ytibelpamolcmcaa

section -- CodeQb
open Go.RowKit Go.Maps
set_option linter.unusedVariables false
set_option maxRecDepth 100000
set_option maxHeartbeats 2000000

/-- Are rows as long as the first one? -/
def evenB (ls : List (List B)) : Bool := ls.all fun l => l.length == (ls.getD 0 []).length

def SomeIdx (b : Bool) (w : World) (e : Ending) (w' : World) : Prop := ∃ r : Int, e = .returned (.int .i64 r) ∧ decide (0 ≤ r) = b ∧ w = w'

theorem encL_len (n k : Nat) (ls : List (List B)) (wide : Nat) : (encL n k ls wide).length = n := by simp [encL]
theorem encL_succ (n k : Nat) (ls : List (List B)) (wide : Nat) : encL (n + 1) k ls wide = encL n k ls wide ++ [mixL (wtsL (ptsL k) (ofB n)) ls wide] := by simp [encL, List.range_succ]
theorem evenB_of {ls : List (List B)} {wide : Nat} (h : ∀ i, i < ls.length → (ls.getD i []).length = wide) : evenB ls = true := by
  unfold evenB
  rw [List.all_eq_true]
  intro l hl
  obtain ⟨j, hj, rfl⟩ := List.mem_iff_getElem.1 hl
  have h1 := h j hj
  have h0 := h 0 (by omega)
  rw [List.getD_eq_getElem?_getD, List.getElem?_eq_getElem hj] at h1
  simp only [Option.getD_some] at h1
  simp only [beq_iff_eq]
  rw [h1, h0]
end -- CodeQb

section -- CodeTa
open Go.RowKit Go.Maps
set_option linter.unusedVariables false
set_option maxRecDepth 100000
set_option maxHeartbeats 2000000

/-- Indexes as bytes; their rows of the table. -/
def idxB (xs : List Int) : List B := xs.map fun x => ofB x.toNat
def someL (k : Nat) (xs : List Int) : List (List B) := xs.map fun x => wtsL (ptsL k) (ofB x.toNat)
theorem someL_len (k : Nat) (xs : List Int) : (someL k xs).length = xs.length := by simp [someL]
theorem idxB_len (xs : List Int) : (idxB xs).length = xs.length := by simp [idxB]
theorem someL_snoc {k m : Nat} {xs : List Int} (h : m < xs.length) : someL k (xs.take m) ++ [wtsL (ptsL k) (ofB (xs.getD m 0).toNat)] = someL k (xs.take (m + 1)) := by
  rw [← int_snoc h]; simp [someL]
theorem someL_get {k r : Nat} {xs : List Int} (h : r < xs.length) : (someL k xs).getD r [] = wtsL (ptsL k) ((idxB xs).getD r 0) := by
  simp [someL, idxB, List.getD_eq_getElem?_getD, List.getElem?_eq_getElem h]
theorem someL_lsM {k r c : Nat} {xs : List Int} (h : r < xs.length) (hc : c < k) : lsM (someL k xs) r c = lag (ptsL k) c ((idxB xs).getD r 0) := by
  unfold lsM
  rw [someL_get h, wtsL_get (by rw [ptsL_len]; exact hc)]

structure AskOk (n k : Nat) (xs : List Int) : Prop where
  range : ∀ x ∈ xs, 0 ≤ x ∧ x < n
  nodup : xs.Nodup
  len : k ≤ xs.length
theorem askE_zero {n k : Nat} {xs : List Int} (h : askE n k xs = 0) : AskOk n k xs := by
  unfold askE at h
  by_cases h1 : xs.all (fun x => decide (0 ≤ x) && decide (x < n)) = true
  · rw [if_pos h1] at h
    by_cases h2 : xs.Nodup
    · rw [if_pos h2] at h
      by_cases h3 : xs.length < k
      · rw [if_pos h3] at h; cases h
      · refine ⟨fun x hx => ?_, h2, by omega⟩
        have := List.all_eq_true.1 h1 x hx
        simpa using this
    · rw [if_neg h2] at h; cases h
  · rw [if_neg h1] at h; cases h
theorem askE_ok {n k : Nat} {xs : List Int} (h : AskOk n k xs) : askE n k xs = 0 := by
  unfold askE
  rw [if_pos (List.all_eq_true.2 fun x hx => by have := h.range x hx; simp; omega), if_pos h.nodup, if_neg (by have := h.len; omega)]
theorem AskOk.getD {n k : Nat} {xs : List Int} (h : AskOk n k xs) {m : Nat} (hm : m < xs.length) : 0 ≤ xs.getD m 0 ∧ xs.getD m 0 < n := by
  rw [List.getD_eq_getElem?_getD, List.getElem?_eq_getElem hm]
  exact h.range _ (List.getElem_mem hm)
theorem idxB_nodup {n k : Nat} {xs : List Int} (h : AskOk n k xs) (hn : n ≤ 255) (m : Nat) : (idxB (xs.take m)).Nodup := by
  have e : idxB (xs.take m) = ((xs.take m).map Int.toNat).map ofB := by unfold idxB; rw [List.map_map]; rfl
  rw [e]
  refine map_ofB_nodup (fun i hi => ?_) ?_
  · obtain ⟨x, hx, rfl⟩ := List.mem_map.1 hi
    have := h.range x (List.mem_of_mem_take hx)
    omega
  · rw [List.nodup_iff_pairwise_ne, List.pairwise_map]
    have hnd : (xs.take m).Nodup := h.nodup.sublist (List.take_sublist m xs)
    exact (List.nodup_iff_pairwise_ne.1 hnd).imp_of_mem (fun ha hb hne e => hne (by
      have h1 := h.range _ (List.mem_of_mem_take ha)
      have h2 := h.range _ (List.mem_of_mem_take hb)
      omega))
end -- CodeTa

section -- CodeTb
open Go.RowKit Go.Maps
set_option linter.unusedVariables false
set_option maxRecDepth 100000
set_option maxHeartbeats 4000000

/-- A slice reads as held symbols. -/
def HeldAt (w : World) (v : Value) (hs : List (Int × List B)) : Prop := ∃ p cap, v = .slice p hs.length cap ∧ hs.length ≤ cap ∧ (0 < hs.length → ∃ g off, p = some ⟨g, off, none⟩ ∧ ∀ i, i < hs.length →
  w.cell? ⟨g, off + i * 2, none⟩ = some (.int .i64 (hs.getD i (0, [])).1) ∧ ∃ u, w.cell? ⟨g, off + i * 2 + 1, none⟩ = some u ∧ BytesAt w u (hs.getD i (0, [])).2)
theorem HeldAt.kept {S : Nat → Prop} {w w' : World} {v : Value} {hs : List (Int × List B)} (h : HeldAt w v hs) (hk : Kept S w w') (hS : ∀ k, k < w.heap.size → ¬ S k) : HeldAt w' v hs := by
  obtain ⟨p, cap, rfl, hcap, hh⟩ := h
  refine ⟨p, cap, rfl, hcap, fun hl => ?_⟩
  obtain ⟨g, off, rfl, hc⟩ := hh hl
  have hlt := blt (hc 0 hl).1
  refine ⟨g, off, rfl, fun i hi => ?_⟩
  obtain ⟨a, u, b, c⟩ := hc i hi
  exact ⟨(hk.cell (p := ⟨g, off + i * 2, none⟩) hlt (hS g hlt)).trans a, u, (hk.cell (p := ⟨g, off + i * 2 + 1, none⟩) hlt (hS g hlt)).trans b, c.kept hk hS⟩
theorem HeldAt.below {w w' : World} {v : Value} {hs : List (Int × List B)} (h : HeldAt w v hs) (hb : Below w.heap.size w w') : HeldAt w' v hs := h.kept (Kept.below hb) (fun _ _ h => h)

def hIdx (hs : List (Int × List B)) : List Int := hs.map (·.1)
def hRow (hs : List (Int × List B)) : List (List B) := hs.map (·.2)
theorem hIdx_snoc {hs : List (Int × List B)} {m : Nat} (h : m < hs.length) : hIdx (hs.take m) ++ [(hs.getD m (0, [])).1] = hIdx (hs.take (m + 1)) := by
  rw [List.take_succ_eq_append_getElem h, List.getD_eq_getElem?_getD, List.getElem?_eq_getElem h]; unfold hIdx; rw [List.map_append]; rfl
theorem hRow_snoc {hs : List (Int × List B)} {m : Nat} (h : m < hs.length) : hRow (hs.take m) ++ [(hs.getD m (0, [])).2] = hRow (hs.take (m + 1)) := by
  rw [List.take_succ_eq_append_getElem h, List.getD_eq_getElem?_getD, List.getElem?_eq_getElem h]; unfold hRow; rw [List.map_append]; rfl

/-- Append of one element, as a step of a region that draws its order. -/
theorem step_app {ops : Array Oper} {o : Oper} {a : Act} {W : World} {K : Act → World → Prop} {Q : Exit → Act → World → Prop} {E : Prop} (t e : TypeId) (bytes : Nat) (z : Value) (ht : Try.prog.underlying t = some (.slice e))
    (hinfo : (Try.prog.info? e).map (fun i => (i.zero, i.size, i.bytes)) = some (some z, 1, bytes)) (hzs : z.cells.size = 1) (hby : bytes ≤ 64)
    (hgd : o.guard = none) (s x : Operand) (ho : o.op = .call { callee := .builtin .append, args := #[s, x], argTypes := #[t, t] })
    (base n : Nat) (v : Value) (us : List Value) (hs : a.eval s = v) (hown : W.ownsRow base e 1 v n us) (g : Nat) (u : Value) (hone : u.oneCell' = true)
    (hx : a.eval x = .slice (some ⟨g, 0, none⟩) 1 1) (hc : W.cell? ⟨g, 0, none⟩ = some u) (hn : n < 1000000000000) (hbase : base ≤ W.heap.size)
    (h : ∀ g' c' w', w'.ownsRow base e 1 (.slice (some ⟨g', 0, none⟩) (n + 1) c') (n + 1) (us ++ [u]) → Kept (fun k => v.ownBlock = some k) W w' → (v.ownBlock = some g' ∨ W.heap.size ≤ g') →
      K (a.put o.dst (.slice (some ⟨g', 0, none⟩) (n + 1) c')) w') :
    if Region.wanted o (yielded ops a.tmps) = true then Oper.wp Try.prog o a W K Q else E := by
  have hw : Region.wanted o (yielded ops a.tmps) = true := by simp [Region.wanted, hgd]
  rw [if_pos hw]
  obtain ⟨i, hi, hz, hsize, hbytes⟩ := info_parts hinfo
  rw [← hsize] at hown
  obtain ⟨g', c', w', hr, h2, h3, h4⟩ := run_app (P := Try.prog) (w := W) base t o.type e i z ht hi hz (by rw [hzs, hsize]) v n us hown g 0 1 1 [u] (by simp [hsize]) (by omega) (fun j y hj => by
      rw [add_off]
      cases j with
      | zero => rw [← (by simpa using hj : u = y)]; simpa using hc
      | succ j => simp at hj) (by simpa using hone) (by omega) (by rw [hbytes]; have := Nat.mul_le_mul_left (n + 1) hby; omega) hbase
  rw [hsize] at h2
  have h5 := h g' c' w' h2 h3 h4
  unfold Oper.wp execOp
  simp only [ho, resolve, invoke, builtin, Sem.run_bind, Sem.run_pure, Result.andThen_ok, List.map_toArray, List.map_cons, List.map_nil, hs, hx, hr]
  exact h5

theorem alloc_cell {W : World} {b o : Nat} {v : Value} (h : W.cell? ⟨b, o, none⟩ = some v) (x : Obj) : (W.alloc x).cell? ⟨b, o, none⟩ = some v := ((Kept.alloc (fun _ => False) W x).at0 o (blt h)).trans h

/-- What holds about the two appends. -/
structure DInv (w : World) (b0 n1 : Nat) (vi : Value) (us1 : List Value) (n2 : Nat) (vl : Value) (us2 : List Value) (ix : Int) (u : Value) (W : World) : Prop where
  c0 : W.cell? ⟨b0, 0, none⟩ = some (.int .i64 ix)
  c1 : W.cell? ⟨b0, 1, none⟩ = some u
  own1 : W.ownsRow w.heap.size 3 1 vi n1 us1
  own2 : W.ownsRow w.heap.size 32 1 vl n2 us2
  below : Below w.heap.size w W
theorem DInv.alloc {w : World} {b0 n1 n2 : Nat} {vi vl u : Value} {us1 us2 : List Value} {ix : Int} {W : World} (h : DInv w b0 n1 vi us1 n2 vl us2 ix u W) (x : Obj) : DInv w b0 n1 vi us1 n2 vl us2 ix u (W.alloc x) :=
  ⟨alloc_cell h.c0 x, alloc_cell h.c1 x, h.own1.alloc x, h.own2.alloc x, h.below.alloc h.below.size x⟩
theorem DInv.app1 {w : World} {b0 n1 n2 : Nat} {vi vl u v5 : Value} {us1 us2 us5 : List Value} {ix : Int} {W w5 : World} (h : DInv w b0 n1 vi us1 n2 vl us2 ix u W) (hk : Kept (fun k => vi.ownBlock = some k) W w5) (ho : w5.ownsRow w.heap.size 3 1 v5 (n1 + 1) us5)
    (h0 : vi.ownBlock ≠ some b0) (hne : ∀ b, vi.ownBlock = some b → vl.ownBlock ≠ some b) : DInv w b0 (n1 + 1) v5 us5 n2 vl us2 ix u w5 :=
  ⟨(hk.cell (p := ⟨b0, 0, none⟩) (blt h.c0) h0).trans h.c0, (hk.cell (p := ⟨b0, 1, none⟩) (blt h.c1) h0).trans h.c1, ho, ownsRow_keptS h.own2 hk (fun g hg e => hne g e hg), h.below.trans (hk.toBelow h.below.size (fun i hi => (h.own1.lt i hi).1))⟩

/-- Behind both. -/
structure FInv (w : World) (n : Nat) (g5 c5 g6 c6 : Nat) (us5 us6 : List Value) (W : World) : Prop where
  own1 : W.ownsRow w.heap.size 3 1 (.slice (some ⟨g5, 0, none⟩) n c5) n us5
  own2 : W.ownsRow w.heap.size 32 1 (.slice (some ⟨g6, 0, none⟩) n c6) n us6
  ne : g5 ≠ g6
  below : Below w.heap.size w W
theorem DInv.fin {w : World} {b0 n c5 g5 c6 g6 : Nat} {vl u : Value} {us5 us2 us6 : List Value} {ix : Int} {W w6 : World} (h : DInv w b0 (n + 1) (.slice (some ⟨g5, 0, none⟩) (n + 1) c5) us5 n vl us2 ix u W) (hk : Kept (fun k => vl.ownBlock = some k) W w6)
    (ho : w6.ownsRow w.heap.size 32 1 (.slice (some ⟨g6, 0, none⟩) (n + 1) c6) (n + 1) us6) (hg : vl.ownBlock = some g6 ∨ W.heap.size ≤ g6) (hne : vl.ownBlock ≠ some g5) : FInv w (n + 1) g5 c5 g6 c6 us5 us6 w6 := by
  refine ⟨ownsRow_keptS h.own1 hk (fun g hg e => ?_), ho, fun e => ?_, h.below.trans (hk.toBelow h.below.size (fun i hi => (h.own2.lt i hi).1))⟩
  · have e1 : g5 = g := by simpa [Value.ownBlock] using hg
    exact hne (by rw [e1]; exact e)
  · rcases hg with q | q
    · exact hne (by rw [e]; exact q)
    · have := (h.own1.lt g5 rfl).2; omega

/-- Rows, each of which was there before. -/
def RowsIn (w W : World) (v : Value) (ls : List (List B)) : Prop := ∃ us, W.ownsRow w.heap.size 32 1 v ls.length us ∧ ∀ i z, us[i]? = some z → BytesAt w z (ls.getD i [])
theorem RowsIn.rows {w W : World} {v : Value} {ls : List (List B)} (h : RowsIn w W v ls) (hb : Below w.heap.size w W) : RowsAt W v ls := by
  obtain ⟨us, h1, h2⟩ := h
  exact RowsAt.of_owns h1 (fun i u hi => (h2 i u hi).below hb)
theorem rowsIn_snoc {w W : World} {v' : Value} {n : Nat} {ls : List (List B)} {us : List Value} {u : Value} {l : List B} (hn : ls.length = n) (hl : us.length = n) (h2 : ∀ i z, us[i]? = some z → BytesAt w z (ls.getD i [])) (hu : BytesAt w u l) (ho : W.ownsRow w.heap.size 32 1 v' (n + 1) (us ++ [u])) : RowsIn w W v' (ls ++ [l]) := by
  refine ⟨us ++ [u], by simpa [hn] using ho, fun i z hi => ?_⟩
  by_cases e : i < us.length
  · rw [List.getElem?_append_left e] at hi
    rw [getD_snoc_lt (by omega)]
    exact h2 i z hi
  · have hi' : i = ls.length := by
      have := (List.getElem?_eq_some_iff.1 hi).1
      simp at this; omega
    subst hi'
    have hz : z = u := by
      rw [show ls.length = us.length by omega] at hi
      simpa using hi.symm
    subst hz
    rw [getD_snoc_last]
    exact hu

/-- The first m of the source's rows. -/
def decP (ys : List B) (l : List (List B)) (wide m : Nat) : List (List B) := (List.range m).map fun r => mixL (wtsL ys (ofB r)) l wide
theorem decP_len (ys : List B) (l : List (List B)) (wide m : Nat) : (decP ys l wide m).length = m := by simp [decP]
theorem decP_succ (ys : List B) (l : List (List B)) (wide m : Nat) : decP ys l wide (m + 1) = decP ys l wide m ++ [mixL (wtsL ys (ofB m)) l wide] := by simp [decP, List.range_succ]
theorem decL_eq (k : Nat) (ys : List B) (l : List (List B)) (wide : Nat) : decL k ys l wide = decP ys l wide k := by unfold decL turnL decP; rw [List.map_map]; rfl

/-- Are held symbols as long as the first one? -/
def evenH (hs : List (Int × List B)) : Bool := hs.all fun h => h.2.length == (hs.getD 0 (0, [])).2.length
/-- The error of held symbols. -/
def decE (n k : Nat) (hs : List (Int × List B)) : Int := if evenH hs then askE n k (hIdx hs) else 2
theorem evenH_iff (hs : List (Int × List B)) : evenH hs = true ↔ ∀ i, i < hs.length → (hs.getD i (0, [])).2.length = (hs.getD 0 (0, [])).2.length := by
  unfold evenH
  rw [List.all_eq_true]
  constructor
  · intro h i hi
    have := h hs[i] (List.getElem_mem hi)
    rw [beq_iff_eq] at this
    rw [List.getD_eq_getElem?_getD, List.getElem?_eq_getElem hi]
    exact this
  · intro h x hx
    obtain ⟨i, hi, rfl⟩ := List.mem_iff_getElem.1 hx
    have := h i hi
    rw [List.getD_eq_getElem?_getD, List.getElem?_eq_getElem hi] at this
    rw [beq_iff_eq]
    exact this
end -- CodeTb

end Go.Proofs.Ytibelpamolcmcaa
