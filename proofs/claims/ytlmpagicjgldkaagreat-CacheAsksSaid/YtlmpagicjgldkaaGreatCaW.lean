/-
  What came in: asks; their bounds.
-/
import Derived.Test.YtlmpagicjgldkaaGreatMxbp
import Derived.ProofKit
import Derived.OpenShut
import Derived.Deep.SlicePairs
import Derived.SizedLaws
namespace Go.Proofs.YtlmpagicjgldkaaGreat
open Go.ChangeShapes Go.WideShapes Go.ChangeAt Go.RowKit Go.Deep
set_option linter.unusedVariables false
set_option maxHeartbeats 2000000

section
variable {H : Type} {enc : TypeId × Value → H} {P : Program} {w : World}

def FitsC (P : Program) (t : TypeId) (d : DataW H) : Prop := ∀ n ∈ d.weights P t, n ≤ reachBytes
theorem fitsC_all {e : TypeId} : ∀ {l : List (DataW H)} {d : DataW H}, d ∈ l → ∀ n ∈ d.weights P e, n ∈ DataW.weightsAll P e l
  | d0 :: l, d, h, n, hn => by
    simp only [DataW.weightsAll, List.mem_append]
    rcases List.mem_cons.1 h with rfl | h
    · exact .inl hn
    · exact .inr (fitsC_all h n hn)
theorem fitsC_elem {t e : TypeId} {elems spare : List (DataW H)} (hu : P.underlying t = some (.slice e)) (h : FitsC P t (.slice elems spare)) {d : DataW H} (hd : d ∈ elems) : FitsC P e d := fun n hn =>
  h n (by simp only [DataW.weights, hu, List.mem_cons, List.mem_append]; exact .inr (.inl (fitsC_all hd n hn)))
theorem fitsC_len {t e : TypeId} {elems spare : List (DataW H)} (hu : P.underlying t = some (.slice e)) (h : FitsC P t (.slice elems spare)) : (elems.length + spare.length) * P.bytesOf e ≤ reachBytes :=
  h _ (by simp only [DataW.weights, hu, List.mem_cons]; exact .inl trivial)
theorem fitsC_five {t : TypeId} {f0 f1 f2 f3 f4 : Field} {d0 d1 d2 d3 d4 : DataW H} (hu : P.underlying t = some (.struct #[f0, f1, f2, f3, f4])) (h : FitsC P t (.agg [d0, d1, d2, d3, d4])) : FitsC P f4.type d4 := fun n hn =>
  h n (by simp only [DataW.weights, hu, List.map_cons, List.map_nil, DataW.weightsEach, List.mem_append]; simp [hn])

theorem byte_ofC {n : Int} (h : (Lit.int .u8 n).wf = true) : Value.int .u8 n = bv (ofB n.toNat) := by
  have : 0 ≤ n ∧ n ≤ 255 := by simpa [Lit.wf, IntKind.min, IntKind.max, IntKind.signed, IntKind.bits] using h
  unfold bv ofB
  congr 1
  simp only
  omega

theorem open_intsC {t e : TypeId} {fuel : Nat} {v : Value} {x : DataW H × List MemPlace} (ht : P.underlying t = some (.slice e)) (he : P.underlying e = some (.int .i64)) (ce : P.cellsOf e = 1) (hb : P.bytesOf e = 8)
    (h : DataW.trod enc P w 0 (fun _ => true) true fuel t [v] = some x) (hf : FitsC P t x.1) : ∃ l, IntsAt w v l ∧ l.length ≤ 140737488355328 := by
  rcases open_slice1 ht ce h with ⟨hc, _⟩ | ⟨a, len, cap, m, n, V, D, Pl, hc, _, hl, hm, hmm, rfl, hx⟩
  · obtain rfl : v = .slice none 0 0 := by simpa using hc
    exact ⟨[], ⟨none, 0, rfl, Nat.le_refl _, fun h => absurd h (by simp)⟩, by simp⟩
  · obtain rfl : v = .slice (some a) len cap := by simpa using hc
    have hmm' : m = cap := by simpa using hmm
    subst hmm'
    have k0 : ∀ i, i < m → V i = .int .i64 (intOf (V i)) := by
      intro i hi
      obtain ⟨k, e, _, hw⟩ := DataW.trod_int he (hx i hi).2
      have e' : V i = .int .i64 k := by simpa using e
      rw [e']
      rfl
    have hlen := fitsC_len ht hf
    rw [hb] at hlen
    simp at hlen
    have hr : reachBytes < 2 ^ 47 := reachBytes_lt
    refine ⟨(List.range len).map fun i => intOf (V i), ⟨some a, m, by simp, by simp; exact hl, fun h0 => ?_⟩, by simp; omega⟩
    simp at h0
    obtain ⟨b, off, spot⟩ := a
    have hz := (hx 0 (by omega)).1
    have hspot : spot = none := by
      have := World.cell?_spot hz
      simpa [Addr.add] using this
    subst hspot
    refine ⟨b, off, rfl, fun i hi => ?_⟩
    simp at hi
    have := (hx i (by omega)).1
    rw [add_plain] at this
    rw [this, getD_range _ _ hi, ← k0 i (by omega)]

theorem open_asks {t e : TypeId} {f0 f1 f2 f3 f4 : Field} {q : TypeId} {fuel : Nat} {v : Value} {x : DataW H × List MemPlace} (ht : P.underlying t = some (.slice e)) (he : P.underlying e = some (.struct #[f0, f1, f2, f3, f4]))
    (ce : P.cellsOf e = 5) (o0 : f0.offset = 0) (o1 : f1.offset = 1) (o2 : f2.offset = 2) (o3 : f3.offset = 3) (o4 : f4.offset = 4) (c0 : P.cellsOf f0.type = 1) (c1 : P.cellsOf f1.type = 1) (c2 : P.cellsOf f2.type = 1) (c3 : P.cellsOf f3.type = 1) (c4 : P.cellsOf f4.type = 1)
    (u0 : P.underlying f0.type = some (.int .i64)) (u1 : P.underlying f1.type = some (.int .i64)) (u2 : P.underlying f2.type = some (.int .i64)) (u3 : P.underlying f3.type = some (.int .u8)) (u4 : P.underlying f4.type = some (.slice q)) (hq : P.underlying q = some (.int .i64)) (cq : P.cellsOf q = 1) (be : P.bytesOf e = 56) (bq : P.bytesOf q = 8)
    (h : DataW.trod enc P w 0 (fun _ => true) true fuel t [v] = some x) (hf : FitsC P t x.1) : ∃ l, AsksAt w v l ∧ l.length ≤ 140737488355328 ∧ ∀ i (h : i < l.length), l[i].ix.length ≤ 140737488355328 := by
  rcases open_slice ht h with ⟨hc, _⟩ | ⟨a, len, cap, m, n, D, Pl, hc, _, hl, hm, hmm, rfl, hx⟩
  · obtain rfl : v = .slice none 0 0 := by simpa using hc
    exact ⟨[], ⟨none, 0, rfl, Nat.le_refl _, fun h => absurd h (by simp)⟩, by simp, fun i hi => absurd hi (by simp)⟩
  · obtain rfl : v = .slice (some a) len cap := by simpa using hc
    have hmm' : m = cap := by simpa using hmm
    subst hmm'
    have hlen := fitsC_len ht hf
    rw [be] at hlen
    simp at hlen
    have hr : reachBytes < 2 ^ 47 := reachBytes_lt
    have each : ∀ i, i < len → ∃ k : AskI, w.cell? (a.add (i * 5)) = some (.int .i64 k.what) ∧ w.cell? (a.add (i * 5 + 1)) = some (.int .i64 k.k) ∧ w.cell? (a.add (i * 5 + 2)) = some (.int .i64 k.long) ∧ w.cell? (a.add (i * 5 + 3)) = some (bv k.first) ∧
        (∃ u, w.cell? (a.add (i * 5 + 4)) = some u ∧ IntsAt w u k.ix) ∧ k.ix.length ≤ 140737488355328 := by
      intro i hi
      obtain ⟨cs', h1, h2⟩ := hx i (by omega)
      rw [ce] at h1
      obtain ⟨_, hlen2, hcell⟩ := World.cells?_some h1
      obtain ⟨xs, k, hk, hxy, _, hxl, hff⟩ := DataW.trod_struct he h2
      have hfit : FitsC P e (D i) := fitsC_elem ht hf (List.mem_map.2 ⟨i, List.mem_range.2 hi, rfl⟩)
      match xs, hxl, cs', hlen2 with
      | [y0, y1, y2, y3, y4], _, [v0, v1, v2, v3, v4], _ =>
        have g0 := hff 0 f0 rfl
        have g1 := hff 1 f1 rfl
        have g2 := hff 2 f2 rfl
        have g3 := hff 3 f3 rfl
        have g4 := hff 4 f4 rfl
        simp [o0, o1, o2, o3, o4, c0, c1, c2, c3, c4] at g0 g1 g2 g3 g4
        have e0 := hcell 0 (by omega)
        have e1 := hcell 1 (by omega)
        have e2 := hcell 2 (by omega)
        have e3 := hcell 3 (by omega)
        have e4 := hcell 4 (by omega)
        rw [add_add] at e0 e1 e2 e3 e4
        simp only [Prod.mk.injEq] at hxy
        obtain ⟨k0, q0, _, _⟩ := DataW.trod_int u0 g0
        obtain ⟨k1, q1, _, _⟩ := DataW.trod_int u1 g1
        obtain ⟨k2, q2, _, _⟩ := DataW.trod_int u2 g2
        obtain ⟨k3, q3, _, hw3⟩ := DataW.trod_int u3 g3
        have hD : D i = .agg [y0.1, y1.1, y2.1, y3.1, y4.1] := by simpa using hxy.1
        rw [hD] at hfit
        obtain ⟨l, hl1, hl2⟩ := open_intsC u4 hq cq bq g4 (fitsC_five he hfit)
        simp only [List.cons.injEq, and_true] at q0 q1 q2 q3
        subst q0 q1 q2 q3
        rw [byte_ofC hw3] at e3
        exact ⟨⟨k0, k1, k2, ofB k3.toNat, l⟩, by simpa using e0, by simpa using e1, by simpa using e2, by simpa using e3, ⟨v4, by simpa using e4, hl1⟩, hl2⟩
    haveI : Inhabited AskI := ⟨⟨0, 0, 0, ofB 0, []⟩⟩
    obtain ⟨F, hF⟩ := choose_lt each
    refine ⟨(List.range len).map F, ⟨some a, m, by simp, by simp; exact hl, fun h0 => ?_⟩, by simp; omega, fun i hi => ?_⟩
    · simp at h0
      obtain ⟨b, off, spot⟩ := a
      have hz := (hF 0 (by omega)).1
      have hspot : spot = none := by
        have := World.cell?_spot hz
        simpa [Addr.add] using this
      subst hspot
      refine ⟨b, off, rfl, fun i hi => ?_⟩
      simp at hi
      obtain ⟨h0, h1, h2, h3, ⟨u, h4, h5⟩, _⟩ := hF i hi
      rw [add_plain] at h0 h1 h2 h3 h4
      simp only [List.getElem_map, List.getElem_range]
      exact ⟨h0, by rw [Nat.add_assoc]; exact h1, by rw [Nat.add_assoc]; exact h2, by rw [Nat.add_assoc]; exact h3, u, by rw [Nat.add_assoc]; exact h4, h5⟩
    · simp at hi
      simp only [List.getElem_map, List.getElem_range]
      exact (hF i hi).2.2.2.2.2
end
end Go.Proofs.YtlmpagicjgldkaaGreat
