/-
  LayOp: What came in: tables, numbers.
  LayOq: What came in: numbers, with their bound.
  TcO: Layer 18: what came in: deeds; their bounds.
-/
import Derived.Test.YtibelpamolcmcaaMxan
import Derived.Test.YtibelpamolcmcaaMxbm
import Derived.Test.YtibelpamolcmcaaMxar
import Derived.Test.YtibelpamolcmcaaMxbi
namespace Go.Proofs.Ytibelpamolcmcaa

section -- LayOp
open Go.ChangeShapes Go.WideShapes Go.ChangeAt Go.RowKit Go.Deep
set_option linter.unusedVariables false

section
variable {H : Type} {enc : TypeId × Value → H} {P : Program} {w : World}
theorem open_tab {t e : TypeId} {f0 f1 : Field} {fuel : Nat} {v : Value} {x : DataW H × List MemPlace} (ht : P.underlying t = some (.slice e)) (he : P.underlying e = some (.struct #[f0, f1]))
    (ce : P.cellsOf e = 2) (o0 : f0.offset = 0) (o1 : f1.offset = 1) (c0 : P.cellsOf f0.type = 1) (c1 : P.cellsOf f1.type = 1) (u0 : P.underlying f0.type = some (.int .i64)) (u1 : P.underlying f1.type = some (.int .i64))
    (h : DataW.trod enc P w 0 (fun _ => true) true fuel t [v] = some x) : ∃ l, TableAt w v l := by
  rcases open_slice_pairs ht he ce o0 o1 c0 c1 h with ⟨hc, _⟩ | ⟨a, len, cap, m, n, V0, V1, D0, D1, P0, P1, hc, _, hl, hm, hmm, rfl, hx⟩
  · obtain rfl : v = .slice none 0 0 := by simpa using hc
    exact ⟨[], ⟨none, 0, rfl, Nat.le_refl _, fun h => absurd h (by simp)⟩⟩
  · obtain rfl : v = .slice (some a) len cap := by simpa using hc
    have hmm' : m = cap := by simpa using hmm
    subst hmm'
    have k0 : ∀ i, i < m → V0 i = .int .i64 (intOf (V0 i)) := by
      intro i hi
      obtain ⟨k, e, _, hw⟩ := DataW.trod_int u0 (hx i hi).2.2.1
      have e' : V0 i = .int .i64 k := by simpa using e
      rw [e']
      rfl
    have k1 : ∀ i, i < m → V1 i = .int .i64 (intOf (V1 i)) := by
      intro i hi
      obtain ⟨k, e, _, hw⟩ := DataW.trod_int u1 (hx i hi).2.2.2
      have e' : V1 i = .int .i64 k := by simpa using e
      rw [e']
      rfl
    refine ⟨(List.range len).map fun i => (intOf (V0 i), intOf (V1 i)), some a, m, by simp, by simp; exact hl, fun h0 => ?_⟩
    simp at h0
    obtain ⟨b, off, spot⟩ := a
    have hz := (hx 0 (by omega)).1
    have hspot : spot = none := by
      have := World.cell?_spot hz
      simpa [Addr.add] using this
    subst hspot
    refine ⟨b, off, rfl, fun i hi => ?_⟩
    simp at hi
    obtain ⟨h0, h1, _, _⟩ := hx i (by omega)
    rw [add_plain] at h0 h1
    rw [k0 i (by omega)] at h0
    rw [k1 i (by omega)] at h1
    rw [getD_range _ _ hi]
    exact ⟨h0, by rw [Nat.add_assoc]; exact h1⟩

theorem open_ints64 {t e : TypeId} {fuel : Nat} {v : Value} {x : DataW H × List MemPlace} (ht : P.underlying t = some (.slice e)) (he : P.underlying e = some (.int .i64)) (ce : P.cellsOf e = 1)
    (h : DataW.trod enc P w 0 (fun _ => true) true fuel t [v] = some x) : ∃ xs, IntsAt w v xs := by
  rcases open_slice1 ht ce h with ⟨hc, _⟩ | ⟨a, len, cap, m, n, V, D, Pl, hc, _, hl, hm, hmm, _, hx⟩
  · obtain rfl : v = .slice none 0 0 := by simpa using hc
    exact ⟨[], none, 0, rfl, Nat.le_refl _, fun h => absurd h (by simp)⟩
  · obtain rfl : v = .slice (some a) len cap := by simpa using hc
    have hmm' : m = cap := by simpa using hmm
    subst hmm'
    have k0 : ∀ i, i < m → V i = .int .i64 (intOf (V i)) := by
      intro i hi
      obtain ⟨k, e, _, hw⟩ := DataW.trod_int he (hx i hi).2
      have e' : V i = .int .i64 k := by simpa using e
      rw [e']
      rfl
    refine ⟨(List.range len).map fun i => intOf (V i), some a, m, by simp, by simp; exact hl, fun h0 => ?_⟩
    simp at h0
    obtain ⟨b, off, spot⟩ := a
    have hz := (hx 0 (by omega)).1
    have hspot : spot = none := by
      have := World.cell?_spot hz
      simpa [Addr.add] using this
    subst hspot
    refine ⟨b, off, rfl, fun i hi => ?_⟩
    simp at hi
    have := (hx i (by omega)).1
    rw [add_plain] at this
    rw [this, getD_range _ _ hi, ← k0 i (by omega)]
end
end -- LayOp

section -- LayOq
open Go.ChangeShapes Go.WideShapes Go.ChangeAt Go.RowKit Go.Deep
set_option linter.unusedVariables false

section
variable {H : Type} {enc : TypeId × Value → H} {P : Program} {w : World}
theorem open_intsB {t e : TypeId} {fuel : Nat} {v : Value} {x : DataW H × List MemPlace} (ht : P.underlying t = some (.slice e)) (he : P.underlying e = some (.int .i64)) (ce : P.cellsOf e = 1) (hb : P.bytesOf e = 8)
    (h : DataW.trod enc P w 0 (fun _ => true) true fuel t [v] = some x) (hf : Fits P t x.1) : ∃ xs, IntsAt w v xs ∧ xs.length ≤ 140737488355328 := by
  rcases open_slice1 ht ce h with ⟨hc, _⟩ | ⟨a, len, cap, m, n, V, D, Pl, hc, _, hl, hm, hmm, rfl, hx⟩
  · obtain rfl : v = .slice none 0 0 := by simpa using hc
    exact ⟨[], ⟨none, 0, rfl, Nat.le_refl _, fun h => absurd h (by simp)⟩, by simp⟩
  · obtain rfl : v = .slice (some a) len cap := by simpa using hc
    have hmm' : m = cap := by simpa using hmm
    subst hmm'
    have k0 : ∀ i, i < m → V i = .int .i64 (intOf (V i)) := by
      intro i hi
      obtain ⟨k, e, _, hw⟩ := DataW.trod_int he (hx i hi).2
      have e' : V i = .int .i64 k := by simpa using e
      rw [e']
      rfl
    have hlen := fits_len ht hf
    rw [hb] at hlen
    simp at hlen
    have hr : reachBytes < 2 ^ 47 := reachBytes_lt
    refine ⟨(List.range len).map fun i => intOf (V i), ⟨some a, m, by simp, by simp; exact hl, fun h0 => ?_⟩, by simp; omega⟩
    simp at h0
    obtain ⟨b, off, spot⟩ := a
    have hz := (hx 0 (by omega)).1
    have hspot : spot = none := by
      have := World.cell?_spot hz
      simpa [Addr.add] using this
    subst hspot
    refine ⟨b, off, rfl, fun i hi => ?_⟩
    simp at hi
    have := (hx i (by omega)).1
    rw [add_plain] at this
    rw [this, getD_range _ _ hi, ← k0 i (by omega)]
end
end -- LayOq

section -- TcO
open Go.ChangeShapes Go.WideShapes Go.ChangeAt Go.RowKit Go.Deep
set_option linter.unusedVariables false

section
variable {H : Type} {enc : TypeId × Value → H} {P : Program} {w : World}
theorem open_tabB {t e : TypeId} {f0 f1 : Field} {fuel : Nat} {v : Value} {x : DataW H × List MemPlace} (ht : P.underlying t = some (.slice e)) (he : P.underlying e = some (.struct #[f0, f1]))
    (ce : P.cellsOf e = 2) (o0 : f0.offset = 0) (o1 : f1.offset = 1) (c0 : P.cellsOf f0.type = 1) (c1 : P.cellsOf f1.type = 1) (u0 : P.underlying f0.type = some (.int .i64)) (u1 : P.underlying f1.type = some (.int .i64)) (be : P.bytesOf e = 16)
    (h : DataW.trod enc P w 0 (fun _ => true) true fuel t [v] = some x) (hf : Fits P t x.1) : ∃ l, TableAt w v l ∧ l.length ≤ 140737488355328 := by
  obtain ⟨l, hl⟩ := open_tab ht he ce o0 o1 c0 c1 u0 u1 h
  refine ⟨l, hl, ?_⟩
  obtain ⟨p, c, e1, -, -⟩ := hl
  rcases open_slice_pairs ht he ce o0 o1 c0 c1 h with ⟨hc, _⟩ | ⟨a, len, cap, m, n, V0, V1, D0, D1, P0, P1, hc, _, hl, hm, hmm, rfl, hx⟩
  · obtain rfl : v = .slice none 0 0 := by simpa using hc
    injection e1 with _ e2 _
    omega
  · obtain rfl : v = .slice (some a) len cap := by simpa using hc
    injection e1 with _ e2 _
    have hlen := fits_len ht hf
    rw [be] at hlen
    simp at hlen
    have hr : reachBytes < 2 ^ 47 := reachBytes_lt
    omega
theorem fits_f4 {t : TypeId} {f0 f1 f2 f3 : Field} {d0 d1 d2 d3 : DataW H} (hu : P.underlying t = some (.struct #[f0, f1, f2, f3])) (h : Fits P t (.agg [d0, d1, d2, d3])) : Fits P f2.type d2 ∧ Fits P f3.type d3 :=
  ⟨fun n hn => h n (by simp only [DataW.weights, hu, List.map_cons, List.map_nil, DataW.weightsEach, List.mem_append]; exact .inr (.inr (.inl hn))),
   fun n hn => h n (by simp only [DataW.weights, hu, List.map_cons, List.map_nil, DataW.weightsEach, List.mem_append]; exact .inr (.inr (.inr (.inl hn))))⟩
theorem fits_f6 {t : TypeId} {f0 f1 f2 f3 f4 f5 : Field} {d0 d1 d2 d3 d4 d5 : DataW H} (hu : P.underlying t = some (.struct #[f0, f1, f2, f3, f4, f5])) (h : Fits P t (.agg [d0, d1, d2, d3, d4, d5])) : Fits P f5.type d5 :=
  fun n hn => h n (by simp only [DataW.weights, hu, List.map_cons, List.map_nil, DataW.weightsEach, List.mem_append]; exact .inr (.inr (.inr (.inr (.inr (.inl hn))))))
theorem int_cell {t : TypeId} {fuel : Nat} {c : Value} {x : DataW H × List MemPlace} (u : P.underlying t = some (.int .i64)) (h : DataW.trod enc P w 0 (fun _ => true) true fuel t [c] = some x) : ∃ a, c = .int .i64 a := by
  obtain ⟨k, e, _, _⟩ := DataW.trod_int u h
  exact ⟨k, by simpa using e⟩

theorem open_headD {t e : TypeId} {f0 f1 f2 f3 f4 f5 g0 g1 : Field} {fuel : Nat} {cs : List Value} {x : DataW H × List MemPlace} (ht : P.underlying t = some (.struct #[f0, f1, f2, f3, f4, f5])) (ct : P.cellsOf t = 6)
    (o0 : f0.offset = 0) (o1 : f1.offset = 1) (o2 : f2.offset = 2) (o3 : f3.offset = 3) (o4 : f4.offset = 4) (o5 : f5.offset = 5)
    (c0 : P.cellsOf f0.type = 1) (c1 : P.cellsOf f1.type = 1) (c2 : P.cellsOf f2.type = 1) (c3 : P.cellsOf f3.type = 1) (c4 : P.cellsOf f4.type = 1) (c5 : P.cellsOf f5.type = 1)
    (u0 : P.underlying f0.type = some (.int .i64)) (u1 : P.underlying f1.type = some (.int .i64)) (u2 : P.underlying f2.type = some (.int .i64)) (u3 : P.underlying f3.type = some (.int .i64)) (u4 : P.underlying f4.type = some (.int .i64))
    (hr : P.underlying f5.type = some (.slice e)) (he : P.underlying e = some (.struct #[g0, g1])) (ce : P.cellsOf e = 2) (p0 : g0.offset = 0) (p1 : g1.offset = 1) (q0 : P.cellsOf g0.type = 1) (q1 : P.cellsOf g1.type = 1) (v0 : P.underlying g0.type = some (.int .i64)) (v1 : P.underlying g1.type = some (.int .i64)) (be : P.bytesOf e = 16)
    (h : DataW.trod enc P w 0 (fun _ => true) true fuel t cs = some x) (hf : Fits P t x.1) :
    ∃ (hd : HeadV) (vr : Value), cs = [.int .i64 hd.stream, .int .i64 hd.frame, .int .i64 hd.index, .int .i64 hd.n, .int .i64 hd.deadline, vr] ∧ TableAt w vr hd.rows ∧ hd.rows.length ≤ 140737488355328 := by
  obtain ⟨xs, n, _, rfl, hl, hlen, hg⟩ := DataW.trod_struct ht h
  rw [ct] at hl
  match xs, hlen, cs, hl with
  | [y0, y1, y2, y3, y4, y5], _, [b0, b1, b2, b3, b4, b5], _ =>
    have k0 := hg 0 f0 rfl
    have k1 := hg 1 f1 rfl
    have k2 := hg 2 f2 rfl
    have k3 := hg 3 f3 rfl
    have k4 := hg 4 f4 rfl
    have k5 := hg 5 f5 rfl
    simp [o0, c0] at k0
    simp [o1, c1] at k1
    simp [o2, c2] at k2
    simp [o3, c3] at k3
    simp [o4, c4] at k4
    simp [o5, c5] at k5
    obtain ⟨a0, rfl⟩ := int_cell u0 k0
    obtain ⟨a1, rfl⟩ := int_cell u1 k1
    obtain ⟨a2, rfl⟩ := int_cell u2 k2
    obtain ⟨a3, rfl⟩ := int_cell u3 k3
    obtain ⟨a4, rfl⟩ := int_cell u4 k4
    obtain ⟨l, hl1, hl2⟩ := open_tabB hr he ce p0 p1 q0 q1 v0 v1 be k5 (fits_f6 ht hf)
    exact ⟨⟨a0, a1, a2, a3, a4, l⟩, b5, rfl, hl1, hl2⟩

theorem open_deed {d e q : TypeId} {d0 d1 d2 d3 f0 f1 f2 f3 f4 f5 g0 g1 : Field} {fuel : Nat} {cs : List Value} {x : DataW H × List MemPlace} (hd : P.underlying d = some (.struct #[d0, d1, d2, d3])) (cd : P.cellsOf d = 9)
    (s0 : d0.offset = 0) (s1 : d1.offset = 1) (s2 : d2.offset = 2) (s3 : d3.offset = 8) (n0 : P.cellsOf d0.type = 1) (n1 : P.cellsOf d1.type = 1) (n3 : P.cellsOf d3.type = 1) (x0 : P.underlying d0.type = some (.int .i64)) (x1 : P.underlying d1.type = some (.int .i64)) (x3 : P.underlying d3.type = some (.slice q)) (hq : P.underlying q = some (.int .u8)) (cq : P.cellsOf q = 1) (bq : P.bytesOf q = 1)
    (ht : P.underlying d2.type = some (.struct #[f0, f1, f2, f3, f4, f5])) (ct : P.cellsOf d2.type = 6)
    (o0 : f0.offset = 0) (o1 : f1.offset = 1) (o2 : f2.offset = 2) (o3 : f3.offset = 3) (o4 : f4.offset = 4) (o5 : f5.offset = 5)
    (c0 : P.cellsOf f0.type = 1) (c1 : P.cellsOf f1.type = 1) (c2 : P.cellsOf f2.type = 1) (c3 : P.cellsOf f3.type = 1) (c4 : P.cellsOf f4.type = 1) (c5 : P.cellsOf f5.type = 1)
    (u0 : P.underlying f0.type = some (.int .i64)) (u1 : P.underlying f1.type = some (.int .i64)) (u2 : P.underlying f2.type = some (.int .i64)) (u3 : P.underlying f3.type = some (.int .i64)) (u4 : P.underlying f4.type = some (.int .i64))
    (hr : P.underlying f5.type = some (.slice e)) (he : P.underlying e = some (.struct #[g0, g1])) (ce : P.cellsOf e = 2) (p0 : g0.offset = 0) (p1 : g1.offset = 1) (q0 : P.cellsOf g0.type = 1) (q1 : P.cellsOf g1.type = 1) (v0 : P.underlying g0.type = some (.int .i64)) (v1 : P.underlying g1.type = some (.int .i64)) (be : P.bytesOf e = 16)
    (h : DataW.trod enc P w 0 (fun _ => true) true fuel d cs = some x) (hf : Fits P d x.1) :
    ∃ (y : DeedV) (vr vb : Value), cs = [.int .i64 y.what, .int .i64 y.at_, .int .i64 y.head.stream, .int .i64 y.head.frame, .int .i64 y.head.index, .int .i64 y.head.n, .int .i64 y.head.deadline, vr, vb] ∧ TableAt w vr y.head.rows ∧ BytesAt w vb y.body ∧ y.head.rows.length ≤ 140737488355328 ∧ y.body.length ≤ 140737488355328 := by
  obtain ⟨xs, n, _, rfl, hl, hlen, hg⟩ := DataW.trod_struct hd h
  rw [cd] at hl
  match xs, hlen, cs, hl with
  | [y0, y1, y2, y3], _, [b0, b1, b2, b3, b4, b5, b6, b7, b8], _ =>
    have k0 := hg 0 d0 rfl
    have k1 := hg 1 d1 rfl
    have k2 := hg 2 d2 rfl
    have k3 := hg 3 d3 rfl
    simp [s0, n0] at k0
    simp [s1, n1] at k1
    simp [s2, ct] at k2
    simp [s3, n3] at k3
    obtain ⟨a0, rfl⟩ := int_cell x0 k0
    obtain ⟨a1, rfl⟩ := int_cell x1 k1
    obtain ⟨hdv, vr, e2, t1, t2⟩ := open_headD ht ct o0 o1 o2 o3 o4 o5 c0 c1 c2 c3 c4 c5 u0 u1 u2 u3 u4 hr he ce p0 p1 q0 q1 v0 v1 be k2 (fits_f4 hd hf).1
    obtain ⟨l, b1, b2⟩ := open_bytes x3 hq cq bq k3 (fits_f4 hd hf).2
    simp at e2
    obtain ⟨rfl, rfl, rfl, rfl, rfl, rfl⟩ := e2
    exact ⟨⟨a0, a1, hdv, l⟩, _, _, rfl, t1, b1, t2, b2⟩

theorem open_deeds {z d e q : TypeId} {d0 d1 d2 d3 f0 f1 f2 f3 f4 f5 g0 g1 : Field} {fuel : Nat} {v : Value} {x : DataW H × List MemPlace} (hz : P.underlying z = some (.slice d)) (hd : P.underlying d = some (.struct #[d0, d1, d2, d3])) (cd : P.cellsOf d = 9) (bd : P.bytesOf d = 104)
    (s0 : d0.offset = 0) (s1 : d1.offset = 1) (s2 : d2.offset = 2) (s3 : d3.offset = 8) (n0 : P.cellsOf d0.type = 1) (n1 : P.cellsOf d1.type = 1) (n3 : P.cellsOf d3.type = 1) (x0 : P.underlying d0.type = some (.int .i64)) (x1 : P.underlying d1.type = some (.int .i64)) (x3 : P.underlying d3.type = some (.slice q)) (hq : P.underlying q = some (.int .u8)) (cq : P.cellsOf q = 1) (bq : P.bytesOf q = 1)
    (ht : P.underlying d2.type = some (.struct #[f0, f1, f2, f3, f4, f5])) (ct : P.cellsOf d2.type = 6)
    (o0 : f0.offset = 0) (o1 : f1.offset = 1) (o2 : f2.offset = 2) (o3 : f3.offset = 3) (o4 : f4.offset = 4) (o5 : f5.offset = 5)
    (c0 : P.cellsOf f0.type = 1) (c1 : P.cellsOf f1.type = 1) (c2 : P.cellsOf f2.type = 1) (c3 : P.cellsOf f3.type = 1) (c4 : P.cellsOf f4.type = 1) (c5 : P.cellsOf f5.type = 1)
    (u0 : P.underlying f0.type = some (.int .i64)) (u1 : P.underlying f1.type = some (.int .i64)) (u2 : P.underlying f2.type = some (.int .i64)) (u3 : P.underlying f3.type = some (.int .i64)) (u4 : P.underlying f4.type = some (.int .i64))
    (hr : P.underlying f5.type = some (.slice e)) (he : P.underlying e = some (.struct #[g0, g1])) (ce : P.cellsOf e = 2) (p0 : g0.offset = 0) (p1 : g1.offset = 1) (q0 : P.cellsOf g0.type = 1) (q1 : P.cellsOf g1.type = 1) (v0 : P.underlying g0.type = some (.int .i64)) (v1 : P.underlying g1.type = some (.int .i64)) (be : P.bytesOf e = 16)
    (h : DataW.trod enc P w 0 (fun _ => true) true fuel z [v] = some x) (hf : Fits P z x.1) :
    ∃ L, DeedsAt w v L ∧ L.length ≤ 10000000000000 ∧ ∀ y ∈ L, y.body.length ≤ 140737488355328 ∧ y.head.rows.length ≤ 140737488355328 := by
  rcases open_slice hz h with ⟨hc, _⟩ | ⟨a, len, cap, m, n, D, Pl, hc, _, hl, hm, hmm, rfl, hx⟩
  · obtain rfl : v = .slice none 0 0 := by simpa using hc
    exact ⟨[], ⟨none, 0, rfl, Nat.le_refl _, fun h => absurd h (by simp)⟩, by simp, fun y hy => by simp at hy⟩
  · obtain rfl : v = .slice (some a) len cap := by simpa using hc
    have hmm' : m = cap := by simpa using hmm
    subst hmm'
    have hlen := fits_len hz hf
    rw [bd] at hlen
    simp at hlen
    have hr2 : reachBytes < 2 ^ 47 := reachBytes_lt
    have each : ∀ i, i < len → ∃ q : DeedV × Value × Value, (∃ (b off : Nat), a = ⟨b, off, none⟩ ∧ DeedAt w b (off + i * 9) q.1 q.2.1 q.2.2) ∧ q.1.body.length ≤ 140737488355328 ∧ q.1.head.rows.length ≤ 140737488355328 := fun i hi => by
      obtain ⟨cs', h1, h2⟩ := hx i (by omega)
      obtain ⟨y, vr, vb, rfl, t1, b1, t2, b2⟩ := open_deed hd cd s0 s1 s2 s3 n0 n1 n3 x0 x1 x3 hq cq bq ht ct o0 o1 o2 o3 o4 o5 c0 c1 c2 c3 c4 c5 u0 u1 u2 u3 u4 hr he ce p0 p1 q0 q1 v0 v1 be h2 (fits_elem hz hf (List.mem_map.2 ⟨i, List.mem_range.2 hi, rfl⟩))
      rw [cd] at h1
      obtain ⟨_, hln, hcell⟩ := World.cells?_some h1
      obtain ⟨b, off, spot⟩ := a
      have hspot : spot = none := by
        obtain ⟨cs0, h10, _⟩ := hx 0 (by omega)
        rw [cd] at h10
        obtain ⟨_, hln0, hcell0⟩ := World.cells?_some h10
        have z0 := (hcell0 0 (by omega)).trans (List.getElem?_eq_getElem (show 0 < cs0.length by omega))
        have := World.cell?_spot z0
        simpa [Addr.add] using this
      subst hspot
      have z0 := hcell 0 (by omega)
      have z1 := hcell 1 (by omega)
      have z2 := hcell 2 (by omega)
      have z3 := hcell 3 (by omega)
      have z4 := hcell 4 (by omega)
      have z5 := hcell 5 (by omega)
      have z6 := hcell 6 (by omega)
      have z7 := hcell 7 (by omega)
      have z8 := hcell 8 (by omega)
      rw [add_plain, add_plain] at z0 z1 z2 z3 z4 z5 z6 z7 z8
      exact ⟨(y, vr, vb), ⟨b, off, rfl, ⟨by simpa using z0, by simpa using z1, by simpa using z2, by simpa using z3, by simpa using z4, by simpa using z5, by simpa using z6, by simpa using z7, by simpa using z8, t1, b1⟩⟩, b2, t2⟩
    obtain ⟨F, hF⟩ := choose_lt each
    refine ⟨(List.range len).map fun i => (F i).1, ⟨some a, m, by simp, by simp; exact hl, fun h0 => ?_⟩, by simp; omega, fun y hy => ?_⟩
    · simp at h0
      obtain ⟨b, off, ea, _⟩ := (hF 0 h0).1
      subst ea
      refine ⟨b, off, rfl, fun i hi => ?_⟩
      simp at hi
      obtain ⟨b', off', ea, hD⟩ := (hF i hi).1
      injection ea with e1 e2 _
      subst e1 e2
      rw [getD_range _ _ hi]
      exact ⟨_, _, hD⟩
    · obtain ⟨i, hi, rfl⟩ := List.mem_map.1 hy
      exact (hF i (List.mem_range.1 hi)).2
end
end -- TcO

end Go.Proofs.Ytibelpamolcmcaa
