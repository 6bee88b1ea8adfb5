/-
  LayEnds: what is written out; the walk.
-/
import Derived.Test.YtanjchpkekehgaaGreatMxbv
import Derived.Test.YtanjchpkekehgaaGreatMxca
import Derived.Test.YtanjchpkekehgaaGreatMxbw
import Derived.Test.YtanjchpkekehgaaGreatMxbe
import Derived.Test.YtanjchpkekehgaaGreatMxbn
import Derived.Test.YtanjchpkekehgaaGreatMxby
import Derived.Test.YtanjchpkekehgaaGreatMxap
import Derived.Deep.CutRange
namespace Go.Proofs.YtanjchpkekehgaaGreat

section -- LayEa
open Go.RowKit Go.Maps
set_option linter.unusedVariables false
set_option maxRecDepth 100000
set_option maxHeartbeats 4000000

/-- What an append makes: in its place, with its capacity; or in a new block, and no old one turns. -/
theorem run_app_or {P : Program} {w : World} (base : Nat) (t ty e : TypeId) (i : TypeInfo) (z : Value) (ht : P.underlying t = some (.slice e)) (hi : P.info? e = some i) (hz : i.zero = some z) (hzs : z.cells.size = i.size)
    (v : Value) (n : Nat) (us : List Value) (hown : w.ownsRow base e i.size v n us) (g off : Nat) (m c : Nat) (news : List Value) (hl : news.length = m * i.size) (hm : 0 < m) (hnews : ∀ j u, news[j]? = some u → w.cell? ((⟨g, off, none⟩ : Addr).add j) = some u)
    (h1 : ∀ u ∈ news, u.oneCell' = true) (h63 : n + m ≤ 9223372036854775807) (hbytes : (n + m) * i.bytes ≤ 140737488355328) (hbase : base ≤ w.heap.size) :
    ∃ g' c' w', (Builtin.append_ #[t, t] ty #[v, .slice (some ⟨g, off, none⟩) m c]).run P w = .ok (.slice (some ⟨g', 0, none⟩) (n + m) c') w' ∧ w'.ownsRow base e i.size (.slice (some ⟨g', 0, none⟩) (n + m) c') (n + m) (us ++ news) ∧
      ((v = .slice (some ⟨g', 0, none⟩) n c' ∧ Kept (fun k => k = g') w w') ∨ (Kept (fun _ => False) w w' ∧ w.heap.size ≤ g')) := by
  have hlen : (us ++ news).length = (n + m) * i.size := by rw [List.length_append, hown.1, hl, Nat.add_mul]
  have fresh : ∀ (old : Nat), (w.drew.alloc (.cells (us.toArray ++ news.toArray ++ Builtin.zeroCells z.cells (grownCap w (n + m) old e - (n + m))) e)).ownsRow base e i.size
        (.slice (some ⟨w.heap.size, 0, none⟩) (n + m) (grownCap w (n + m) old e)) (n + m) (us ++ news) := by
    intro old
    have hge := grownCap_ge w (n + m) old e
    refine ⟨hlen, .inr ⟨w.heap.size, _, _, rfl, hbase, heap_alloc_new w.drew _, hge, grownCap_le_maxLen w (n + m) old e (by unfold maxLen; omega), ?_, ?_⟩⟩
    · simp only [Array.size_append, List.size_toArray, size_zeroCells, hzs, hown.1, hl, ← Nat.add_mul]
      congr 1
      omega
    · simp only [Array.toList_append, List.append_assoc]
      rw [← List.append_assoc, ← hlen]
      exact List.take_left
  have keep : ∀ o, Kept (fun _ => False) w (w.drew.alloc o) := fun o => ⟨rfl, rfl, rfl, by simp, fun k hk _ => Below.heap_alloc w.drew _ k hk⟩
  rcases hown.2 with ⟨rfl, rfl⟩ | ⟨g0, cap, cur, rfl, hbg, hg, hnc, hcm, hcs, htake⟩
  · have hx : us = [] := List.eq_nil_of_length_eq_zero (by simpa using hown.1)
    subst hx
    have hr := run_append_nil (P := P) w t ty e i z ht hi hz ⟨g, off, none⟩ m c news hl hnews hm (by omega) (by have hb := hbytes; simp only [Nat.zero_add] at hb; omega)
    have hf := fresh 0
    simp only [Nat.zero_add, List.nil_append, Array.empty_append] at hf ⊢
    exact ⟨_, _, _, hr, hf, .inr ⟨keep _, Nat.le_refl _⟩⟩
  · by_cases hroom : n + m ≤ cap
    · have hfit : n * i.size + news.length ≤ cur.size := by rw [hl, hcs, ← Nat.add_mul]; exact Nat.mul_le_mul_right _ hroom
      refine ⟨_, _, _, run_append_room (P := P) w t ty e i ht hi g0 n cap cur hg ⟨g, off, none⟩ m c news hl hnews h1 hroom hfit, ⟨hlen, .inr ⟨g0, cap, _, rfl, hbg, setRow_heap w g0 cur _ e _ hg, hroom, hcm, ?_, ?_⟩⟩,
        .inl ⟨rfl, ⟨rfl, rfl, rfl, by simp, fun k _ hk => setRow_other w g0 k _ hk⟩⟩⟩
      · simp only [List.size_toArray, List.length_append, List.length_take, List.length_drop, Array.length_toList]
        omega
      · rw [htake, ← hlen]
        exact List.take_left
    · have holds : ∀ j u, us[j]? = some u → w.cell? ((⟨g0, 0, none⟩ : Addr).add j) = some u := hown.cells (g := g0) rfl
      exact ⟨_, _, _, run_append_grow (P := P) w t ty e i z ht hi hz ⟨g0, 0, none⟩ n cap us hown.1 holds ⟨g, off, none⟩ m c news hl hnews (by omega) (by omega) (growslice_fits (by omega) hbytes), fresh cap, .inr ⟨keep _, Nat.le_refl _⟩⟩

/-- What an append makes; what was there stays. -/
theorem run_app_old {P : Program} {w : World} (base : Nat) (t ty e : TypeId) (i : TypeInfo) (z : Value) (ht : P.underlying t = some (.slice e)) (hi : P.info? e = some i) (hz : i.zero = some z) (hzs : z.cells.size = i.size)
    (v : Value) (n : Nat) (us : List Value) (hown : w.ownsRow base e i.size v n us) (g off : Nat) (m c : Nat) (news : List Value) (hl : news.length = m * i.size) (hm : 0 < m) (hnews : ∀ j u, news[j]? = some u → w.cell? ((⟨g, off, none⟩ : Addr).add j) = some u)
    (h1 : ∀ u ∈ news, u.oneCell' = true) (h63 : n + m ≤ 9223372036854775807) (hbytes : (n + m) * i.bytes ≤ 140737488355328) (hbase : base ≤ w.heap.size) :
    ∃ g' c' w', (Builtin.append_ #[t, t] ty #[v, .slice (some ⟨g, off, none⟩) m c]).run P w = .ok (.slice (some ⟨g', 0, none⟩) (n + m) c') w' ∧ w'.ownsRow base e i.size (.slice (some ⟨g', 0, none⟩) (n + m) c') (n + m) (us ++ news) ∧
      w'.ownsRow base e i.size v n us ∧ Kept (fun k => v.ownBlock = some k) w w' ∧ (v.ownBlock = some g' ∨ w.heap.size ≤ g') := by
  obtain ⟨g', c', w', hr, ho, hor⟩ := run_app_or base t ty e i z ht hi hz hzs v n us hown g off m c news hl hm hnews h1 h63 hbytes hbase
  refine ⟨g', c', w', hr, ho, ?_⟩
  rcases hor with ⟨rfl, hk⟩ | ⟨hk, hg⟩
  · refine ⟨?_, hk.mono (fun b _ e => by rw [e]; rfl), .inl rfl⟩
    obtain ⟨a, b⟩ := ho
    rcases b with ⟨e, _⟩ | ⟨g0, cap, cur, e, b1, b2, b3, b4, b5, b6⟩
    · cases e
    · simp only [Value.slice.injEq, Option.some.injEq, Addr.mk.injEq, true_and, and_true] at e
      obtain ⟨rfl, rfl⟩ := e
      refine ⟨hown.1, .inr ⟨g', c', cur, rfl, b1, b2, by omega, b4, b5, ?_⟩⟩
      have := congrArg (List.take (n * i.size)) b6
      rw [List.take_take, Nat.min_eq_left (Nat.mul_le_mul_right _ (by omega)), ← hown.1, List.take_left] at this
      rw [← hown.1]; exact this
  · exact ⟨ownsRow_keptS hown hk (fun _ _ h => h), hk.mono (fun _ _ h => h.elim), .inr hg⟩

theorem PairsU.push {hs : List (Int × List B)} {ul us : List Value} {ix : Int} {u : Value} {l : List B} (h : PairsU hs ul us) (hul : us.length = hs.length * 2) : PairsU (hs ++ [(ix, l)]) (ul ++ [u]) (us ++ [.int .i64 ix, u]) := by
  have h2 : PairsU ((hs ++ [(ix, l)]).take hs.length) ul us := by rw [List.take_left]; exact h
  have := h2.snoc (m := hs.length) (ix := ix) (u := u) (by simp) hul (by simp [List.getD_eq_getElem?_getD])
  rwa [show hs.length + 1 = (hs ++ [(ix, l)]).length by simp, List.take_length] at this


theorem PairsU.cons {hs : List (Int × List B)} {ul us : List Value} {ix : Int} {u : Value} {l : List B} (h : PairsU hs ul us) : PairsU ((ix, l) :: hs) (u :: ul) ([.int .i64 ix, u] ++ us) := by
  obtain ⟨h1, h2⟩ := h
  refine ⟨by simp [h1], fun i hi => ?_⟩
  cases i with
  | zero => exact ⟨rfl, rfl⟩
  | succ i =>
    have := h2 i (by simpa using hi)
    rw [show (i + 1) * 2 = i * 2 + 1 + 1 by omega, show i * 2 + 1 + 1 + 1 = (i * 2 + 1) + 1 + 1 by omega]
    simpa using this

/-- Held bodies, each in a block of its own. -/
def HeldO (w : World) (base : Nat) (v : Value) (hs : List (Int × List B)) : Prop := ∃ us ul, w.ownsRow base 54 2 v hs.length us ∧ PairsU hs ul us ∧ ∀ i u, ul[i]? = some u → Own w base u (hs.getD i (0, [])).2 ∧ ∀ b, u.ownBlock = some b → v.ownBlock ≠ some b
section
variable {w w' : World} {base : Nat} {v : Value} {hs : List (Int × List B)}
theorem HeldO.nil (w : World) (base : Nat) : HeldO w base (.slice none 0 0) [] := ⟨[], [], World.ownsRow_nil _ _ _ _, ⟨rfl, fun i h => absurd h (by simp)⟩, fun i u h => by simp at h⟩
theorem HeldO.kept {S : Nat → Prop} (h : HeldO w base v hs) (hk : Kept S w w') (hS : ∀ k, k < w.heap.size → base ≤ k → ¬ S k) : HeldO w' base v hs := by
  obtain ⟨us, ul, h1, h2, h3⟩ := h
  exact ⟨us, ul, ownsRow_keptS h1 hk (fun g hg => hS g (h1.lt g hg).2 (h1.lt g hg).1), h2, fun i u hi => ⟨(h3 i u hi).1.kept hk (fun b hb => hS b ((h3 i u hi).1.blk b hb).2 ((h3 i u hi).1.blk b hb).1), (h3 i u hi).2⟩⟩
theorem HeldO.below (h : HeldO w base v hs) (hb : Below w.heap.size w w') : HeldO w' base v hs := h.kept (Kept.below hb) (fun _ _ _ h => h)
theorem HeldO.held (h : HeldO w base v hs) : HeldAt w v hs := by
  obtain ⟨us, ul, h1, h2, h3⟩ := h
  exact held_of h1 h2 (fun i u hi => (h3 i u hi).1.bytes)
theorem HeldO.cap (h : HeldO w base v hs) : HeldCap w v hs.length := by
  obtain ⟨us, ul, h1, h2, h3⟩ := h
  refine cap_of h1 h2 (fun i u hi p n c e => ?_)
  subst e
  rcases (h3 i _ hi).1.2 with ⟨e, _⟩ | ⟨g, cap, cur, e, _, _, h5, _⟩
  · simp only [Value.slice.injEq] at e
    omega
  · simp only [Value.slice.injEq] at e
    omega
theorem HeldO.lt (h : HeldO w base v hs) : ∀ b, v.ownBlock = some b → base ≤ b ∧ b < w.heap.size := by
  obtain ⟨us, ul, h1, h2, h3⟩ := h
  exact h1.lt
theorem HeldO.shape (h : HeldO w base v hs) : ∃ p c, v = .slice p hs.length c := by
  obtain ⟨us, ul, h1, h2, h3⟩ := h
  rcases h1.2 with ⟨e, hz⟩ | ⟨g, cap, cur, e, _⟩
  · exact ⟨none, 0, by rw [e, hz]⟩
  · exact ⟨_, cap, e⟩
theorem HeldO.weaken {base' : Nat} (h : HeldO w base v hs) (hb : base' ≤ base) : HeldO w base' v hs := by
  obtain ⟨us, ul, h1, h2, h3⟩ := h
  exact ⟨us, ul, ownsRow_weaken h1 hb, h2, fun i u hi => ⟨(h3 i u hi).1.weaken hb, (h3 i u hi).2⟩⟩
/-- One that is written out. -/
theorem HeldO.one {W : World} {ix : Int} {u : Value} {l : List B} {g : Nat} (hg : W.heap.size = g) (hu : Own W base u l) (h1 : u.oneCell' = true) (hb : base ≤ W.heap.size) : HeldO (W.alloc (.cells #[.int .i64 ix, u] 54)) base (.slice (some ⟨g, 0, none⟩) 1 1) [(ix, l)] := by
  subst hg
  refine ⟨[.int .i64 ix, u], [u], ⟨by simp, .inr ⟨W.heap.size, 1, _, rfl, hb, heap_alloc_new W _, Nat.le_refl _, by unfold maxLen; omega, by simp, by simp⟩⟩, ⟨rfl, fun i hi => ?_⟩, fun i z hi => ?_⟩
  · have : i = 0 := by simpa using hi
    subst this
    exact ⟨rfl, rfl⟩
  · have : i = 0 := by
      have := (List.getElem?_eq_some_iff.1 hi).1
      simpa using this
    subst this
    have : z = u := by simpa using hi.symm
    subst this
    refine ⟨hu.alloc _, fun b hb' e => ?_⟩
    have h2 := (hu.blk b hb').2
    have h3 : W.heap.size = b := own_is e
    omega
end

/-- Append of one: the longer one, and the one that was there. -/
theorem app_held1 {ops : Array Oper} {rest : List Oper} {o : Oper} {a : Act} {Q : Exit → Act → World → Prop} {W : World}
    (hw : Region.wanted o (yielded ops a.tmps) = true) (s x : Operand) (ho : o.op = .call { callee := .builtin .append, args := #[s, x], argTypes := #[37, 37] })
    (base n : Nat) (v : Value) (hs : List (Int × List B)) (hn : hs.length = n) (hown : HeldO W base v hs) (ix : Int) (u : Value) (l : List B) (g : Nat) (hu : Own W base u l) (h1 : u.oneCell' = true) (hub : ∀ b, u.ownBlock = some b → v.ownBlock ≠ some b)
    (hc1 : W.cell? ⟨g, 0, none⟩ = some (.int .i64 ix)) (hc2 : W.cell? ⟨g, 1, none⟩ = some u) (hs' : a.eval s = v) (hx : a.eval x = .slice (some ⟨g, 0, none⟩) 1 1) (hn2 : n < 1000000000000) (hbase : base ≤ W.heap.size)
    (h : ∀ g' c' w', HeldO w' base (.slice (some ⟨g', 0, none⟩) (n + 1) c') (hs ++ [(ix, l)]) → HeldO w' base v hs → Kept (fun k => v.ownBlock = some k) W w' →
      wpList Tryz.prog ops Q rest (a.put o.dst (.slice (some ⟨g', 0, none⟩) (n + 1) c')) w') : wpList Tryz.prog ops Q (o :: rest) a W := by
  subst hn
  obtain ⟨i, hi, hz, hsize, hbytes⟩ := info_parts infoH2
  obtain ⟨us, ul, q1, q2, q3⟩ := hown
  have q1' := q1
  rw [← hsize] at q1'
  obtain ⟨g', c', w', hr, h3, h2, h4, h5⟩ := run_app_old (P := Tryz.prog) (w := W) base 37 o.type 54 i (.agg #[.int .i64 0, .slice none 0 0]) Tryz.underlying37 hi hz (by rw [hsize]; rfl) v hs.length us q1' g 0 1 1 [.int .i64 ix, u] (by rw [hsize]; rfl) (by omega) (fun j y hj => by
      rw [add_off, Nat.zero_add]
      cases j with
      | zero => rw [← (by simpa using hj : Value.int .i64 ix = y)]; exact hc1
      | succ j =>
        cases j with
        | zero => rw [← (by simpa using hj : u = y)]; exact hc2
        | succ j => simp at hj) (fun y hy => by
      rcases List.mem_cons.1 hy with rfl | hy
      · rfl
      · rw [List.mem_singleton] at hy; subst hy; exact h1) (by omega) (by rw [hbytes]; omega) hbase
  rw [hsize] at h3 h2
  have hul : ul.length = hs.length := q2.1
  have h6 := h g' c' w' ⟨us ++ [.int .i64 ix, u], ul ++ [u], by rw [List.length_append]; exact h3, q2.push q1.1, fun i z hz => ?_⟩ ⟨us, ul, h2, q2, fun i z hz => ⟨(q3 i z hz).1.kept h4 (fun b hb e => (q3 i z hz).2 b hb e), (q3 i z hz).2⟩⟩ h4
  · refine wpList_step fun K hK => ?_
    rw [if_pos hw]
    unfold Oper.wp execOp
    simp only [ho, resolve, invoke, builtin, Sem.run_bind, Sem.run_pure, Result.andThen_ok, List.map_toArray, List.map_cons, List.map_nil, hs', hx, hr]
    exact hK _ _ h6
  · have old : ∀ b, b < W.heap.size → v.ownBlock ≠ some b → g' ≠ b := fun b hb hne e => by
      subst e
      rcases h5 with q | q
      · exact hne q
      · omega
    by_cases e : i < ul.length
    · rw [List.getElem?_append_left e] at hz
      have : (hs ++ [(ix, l)]).getD i (0, []) = hs.getD i (0, []) := by
        rw [List.getD_eq_getElem?_getD, List.getElem?_append_left (by omega), ← List.getD_eq_getElem?_getD]
      rw [this]
      obtain ⟨r1, r2⟩ := q3 i z hz
      exact ⟨r1.kept h4 (fun b hb e => r2 b hb e), fun b hb e => old b (r1.blk b hb).2 (r2 b hb) (own_is e)⟩
    · have hi' : i = ul.length := by
        have := (List.getElem?_eq_some_iff.1 hz).1
        simp at this; omega
      subst hi'
      have e2 : z = u := by simpa using hz.symm
      subst e2
      have : (hs ++ [(ix, l)]).getD ul.length (0, []) = (ix, l) := by rw [hul]; simp [List.getD_eq_getElem?_getD]
      rw [this]
      exact ⟨hu.kept h4 (fun b hb e => hub b hb e), fun b hb e => old b (hu.blk b hb).2 (hub b hb) (own_is e)⟩

/-- Append of many to one. -/
theorem app_heldN {ops : Array Oper} {rest : List Oper} {o : Oper} {a : Act} {Q : Exit → Act → World → Prop} {W : World}
    (hgd : o.guard = none) (s x : Operand) (ho : o.op = .call { callee := .builtin .append, args := #[s, x], argTypes := #[37, 37] })
    (base m : Nat) (v1 v : Value) (ix : Int) (l : List B) (hs : List (Int × List B)) (hn : hs.length = m) (W0 : World) (hown : HeldO W0 base v hs) (hB0 : Below W0.heap.size W0 W) (h1 : HeldO W base v1 [(ix, l)]) (hv1 : ∀ b, v1.ownBlock = some b → W0.heap.size ≤ b)
    (hs' : a.eval s = v1) (hx : a.eval x = v) (hn2 : m < 1000000000000) (hbase : base ≤ W.heap.size)
    (h : ∀ v' w', HeldO w' base v' ((ix, l) :: hs) → Kept (fun k => v1.ownBlock = some k) W w' → wpList Tryz.prog ops Q rest (a.put o.dst v') w') : wpList Tryz.prog ops Q (o :: rest) a W := by
  subst hn
  have hh := hown.shape
  obtain ⟨p, c, rfl⟩ := hh
  obtain ⟨us1, ul1, t1, t2, t3⟩ := h1
  have hold := hown
  obtain ⟨us, ul, q1, q2, q3⟩ := hown
  have hne : ∀ (i : Nat) (u : Value), ul[i]? = some u → ∀ b, u.ownBlock = some b → v1.ownBlock ≠ some b := fun i u hi b hb e => by
    have := ((q3 i u hi).1.blk b hb).2
    have := hv1 b e
    omega
  have q1 := ownsRow_keptS q1 (Kept.below hB0) (fun _ _ h => h)
  have q3 : ∀ i u, ul[i]? = some u → Own W base u (hs.getD i (0, [])).2 ∧ ∀ b, u.ownBlock = some b → (Value.slice p hs.length c).ownBlock ≠ some b := fun i u hi => ⟨(q3 i u hi).1.below hB0, (q3 i u hi).2⟩
  by_cases h0 : hs.length = 0
  · have he : hs = [] := List.eq_nil_of_length_eq_zero h0
    subst he
    exact app_none 37 54 2 32 (.agg #[.int .i64 0, .slice none 0 0]) Tryz.underlying37 infoH2 hgd s x ho base 1 v1 us1 hs' t1 p c hx (h v1 W ⟨us1, ul1, t1, t2, t3⟩ (Kept.refl _ _))
  · obtain ⟨i, hi, hz, hsize, hbytes⟩ := info_parts infoH2
    have q1' := q1
    have t1' := t1
    rw [← hsize] at t1'
    rcases q1.2 with ⟨e, hz⟩ | ⟨g, cap, cur, e, _⟩
    · exact absurd hz h0
    simp only [Value.slice.injEq, true_and] at e
    obtain ⟨rfl, rfl⟩ := e
    have hcells := q1.cells (g := g) rfl
    have hus1 : us1 = [.int .i64 ix] ++ ul1 := by
      have e1 := t2.1
      have e2 := (t2.2 0 (by simp))
      have e3 := t1.1
      simp at e1 e2 e3
      match us1, ul1, e1, e3, e2 with
      | [a, b], [d], _, _, e2 => simp at e2; rw [e2.1, e2.2]; rfl
    obtain ⟨g', c', w', hr, h2, h3, h4⟩ := run_app (P := Tryz.prog) (w := W) base 37 o.type 54 i (.agg #[.int .i64 0, .slice none 0 0]) Tryz.underlying37 hi hz (by rw [hsize]; rfl) v1 1 us1 t1' g 0 hs.length c us (by rw [hsize]; exact q1.1) (by omega) (fun j u hj => hcells j u hj) (fun y hy => by
        obtain ⟨j, hj, e⟩ := List.mem_iff_getElem.1 hy
        have hjl := q1.1
        have e1 := q2.2 (j / 2) (by omega)
        have hje : us[j]? = some y := by rw [List.getElem?_eq_getElem hj, e]
        by_cases hp : j % 2 = 0
        · rw [show j / 2 * 2 = j by omega, hje] at e1
          rw [Option.some.inj e1.1]; rfl
        · rw [show j / 2 * 2 + 1 = j by omega, hje] at e1
          obtain ⟨p2, c2, e2⟩ := (q3 (j / 2) y e1.2.symm).1.shape
          rw [e2]; rfl) (by omega) (by rw [hbytes]; omega) hbase
    rw [hsize] at h2
    have h5 := h _ w' ⟨us1 ++ us, ul1 ++ ul, by rw [List.length_cons, Nat.add_comm]; exact h2, ?_, fun i z hz => ?_⟩ h3
    · refine wpList_plain hgd fun K hK => ?_
      unfold Oper.wp execOp
      simp only [ho, resolve, invoke, builtin, Sem.run_bind, Sem.run_pure, Result.andThen_ok, List.map_toArray, List.map_cons, List.map_nil, hs', hx, hr]
      exact hK _ _ h5
    · have e1 := t2.1
      match ul1, e1 with
      | [d], _ => rw [hus1]; exact q2.cons
    · have e1 := t2.1
      have old : ∀ b, b < W.heap.size → v1.ownBlock ≠ some b → g' ≠ b := fun b hb hne e => by
        subst e
        rcases h4 with q | q
        · exact hne q
        · omega
      cases i with
      | zero =>
        rw [List.getElem?_append_left (by rw [e1]; simp)] at hz
        obtain ⟨r1, r2⟩ := t3 0 z hz
        exact ⟨r1.kept h3 (fun b hb e => r2 b hb e), fun b hb e => old b (r1.blk b hb).2 (r2 b hb) (own_is e)⟩
      | succ i =>
        rw [List.getElem?_append_right (by rw [e1]; simp), e1] at hz
        have hz' : ul[i]? = some z := by simpa using hz
        obtain ⟨r1, r2⟩ := q3 i z hz'
        have r3 := hne i z hz'
        exact ⟨r1.kept h3 (fun b hb e => r3 b hb e), fun b hb e => old b (r1.blk b hb).2 (r3 b hb) (own_is e)⟩
theorem bv_wrap (z : Int) : ∃ x : B, bv x = .int .u8 (IntKind.u8.wrap z) := by
  refine ⟨ofB (z % 256).toNat, ?_⟩
  show Value.int .u8 (((ofB (z % 256).toNat).v : Nat) : Int) = _
  rw [ofB_v (by omega)]
  congr 1
  simp [IntKind.wrap, IntKind.signed, IntKind.bits]
  omega

/-- A new block is given a name. -/
theorem K_alloc {K : Act → World → Prop} {a : Act} {W : World} {x : Obj} (h : ∀ W', W' = W.alloc x → K a W') : K a (W.alloc x) := h _ rfl
theorem mk_below {W W' : World} {x : Obj} (h : W' = W.alloc x) : Below W.heap.size W W' := by subst h; exact balT W x
theorem mk_zeros {W W' : World} {n : Nat} (h : W' = W.alloc (.cells (Array.replicate n (.int .u8 0)) 5)) (hn : n ≤ 1000000) : Own W' W.heap.size (.slice (some ⟨W.heap.size, 0, none⟩) n n) (List.replicate n 0) := by
  subst h
  have := (RowF.made W n).own (base := W.heap.size) (Nat.le_refl _) (by simp; unfold maxLen; omega)
  rwa [List.length_replicate] at this
theorem mk_ints {W W' : World} {x y : Int} (h : W' = W.alloc (.cells #[.int .i64 x, .int .i64 y] 3)) : IntsAt W' (.slice (some ⟨W.heap.size, 0, none⟩) 2 2) [x, y] := by subst h; exact litI2 W x y _ rfl
theorem mk_int {W W' : World} {x : Int} (h : W' = W.alloc (.cells #[.int .i64 x] 3)) : IntsAt W' (.slice (some ⟨W.heap.size, 0, none⟩) 1 1) [x] := by
  subst h
  refine ⟨_, 1, rfl, Nat.le_refl _, fun _ => ⟨W.heap.size, 0, rfl, fun i hi => ?_⟩⟩
  obtain rfl : i = 0 := by simpa using hi
  exact World.cell?_alloc_new W _ _ 0
theorem mk_rows {W W' : World} {u v : Value} {l m : List B} (h : W' = W.alloc (.cells #[u, v] 50)) (hu : BytesAt W u l) (hv : BytesAt W v m) : RowsAt W' (.slice (some ⟨W.heap.size, 0, none⟩) 2 2) [l, m] := by
  subst h
  refine litRW W _ [l, m] 2 _ rfl rfl (fun i hi => ?_)
  obtain rfl | rfl : i = 0 ∨ i = 1 := by omega
  · exact ⟨u, rfl, hu⟩
  · exact ⟨v, rfl, hv⟩
theorem mk_row {W W' : World} {u : Value} {l : List B} (h : W' = W.alloc (.cells #[u] 50)) (hu : BytesAt W u l) : RowsAt W' (.slice (some ⟨W.heap.size, 0, none⟩) 1 1) [l] := by
  subst h
  refine litRW W _ [l] 1 _ rfl rfl (fun i hi => ?_)
  obtain rfl : i = 0 := by omega
  exact ⟨u, rfl, hu⟩
theorem TableAt.cut {w : World} {p : Option Addr} {n c : Nat} {t : List (Int × Int)} (m : Nat) (h : TableAt w (.slice p n c) t) (hm : m ≤ t.length) : TableAt w (.slice p m c) (t.take m) := by
  obtain ⟨_, _, e, hc, hh⟩ := h
  simp only [Value.slice.injEq] at e
  obtain ⟨rfl, rfl, rfl⟩ := e
  have hl : (t.take m).length = m := by rw [List.length_take]; omega
  refine ⟨p, c, by rw [hl], by rw [hl]; omega, fun h0 => ?_⟩
  rw [hl] at h0 ⊢
  obtain ⟨g, o, e, hx⟩ := hh (by omega)
  exact ⟨g, o, e, fun i hi => by
    have := hx i (by omega)
    rwa [show (t.take m).getD i (0, 0) = t.getD i (0, 0) by rw [List.getD_eq_getElem?_getD, List.getD_eq_getElem?_getD, List.getElem?_take, if_pos hi]]⟩
theorem atT_wide {n : Int} {t : List (Int × Int)} (h : TableOk n t) : ∀ {m : Nat}, m ≤ t.length → atT t m ≤ m * 65535
  | 0, _ => by simp [atT_zero]
  | m + 1, hm => by
    have ih := atT_wide h (m := m) (by omega)
    rw [atT_succ (by omega)]
    have h2 := h.2.2.2.2 m (by omega)
    have h3 := (h.2.2.2.2.ge m (by omega)).1
    have h4 := wdN_le (long := (t.getD m (0, 0)).2.toNat) (k := (t.getD m (0, 0)).1.toNat) (by omega)
    have h5 := h2.2.2.2
    have h6 : wdT (t.getD m (0, 0)) = wdN (t.getD m (0, 0)).2.toNat (t.getD m (0, 0)).1.toNat := rfl
    omega
theorem longV_nat (n : Int) (t : List (Int × Int)) : ∃ L : Nat, longV n t = (L : Int) ∧ L ≤ 600000 := by
  unfold longV
  split
  · rename_i h
    refine ⟨_, rfl, ?_⟩
    have h2 := atT_wide h (Nat.le_refl _)
    have := h.2.2.2.1
    omega
  · exact ⟨0, rfl, by omega⟩
theorem RowF.setAny {w : World} {g i : Nat} {l : List B} (h : RowF w g l) (hi : i < l.length) (z : Int) : ∃ l' : List B, l'.length = l.length ∧ RowF (w.setCell ⟨g, i, none⟩ (.int .u8 (IntKind.u8.wrap z))) g l' := by
  obtain ⟨x, hx⟩ := bv_wrap z
  rw [← hx]
  exact ⟨l.set i x, by simp, h.set hi x⟩
theorem lit_held (w : World) (A : Obj) (ix : Int) (u : Value) : ((w.alloc A).alloc (.cells #[.int .i64 ix, u] 54)).cell? ⟨w.heap.size + 1, 0, none⟩ = some (.int .i64 ix) ∧ ((w.alloc A).alloc (.cells #[.int .i64 ix, u] 54)).cell? ⟨w.heap.size + 1, 1, none⟩ = some u := by
  have h0 := World.cell?_alloc_new (w.alloc A) #[.int .i64 ix, u] 54 0
  have h1 := World.cell?_alloc_new (w.alloc A) #[.int .i64 ix, u] 54 1
  rw [World.size_alloc] at h0 h1
  exact ⟨h0, h1⟩
theorem litTs (w : World) (ts : List (Int × Int)) (us : Array Value) (n g : Nat) (hg : w.heap.size = g) (hn : ts.length = n) (h : ∀ i, i < n → us[i * 2]? = some (.int .i64 (ts.getD i (0, 0)).1) ∧ us[i * 2 + 1]? = some (.int .i64 (ts.getD i (0, 0)).2)) : TableAt (w.alloc (.cells us 48)) (.slice (some ⟨g, 0, none⟩) n n) ts := by
  subst hg hn
  refine ⟨_, ts.length, rfl, Nat.le_refl _, fun _ => ⟨w.heap.size, 0, rfl, fun i hi => ?_⟩⟩
  obtain ⟨h1, h2⟩ := h i hi
  rw [Nat.zero_add]
  exact ⟨(World.cell?_alloc_new w us _ (i * 2)).trans h1, (World.cell?_alloc_new w us _ (i * 2 + 1)).trans h2⟩
theorem litT1 (w : World) (a b : Int) (g : Nat) (hg : w.heap.size = g) : TableAt (w.alloc (.cells #[.int .i64 a, .int .i64 b] 48)) (.slice (some ⟨g, 0, none⟩) 1 1) [(a, b)] := by
  refine litTs w _ _ 1 g hg rfl (fun i hi => ?_)
  obtain rfl : i = 0 := by omega
  exact ⟨rfl, rfl⟩
theorem one_row (w : World) (g : Nat) (hg : w.heap.size + 1 = g) : RowsAt ((w.alloc (.cells #[.int .u8 1] 5)).alloc (.cells #[.slice (some ⟨w.heap.size, 0, none⟩) 1 1] 50)) (.slice (some ⟨g, 0, none⟩) 1 1) [[ofB 1]] := by
  refine litRW _ _ [[ofB 1]] 1 g (by simpa using hg) rfl (fun i hi => ?_)
  obtain rfl : i = 0 := by omega
  exact ⟨_, rfl, litB w [ofB 1] _ rfl _ 1 rfl rfl⟩
theorem lit_int1 (w : World) (x : Int) (g : Nat) (hg : w.heap.size = g) : IntsAt (w.alloc (.cells #[.int .i64 x] 3)) (.slice (some ⟨g, 0, none⟩) 1 1) [x] := by
  subst hg
  exact mk_int rfl
end -- LayEa

section -- LayEb
open Go.RowKit Go.Maps
set_option linter.unusedVariables false
set_option linter.unusedSimpArgs false
set_option maxRecDepth 100000
set_option maxHeartbeats 8000000

theorem layEnds_any (w : World) :
    Calls Tryz.prog 5 #[] w fun e w' => e = .returned (.bool true) ∧ Below w.heap.size w w' := by
  have HAW := Lib.hid (fun W (h : Below w.heap.size w W) => (lawake_any W).mono (R' := fun e w' => e = .returned (.bool true) ∧ Below w.heap.size w w') (fun e w' h2 => ⟨h2.1, below_more h h2.2 h.size⟩))
  have HLT := Lib.hid (fun (W : World) (h : Below w.heap.size w W) (n came : Int) (v : Value) (t : List (Int × Int)) (hv : TableAt W v t) => (layTables_any W n came v t hv).mono (R' := fun e w' => e = .returned (.bool true) ∧ Below W.heap.size W w') (fun e w' h2 => h2))
  go_enter Tryz.func5, Tryz.ntmps5
  go_wp2
  go_loopw [1, 2, 3, 4, 5, 6, 7, 8, 9] (fun n _ _ _ _ _ _ _ _ wr => ∃ k : Nat, k ≤ 6 ∧ n = .int .i64 ((k : Int) - 1) ∧ Below w.heap.size w wr) (fun n _ _ _ _ _ _ _ _ _ => 6 - (intOf n + 1).toNat)
  case atStart => exact ⟨0, by omega, rfl, Below.refl _ _⟩
  case round =>
    obtain ⟨w1, rfl⟩ : ∃ x, x = wr := ⟨_, rfl⟩
    obtain ⟨k, hk, rfl, hB⟩ := hrel
    have HB1 := Lib.hid hB
    clear hB
    by_cases hlt : k < 6
    · have hlt' : (k : Int) - 1 < 5 := by omega
      go_wp2
      go_loopw [2, 3, 4, 5, 6, 7, 8, 9] (fun m _ _ _ _ _ _ _ wr => ∃ j : Nat, j ≤ 64 ∧ m = .int .i64 (j : Int) ∧ Below w.heap.size w wr) (fun m _ _ _ _ _ _ _ _ => 64 - (intOf m).toNat)
      case atStart => exact ⟨0, by omega, rfl, HB1.out⟩
      case round =>
        obtain ⟨w2, rfl⟩ : ∃ x, x = wr := ⟨_, rfl⟩
        obtain ⟨j, hj, rfl, hB⟩ := hrel
        have HB2 := Lib.hid hB
        clear hB
        by_cases hltj : j < 64
        · have hltj' : (j : Int) < 64 := by omega
          go_wp2_with fail
          have HT3 := Lib.hid (litT2 w2 ((j : Int) % 4) ((j : Int) / 4 % 4) ((j : Int) / 16) (3 - (j : Int) % 4) w2.heap.size rfl)
          have HB3 := Lib.hid (below_more HB2.out (balT w2 (.cells #[.int .i64 ((j : Int) % 4), .int .i64 ((j : Int) / 4 % 4), .int .i64 ((j : Int) / 16), .int .i64 (3 - (j : Int) % 4)] 48)) HB2.out.size)
          generalize w2.alloc (.cells #[.int .i64 ((j : Int) % 4), .int .i64 ((j : Int) / 4 % 4), .int .i64 ((j : Int) / 16), .int .i64 (3 - (j : Int) % 4)] 48) = w3 at *
          go_cut [68] from 35 to 68 (fun v wx => v = .bool false ∧ Below w3.heap.size w3 wx)
          case first =>
            have HD3 := Lib.hid (balD w3 1)
            have hdv : (j : Int).tdiv 4 = (j : Int) / 4 := Int.tdiv_eq_ediv_of_nonneg (by omega)
            have hmk1 : ∀ W : World, (Instr.makeSlice 50 (.int .i64 ((j : Int) / 4 % 4)) (.int .i64 ((j : Int) / 4 % 4))).run Tryz.prog W = .ok (.slice (some ⟨W.heap.size, 0, none⟩) (j / 4 % 4) (j / 4 % 4)) (W.alloc (.cells (Array.replicate (j / 4 % 4) (.int .u8 0)) 5)) := fun W => by
              rw [show (j : Int) / 4 % 4 = ((j / 4 % 4 : Nat) : Int) by omega]
              exact run_make_one (w := W) 50 5 (.int .u8 0) 1 Tryz.underlying50 infoB rfl (by omega) _ (by omega)
            have hmk2 : ∀ W : World, (Instr.makeSlice 50 (.int .i64 (3 - (j : Int) % 4)) (.int .i64 (3 - (j : Int) % 4))).run Tryz.prog W = .ok (.slice (some ⟨W.heap.size, 0, none⟩) (3 - j % 4) (3 - j % 4)) (W.alloc (.cells (Array.replicate (3 - j % 4) (.int .u8 0)) 5)) := fun W => by
              rw [show 3 - (j : Int) % 4 = ((3 - j % 4 : Nat) : Int) by omega]
              exact run_make_one (w := W) 50 5 (.int .u8 0) 1 Tryz.underlying50 infoB rfl (by omega) _ (by omega)
            refine s_start 34 (fun W => Below w3.heap.size w3 W) (by as_aux_lemma => kernel_rfl) (by as_aux_lemma => kernel_rfl) HD3.out ?_
            refine s_take 0 (by as_aux_lemma => kernel_rfl) (by as_aux_lemma => kernel_rfl) (by as_aux_lemma => kernel_rfl) (by as_aux_lemma => kernel_rfl) HD3.out (fun oi ho => ?_)
            simp only [List.getElem?_toArray, List.getElem?_cons_succ, List.getElem?_cons_zero, Option.some.injEq] at ho
            subst ho
            refine ⟨?_, Or.inl ⟨by rfl, fun w _ => ?_⟩, ?_⟩
            rotate_left
            · (go_simp <;> with_reducible rfl)
            try simp only [Act.put, List.setIfInBounds_toArray, List.set_cons_zero, List.set_cons_succ]
            refine s_take 1 (by as_aux_lemma => kernel_rfl) (by as_aux_lemma => kernel_rfl) (by as_aux_lemma => kernel_rfl) (by as_aux_lemma => kernel_rfl) HD3.out (fun oi ho => ?_)
            simp only [List.getElem?_toArray, List.getElem?_cons_succ, List.getElem?_cons_zero, Option.some.injEq] at ho
            subst ho
            refine ⟨?_, Or.inl ⟨by rfl, fun w _ => ?_⟩, ?_⟩
            rotate_left
            · (go_simp <;> with_reducible rfl)
            try simp only [Act.put, List.setIfInBounds_toArray, List.set_cons_zero, List.set_cons_succ]
            refine s_take 2 (by as_aux_lemma => kernel_rfl) (by as_aux_lemma => kernel_rfl) (by as_aux_lemma => kernel_rfl) (by as_aux_lemma => kernel_rfl) HD3.out (fun oi ho => ?_)
            simp only [List.getElem?_toArray, List.getElem?_cons_succ, List.getElem?_cons_zero, Option.some.injEq] at ho
            subst ho
            refine ⟨?_, Or.inl ⟨by rfl, fun w _ => ?_⟩, ?_⟩
            rotate_left
            · (go_simp <;> with_reducible rfl)
            try simp only [Act.put, List.setIfInBounds_toArray, List.set_cons_zero, List.set_cons_succ]
            refine s_take 3 (by as_aux_lemma => kernel_rfl) (by as_aux_lemma => kernel_rfl) (by as_aux_lemma => kernel_rfl) (by as_aux_lemma => kernel_rfl) HD3.out (fun oi ho => ?_)
            simp only [List.getElem?_toArray, List.getElem?_cons_succ, List.getElem?_cons_zero, Option.some.injEq] at ho
            subst ho
            refine ⟨?_, Or.inl ⟨by rfl, fun w _ => ?_⟩, ?_⟩
            rotate_left
            · (go_simp <;> with_reducible rfl)
            try simp only [Act.put, List.setIfInBounds_toArray, List.set_cons_zero, List.set_cons_succ]
            refine s_take 4 (by as_aux_lemma => kernel_rfl) (by as_aux_lemma => kernel_rfl) (by as_aux_lemma => kernel_rfl) (by as_aux_lemma => kernel_rfl) HD3.out (fun oi ho => ?_)
            simp only [List.getElem?_toArray, List.getElem?_cons_succ, List.getElem?_cons_zero, Option.some.injEq] at ho
            subst ho
            refine ⟨?_, Or.inl ⟨by rfl, fun w _ => ?_⟩, ?_⟩
            rotate_left
            · (go_simp <;> with_reducible rfl)
            try simp only [Act.put, List.setIfInBounds_toArray, List.set_cons_zero, List.set_cons_succ]
            refine s_all (rs := [5]) (by as_aux_lemma => kernel_rfl) (by simp) ?_
            refine s_step 5 (by as_aux_lemma => kernel_rfl) (fun o ho K hK => ?_) AllReadyH.nil
            simp only [List.getElem?_toArray, List.getElem?_cons_succ, List.getElem?_cons_zero, Option.some.injEq] at ho
            subst ho
            go_simp
            refine (layTables_any _ _ _ _ _ (HT3.out.below HD3.out)).mono ?_
            rintro e w4 ⟨rfl, hB4⟩
            have HB4 := Lib.hid (below_more HD3.out hB4 HD3.out.size)
            clear hB4
            go_wp2_with fail
            refine hK.out _ _ HB4.out ?_
            clear hK K
            try simp only [Act.put, List.setIfInBounds_toArray, List.set_cons_zero, List.set_cons_succ]
            refine s_take 6 (by as_aux_lemma => kernel_rfl) (by as_aux_lemma => kernel_rfl) (by as_aux_lemma => kernel_rfl) (by as_aux_lemma => kernel_rfl) HB4.out (fun oi ho => ?_)
            simp only [List.getElem?_toArray, List.getElem?_cons_succ, List.getElem?_cons_zero, Option.some.injEq] at ho
            subst ho
            refine ⟨?_, Or.inl ⟨by rfl, fun w _ => ?_⟩, ?_⟩
            rotate_left
            · (go_simp <;> with_reducible rfl)
            try simp only [Act.put, List.setIfInBounds_toArray, List.set_cons_zero, List.set_cons_succ]
            refine s_take 7 (by as_aux_lemma => kernel_rfl) (by as_aux_lemma => kernel_rfl) (by as_aux_lemma => kernel_rfl) (by as_aux_lemma => kernel_rfl) HB4.out (fun oi ho => ?_)
            simp only [List.getElem?_toArray, List.getElem?_cons_succ, List.getElem?_cons_zero, Option.some.injEq] at ho
            subst ho
            refine ⟨?_, Or.inl ⟨by rfl, fun w _ => ?_⟩, ?_⟩
            rotate_left
            · (go_simp <;> with_reducible rfl)
            try simp only [Act.put, List.setIfInBounds_toArray, List.set_cons_zero, List.set_cons_succ]
            refine s_take 8 (by as_aux_lemma => kernel_rfl) (by as_aux_lemma => kernel_rfl) (by as_aux_lemma => kernel_rfl) (by as_aux_lemma => kernel_rfl) HB4.out (fun oi ho => ?_)
            simp only [List.getElem?_toArray, List.getElem?_cons_succ, List.getElem?_cons_zero, Option.some.injEq] at ho
            subst ho
            refine ⟨?_, Or.inl ⟨by rfl, fun w _ => ?_⟩, ?_⟩
            rotate_left
            · (go_simp <;> with_reducible rfl)
            try simp only [Act.put, List.setIfInBounds_toArray, List.set_cons_zero, List.set_cons_succ]
            refine s_take 9 (by as_aux_lemma => kernel_rfl) (by as_aux_lemma => kernel_rfl) (by as_aux_lemma => kernel_rfl) (by as_aux_lemma => kernel_rfl) HB4.out (fun oi ho => ?_)
            simp only [List.getElem?_toArray, List.getElem?_cons_succ, List.getElem?_cons_zero, Option.some.injEq] at ho
            subst ho
            refine ⟨?_, Or.inl ⟨by rfl, fun w _ => ?_⟩, ?_⟩
            rotate_left
            · (go_simp <;> with_reducible rfl)
            try simp only [Act.put, List.setIfInBounds_toArray, List.set_cons_zero, List.set_cons_succ]
            refine s_take 10 (by as_aux_lemma => kernel_rfl) (by as_aux_lemma => kernel_rfl) (by as_aux_lemma => kernel_rfl) (by as_aux_lemma => kernel_rfl) HB4.out (fun oi ho => ?_)
            simp only [List.getElem?_toArray, List.getElem?_cons_succ, List.getElem?_cons_zero, Option.some.injEq] at ho
            subst ho
            refine ⟨?_, Or.inl ⟨by rfl, fun w _ => ?_⟩, ?_⟩
            rotate_left
            · (go_simp <;> with_reducible rfl)
            try simp only [Act.put, List.setIfInBounds_toArray, List.set_cons_zero, List.set_cons_succ]
            refine s_take 11 (by as_aux_lemma => kernel_rfl) (by as_aux_lemma => kernel_rfl) (by as_aux_lemma => kernel_rfl) (by as_aux_lemma => kernel_rfl) HB4.out (fun oi ho => ?_)
            simp only [List.getElem?_toArray, List.getElem?_cons_succ, List.getElem?_cons_zero, Option.some.injEq] at ho
            subst ho
            refine ⟨?_, Or.inl ⟨by rfl, fun w _ => ?_⟩, ?_⟩
            rotate_left
            · (go_simp <;> with_reducible rfl)
            try simp only [Act.put, List.setIfInBounds_toArray, List.set_cons_zero, List.set_cons_succ]
            refine s_all (rs := [12]) (by as_aux_lemma => kernel_rfl) (by simp) ?_
            refine s_step 12 (by as_aux_lemma => kernel_rfl) (fun o ho K hK => ?_) AllReadyH.nil
            simp only [List.getElem?_toArray, List.getElem?_cons_succ, List.getElem?_cons_zero, Option.some.injEq] at ho
            subst ho
            go_simp
            refine (layTables_any _ _ _ _ _ ((HT3.out.below HB4.out).cut 1 (by simp))).mono ?_
            rintro e w5 ⟨rfl, hB5⟩
            have HB5 := Lib.hid (below_more HB4.out hB5 HB4.out.size)
            clear hB5
            go_wp2_with fail
            refine hK.out _ _ HB5.out ?_
            clear hK K
            try simp only [Act.put, List.setIfInBounds_toArray, List.set_cons_zero, List.set_cons_succ]
            refine s_take 13 (by as_aux_lemma => kernel_rfl) (by as_aux_lemma => kernel_rfl) (by as_aux_lemma => kernel_rfl) (by as_aux_lemma => kernel_rfl) HB5.out (fun oi ho => ?_)
            simp only [List.getElem?_toArray, List.getElem?_cons_succ, List.getElem?_cons_zero, Option.some.injEq] at ho
            subst ho
            refine ⟨?_, Or.inl ⟨by rfl, fun w _ => ?_⟩, ?_⟩
            rotate_left
            · (go_simp <;> with_reducible rfl)
            try simp only [Act.put, List.setIfInBounds_toArray, List.set_cons_zero, List.set_cons_succ]
            refine s_take 14 (by as_aux_lemma => kernel_rfl) (by as_aux_lemma => kernel_rfl) (by as_aux_lemma => kernel_rfl) (by as_aux_lemma => kernel_rfl) HB5.out (fun oi ho => ?_)
            simp only [List.getElem?_toArray, List.getElem?_cons_succ, List.getElem?_cons_zero, Option.some.injEq] at ho
            subst ho
            refine ⟨?_, Or.inl ⟨by rfl, fun w _ => ?_⟩, ?_⟩
            rotate_left
            · (go_simp <;> with_reducible rfl)
            try simp only [Act.put, List.setIfInBounds_toArray, List.set_cons_zero, List.set_cons_succ]
            refine s_take 15 (by as_aux_lemma => kernel_rfl) (by as_aux_lemma => kernel_rfl) (by as_aux_lemma => kernel_rfl) (by as_aux_lemma => kernel_rfl) HB5.out (fun oi ho => ?_)
            simp only [List.getElem?_toArray, List.getElem?_cons_succ, List.getElem?_cons_zero, Option.some.injEq] at ho
            subst ho
            refine ⟨?_, Or.inl ⟨by rfl, fun w _ => ?_⟩, ?_⟩
            rotate_left
            · (go_simp <;> with_reducible rfl)
            try simp only [Act.put, List.setIfInBounds_toArray, List.set_cons_zero, List.set_cons_succ]
            refine s_take 16 (by as_aux_lemma => kernel_rfl) (by as_aux_lemma => kernel_rfl) (by as_aux_lemma => kernel_rfl) (by as_aux_lemma => kernel_rfl) HB5.out (fun oi ho => ?_)
            simp only [List.getElem?_toArray, List.getElem?_cons_succ, List.getElem?_cons_zero, Option.some.injEq] at ho
            subst ho
            refine ⟨?_, Or.inl ⟨by rfl, fun w _ => ?_⟩, ?_⟩
            rotate_left
            · (go_simp <;> with_reducible rfl)
            try simp only [Act.put, List.setIfInBounds_toArray, List.set_cons_zero, List.set_cons_succ]
            refine s_take 17 (by as_aux_lemma => kernel_rfl) (by as_aux_lemma => kernel_rfl) (by as_aux_lemma => kernel_rfl) (by as_aux_lemma => kernel_rfl) HB5.out (fun oi ho => ?_)
            simp only [List.getElem?_toArray, List.getElem?_cons_succ, List.getElem?_cons_zero, Option.some.injEq] at ho
            subst ho
            refine ⟨?_, Or.inl ⟨by rfl, fun w _ => ?_⟩, ?_⟩
            rotate_left
            · (go_simp <;> with_reducible rfl)
            try simp only [Act.put, List.setIfInBounds_toArray, List.set_cons_zero, List.set_cons_succ]
            refine s_take 18 (by as_aux_lemma => kernel_rfl) (by as_aux_lemma => kernel_rfl) (by as_aux_lemma => kernel_rfl) (by as_aux_lemma => kernel_rfl) HB5.out (fun oi ho => ?_)
            simp only [List.getElem?_toArray, List.getElem?_cons_succ, List.getElem?_cons_zero, Option.some.injEq] at ho
            subst ho
            refine ⟨.int .i64 ((j : Int) / 4), Or.inl ⟨by rfl, fun w' hS' => ?_⟩, ?_⟩
            · clear hmk1 hmk2
              (go_simp <;> first | with_reducible rfl | go_num | (simp [IntKind.wrap, IntKind.signed, IntKind.bits, hdv]; omega) | (simp [IntKind.wrap, IntKind.signed, IntKind.bits]; omega))
            try simp only [Act.put, List.setIfInBounds_toArray, List.set_cons_zero, List.set_cons_succ]
            refine s_take 19 (by as_aux_lemma => kernel_rfl) (by as_aux_lemma => kernel_rfl) (by as_aux_lemma => kernel_rfl) (by as_aux_lemma => kernel_rfl) HB5.out (fun oi ho => ?_)
            simp only [List.getElem?_toArray, List.getElem?_cons_succ, List.getElem?_cons_zero, Option.some.injEq] at ho
            subst ho
            refine ⟨.int .i64 ((j : Int) / 4 % 4), Or.inl ⟨by rfl, fun w' hS' => ?_⟩, ?_⟩
            · clear hmk1 hmk2
              (go_simp <;> first | with_reducible rfl | go_num | (simp [IntKind.wrap, IntKind.signed, IntKind.bits, hdv]; omega) | (simp [IntKind.wrap, IntKind.signed, IntKind.bits]; omega))
            try simp only [Act.put, List.setIfInBounds_toArray, List.set_cons_zero, List.set_cons_succ]
            refine s_take 21 (by as_aux_lemma => kernel_rfl) (by as_aux_lemma => kernel_rfl) (by as_aux_lemma => kernel_rfl) (by as_aux_lemma => kernel_rfl) HB5.out (fun oi ho => ?_)
            simp only [List.getElem?_toArray, List.getElem?_cons_succ, List.getElem?_cons_zero, Option.some.injEq] at ho
            subst ho
            refine ⟨?_, Or.inl ⟨by rfl, fun w _ => ?_⟩, ?_⟩
            rotate_left
            · (go_simp <;> with_reducible rfl)
            try simp only [Act.put, List.setIfInBounds_toArray, List.set_cons_zero, List.set_cons_succ]
            refine s_take 22 (by as_aux_lemma => kernel_rfl) (by as_aux_lemma => kernel_rfl) (by as_aux_lemma => kernel_rfl) (by as_aux_lemma => kernel_rfl) HB5.out (fun oi ho => ?_)
            simp only [List.getElem?_toArray, List.getElem?_cons_succ, List.getElem?_cons_zero, Option.some.injEq] at ho
            subst ho
            refine ⟨.int .i64 ((j : Int) % 4), Or.inl ⟨by rfl, fun w' hS' => ?_⟩, ?_⟩
            · clear hmk1 hmk2
              (go_simp <;> first | with_reducible rfl | go_num | (simp [IntKind.wrap, IntKind.signed, IntKind.bits, hdv]; omega) | (simp [IntKind.wrap, IntKind.signed, IntKind.bits]; omega))
            try simp only [Act.put, List.setIfInBounds_toArray, List.set_cons_zero, List.set_cons_succ]
            refine s_take 23 (by as_aux_lemma => kernel_rfl) (by as_aux_lemma => kernel_rfl) (by as_aux_lemma => kernel_rfl) (by as_aux_lemma => kernel_rfl) HB5.out (fun oi ho => ?_)
            simp only [List.getElem?_toArray, List.getElem?_cons_succ, List.getElem?_cons_zero, Option.some.injEq] at ho
            subst ho
            refine ⟨.int .i64 (3 - (j : Int) % 4), Or.inl ⟨by rfl, fun w' hS' => ?_⟩, ?_⟩
            · clear hmk1 hmk2
              (go_simp <;> first | with_reducible rfl | go_num | (simp [IntKind.wrap, IntKind.signed, IntKind.bits, hdv]; omega) | (simp [IntKind.wrap, IntKind.signed, IntKind.bits]; omega))
            try simp only [Act.put, List.setIfInBounds_toArray, List.set_cons_zero, List.set_cons_succ]
            refine s_take 26 (by as_aux_lemma => kernel_rfl) (by as_aux_lemma => kernel_rfl) (by as_aux_lemma => kernel_rfl) (by as_aux_lemma => kernel_rfl) HB5.out (fun oi ho => ?_)
            simp only [List.getElem?_toArray, List.getElem?_cons_succ, List.getElem?_cons_zero, Option.some.injEq] at ho
            subst ho
            refine ⟨?_, Or.inl ⟨by rfl, fun w _ => ?_⟩, ?_⟩
            rotate_left
            · (go_simp <;> with_reducible rfl)
            try simp only [Act.put, List.setIfInBounds_toArray, List.set_cons_zero, List.set_cons_succ]
            refine s_take 27 (by as_aux_lemma => kernel_rfl) (by as_aux_lemma => kernel_rfl) (by as_aux_lemma => kernel_rfl) (by as_aux_lemma => kernel_rfl) HB5.out (fun oi ho => ?_)
            simp only [List.getElem?_toArray, List.getElem?_cons_succ, List.getElem?_cons_zero, Option.some.injEq] at ho
            subst ho
            refine ⟨?_, Or.inl ⟨by rfl, fun w _ => ?_⟩, ?_⟩
            rotate_left
            · (go_simp <;> with_reducible rfl)
            try simp only [Act.put, List.setIfInBounds_toArray, List.set_cons_zero, List.set_cons_succ]
            refine s_take 28 (by as_aux_lemma => kernel_rfl) (by as_aux_lemma => kernel_rfl) (by as_aux_lemma => kernel_rfl) (by as_aux_lemma => kernel_rfl) HB5.out (fun oi ho => ?_)
            simp only [List.getElem?_toArray, List.getElem?_cons_succ, List.getElem?_cons_zero, Option.some.injEq] at ho
            subst ho
            refine ⟨?_, Or.inl ⟨by rfl, fun w _ => ?_⟩, ?_⟩
            rotate_left
            · (go_simp <;> with_reducible rfl)
            try simp only [Act.put, List.setIfInBounds_toArray, List.set_cons_zero, List.set_cons_succ]
            refine s_take 29 (by as_aux_lemma => kernel_rfl) (by as_aux_lemma => kernel_rfl) (by as_aux_lemma => kernel_rfl) (by as_aux_lemma => kernel_rfl) HB5.out (fun oi ho => ?_)
            simp only [List.getElem?_toArray, List.getElem?_cons_succ, List.getElem?_cons_zero, Option.some.injEq] at ho
            subst ho
            refine ⟨?_, Or.inl ⟨by rfl, fun w _ => ?_⟩, ?_⟩
            rotate_left
            · (go_simp <;> with_reducible rfl)
            try simp only [Act.put, List.setIfInBounds_toArray, List.set_cons_zero, List.set_cons_succ]
            refine s_all (rs := [20, 24, 30]) (by as_aux_lemma => kernel_rfl) (by simp) ?_
            refine s_step 20 (by as_aux_lemma => kernel_rfl) (fun o ho K hK => ?_) ?_
            · simp only [List.getElem?_toArray, List.getElem?_cons_succ, List.getElem?_cons_zero, Option.some.injEq] at ho
              subst ho
              go_simp
              refine K_alloc ?_
              intro w20 e20
              try have HZ24 := Lib.hid (HZ24.out.below (mk_below e20))
              try have HI30 := Lib.hid (HI30.out.below (mk_below e20))
              have HS20 := Lib.hid (below_more (HB5.out) (mk_below e20) (HB5.out).size)
              have HZ20 := Lib.hid (mk_zeros e20 (by omega)).bytes
              clear e20
              refine hK.out _ _ HS20.out ?_
              clear hK K
              try simp only [Act.put, List.setIfInBounds_toArray, List.set_cons_zero, List.set_cons_succ]
              refine s_all (rs := [24, 30]) (by as_aux_lemma => kernel_rfl) (by simp) ?_
              refine s_step 24 (by as_aux_lemma => kernel_rfl) (fun o ho K hK => ?_) ?_
              · simp only [List.getElem?_toArray, List.getElem?_cons_succ, List.getElem?_cons_zero, Option.some.injEq] at ho
                subst ho
                go_simp
                refine K_alloc ?_
                intro w24 e24
                try have HZ20 := Lib.hid (HZ20.out.below (mk_below e24))
                try have HI30 := Lib.hid (HI30.out.below (mk_below e24))
                have HS24 := Lib.hid (below_more (HS20.out) (mk_below e24) (HS20.out).size)
                have HZ24 := Lib.hid (mk_zeros e24 (by omega)).bytes
                clear e24
                refine hK.out _ _ HS24.out ?_
                clear hK K
                try simp only [Act.put, List.setIfInBounds_toArray, List.set_cons_zero, List.set_cons_succ]
                refine s_all (rs := [25, 30]) (by as_aux_lemma => kernel_rfl) (by simp) ?_
                refine s_step 25 (by as_aux_lemma => kernel_rfl) (fun o ho K hK => ?_) ?_
                · simp only [List.getElem?_toArray, List.getElem?_cons_succ, List.getElem?_cons_zero, Option.some.injEq] at ho
                  subst ho
                  go_simp
                  refine K_alloc ?_
                  intro w25 e25
                  try have HI30 := Lib.hid (HI30.out.below (mk_below e25))
                  have HS25 := Lib.hid (below_more (HS24.out) (mk_below e25) (HS24.out).size)
                  have HR25 := Lib.hid (mk_rows e25 HZ20.out HZ24.out)
                  clear e25
                  refine hK.out _ _ HS25.out ?_
                  clear hK K
                  try simp only [Act.put, List.setIfInBounds_toArray, List.set_cons_zero, List.set_cons_succ]
                  refine s_all (rs := [30]) (by as_aux_lemma => kernel_rfl) (by simp) ?_
                  refine s_step 30 (by as_aux_lemma => kernel_rfl) (fun o ho K hK => ?_) AllReadyH.nil
                  simp only [List.getElem?_toArray, List.getElem?_cons_succ, List.getElem?_cons_zero, Option.some.injEq] at ho
                  subst ho
                  go_simp
                  refine K_alloc ?_
                  intro w30 e30
                  try have HZ20 := Lib.hid (HZ20.out.below (mk_below e30))
                  try have HZ24 := Lib.hid (HZ24.out.below (mk_below e30))
                  try have HR25 := Lib.hid (HR25.out.below (mk_below e30))
                  have HS30 := Lib.hid (below_more (HS25.out) (mk_below e30) (HS25.out).size)
                  have HI30 := Lib.hid (mk_ints e30)
                  clear e30
                  refine hK.out _ _ HS30.out ?_
                  clear hK K
                  try simp only [Act.put, List.setIfInBounds_toArray, List.set_cons_zero, List.set_cons_succ]
                  refine s_all (rs := [31]) (by as_aux_lemma => kernel_rfl) (by simp) ?_
                  refine s_step 31 (by as_aux_lemma => kernel_rfl) (fun o ho K hK => ?_) AllReadyH.nil
                  simp only [List.getElem?_toArray, List.getElem?_cons_succ, List.getElem?_cons_zero, Option.some.injEq] at ho
                  subst ho
                  go_simp
                  refine (layBodies_any _ _ _ _ _ _ HR25.out HI30.out (by simp) (fun i hi => by
                    obtain rfl | rfl : i = 0 ∨ i = 1 := by simp at hi; omega
                    all_goals simp; omega) (by simp)).mono ?_
                  rintro e w31 ⟨rfl, hB31⟩
                  have HB31 := Lib.hid (below_more (HS30.out) hB31 (HS30.out).size)
                  clear hB31
                  go_wp2_with fail
                  refine hK.out _ _ HB31.out ?_
                  clear hK K
                  try simp only [Act.put, List.setIfInBounds_toArray, List.set_cons_zero, List.set_cons_succ]
                  refine s_take 32 (by as_aux_lemma => kernel_rfl) (by as_aux_lemma => kernel_rfl) (by as_aux_lemma => kernel_rfl) (by as_aux_lemma => kernel_rfl) HB31.out (fun oi ho => ?_)
                  simp only [List.getElem?_toArray, List.getElem?_cons_succ, List.getElem?_cons_zero, Option.some.injEq] at ho
                  subst ho
                  refine ⟨?_, Or.inl ⟨by rfl, fun w _ => ?_⟩, ?_⟩
                  rotate_left
                  · (go_simp <;> with_reducible rfl)
                  try simp only [Act.put, List.setIfInBounds_toArray, List.set_cons_zero, List.set_cons_succ]
                  refine s_take 33 (by as_aux_lemma => kernel_rfl) (by as_aux_lemma => kernel_rfl) (by as_aux_lemma => kernel_rfl) (by as_aux_lemma => kernel_rfl) HB31.out (fun oi ho => ?_)
                  simp only [List.getElem?_toArray, List.getElem?_cons_succ, List.getElem?_cons_zero, Option.some.injEq] at ho
                  subst ho
                  refine ⟨?_, Or.inl ⟨by rfl, fun w _ => ?_⟩, ?_⟩
                  rotate_left
                  · (go_simp <;> with_reducible rfl)
                  try simp only [Act.put, List.setIfInBounds_toArray, List.set_cons_zero, List.set_cons_succ]
                  refine s_done (by as_aux_lemma => kernel_rfl) ?_
                  go_wp2
                  go_meet
                  exact ⟨rfl, HB31.out⟩
                refine s_step 30 (by as_aux_lemma => kernel_rfl) (fun o ho K hK => ?_) ?_
                · simp only [List.getElem?_toArray, List.getElem?_cons_succ, List.getElem?_cons_zero, Option.some.injEq] at ho
                  subst ho
                  go_simp
                  refine K_alloc ?_
                  intro w30 e30
                  try have HZ20 := Lib.hid (HZ20.out.below (mk_below e30))
                  try have HZ24 := Lib.hid (HZ24.out.below (mk_below e30))
                  try have HR25 := Lib.hid (HR25.out.below (mk_below e30))
                  have HS30 := Lib.hid (below_more (HS24.out) (mk_below e30) (HS24.out).size)
                  have HI30 := Lib.hid (mk_ints e30)
                  clear e30
                  refine hK.out _ _ HS30.out ?_
                  clear hK K
                  try simp only [Act.put, List.setIfInBounds_toArray, List.set_cons_zero, List.set_cons_succ]
                  refine s_all (rs := [25]) (by as_aux_lemma => kernel_rfl) (by simp) ?_
                  refine s_step 25 (by as_aux_lemma => kernel_rfl) (fun o ho K hK => ?_) AllReadyH.nil
                  simp only [List.getElem?_toArray, List.getElem?_cons_succ, List.getElem?_cons_zero, Option.some.injEq] at ho
                  subst ho
                  go_simp
                  refine K_alloc ?_
                  intro w25 e25
                  try have HI30 := Lib.hid (HI30.out.below (mk_below e25))
                  have HS25 := Lib.hid (below_more (HS30.out) (mk_below e25) (HS30.out).size)
                  have HR25 := Lib.hid (mk_rows e25 HZ20.out HZ24.out)
                  clear e25
                  refine hK.out _ _ HS25.out ?_
                  clear hK K
                  try simp only [Act.put, List.setIfInBounds_toArray, List.set_cons_zero, List.set_cons_succ]
                  refine s_all (rs := [31]) (by as_aux_lemma => kernel_rfl) (by simp) ?_
                  refine s_step 31 (by as_aux_lemma => kernel_rfl) (fun o ho K hK => ?_) AllReadyH.nil
                  simp only [List.getElem?_toArray, List.getElem?_cons_succ, List.getElem?_cons_zero, Option.some.injEq] at ho
                  subst ho
                  go_simp
                  refine (layBodies_any _ _ _ _ _ _ HR25.out HI30.out (by simp) (fun i hi => by
                    obtain rfl | rfl : i = 0 ∨ i = 1 := by simp at hi; omega
                    all_goals simp; omega) (by simp)).mono ?_
                  rintro e w31 ⟨rfl, hB31⟩
                  have HB31 := Lib.hid (below_more (HS25.out) hB31 (HS25.out).size)
                  clear hB31
                  go_wp2_with fail
                  refine hK.out _ _ HB31.out ?_
                  clear hK K
                  try simp only [Act.put, List.setIfInBounds_toArray, List.set_cons_zero, List.set_cons_succ]
                  refine s_take 32 (by as_aux_lemma => kernel_rfl) (by as_aux_lemma => kernel_rfl) (by as_aux_lemma => kernel_rfl) (by as_aux_lemma => kernel_rfl) HB31.out (fun oi ho => ?_)
                  simp only [List.getElem?_toArray, List.getElem?_cons_succ, List.getElem?_cons_zero, Option.some.injEq] at ho
                  subst ho
                  refine ⟨?_, Or.inl ⟨by rfl, fun w _ => ?_⟩, ?_⟩
                  rotate_left
                  · (go_simp <;> with_reducible rfl)
                  try simp only [Act.put, List.setIfInBounds_toArray, List.set_cons_zero, List.set_cons_succ]
                  refine s_take 33 (by as_aux_lemma => kernel_rfl) (by as_aux_lemma => kernel_rfl) (by as_aux_lemma => kernel_rfl) (by as_aux_lemma => kernel_rfl) HB31.out (fun oi ho => ?_)
                  simp only [List.getElem?_toArray, List.getElem?_cons_succ, List.getElem?_cons_zero, Option.some.injEq] at ho
                  subst ho
                  refine ⟨?_, Or.inl ⟨by rfl, fun w _ => ?_⟩, ?_⟩
                  rotate_left
                  · (go_simp <;> with_reducible rfl)
                  try simp only [Act.put, List.setIfInBounds_toArray, List.set_cons_zero, List.set_cons_succ]
                  refine s_done (by as_aux_lemma => kernel_rfl) ?_
                  go_wp2
                  go_meet
                  exact ⟨rfl, HB31.out⟩
                exact AllReadyH.nil
              refine s_step 30 (by as_aux_lemma => kernel_rfl) (fun o ho K hK => ?_) ?_
              · simp only [List.getElem?_toArray, List.getElem?_cons_succ, List.getElem?_cons_zero, Option.some.injEq] at ho
                subst ho
                go_simp
                refine K_alloc ?_
                intro w30 e30
                try have HZ20 := Lib.hid (HZ20.out.below (mk_below e30))
                try have HZ24 := Lib.hid (HZ24.out.below (mk_below e30))
                try have HR25 := Lib.hid (HR25.out.below (mk_below e30))
                have HS30 := Lib.hid (below_more (HS20.out) (mk_below e30) (HS20.out).size)
                have HI30 := Lib.hid (mk_ints e30)
                clear e30
                refine hK.out _ _ HS30.out ?_
                clear hK K
                try simp only [Act.put, List.setIfInBounds_toArray, List.set_cons_zero, List.set_cons_succ]
                refine s_all (rs := [24]) (by as_aux_lemma => kernel_rfl) (by simp) ?_
                refine s_step 24 (by as_aux_lemma => kernel_rfl) (fun o ho K hK => ?_) AllReadyH.nil
                simp only [List.getElem?_toArray, List.getElem?_cons_succ, List.getElem?_cons_zero, Option.some.injEq] at ho
                subst ho
                go_simp
                refine K_alloc ?_
                intro w24 e24
                try have HZ20 := Lib.hid (HZ20.out.below (mk_below e24))
                try have HI30 := Lib.hid (HI30.out.below (mk_below e24))
                have HS24 := Lib.hid (below_more (HS30.out) (mk_below e24) (HS30.out).size)
                have HZ24 := Lib.hid (mk_zeros e24 (by omega)).bytes
                clear e24
                refine hK.out _ _ HS24.out ?_
                clear hK K
                try simp only [Act.put, List.setIfInBounds_toArray, List.set_cons_zero, List.set_cons_succ]
                refine s_all (rs := [25]) (by as_aux_lemma => kernel_rfl) (by simp) ?_
                refine s_step 25 (by as_aux_lemma => kernel_rfl) (fun o ho K hK => ?_) AllReadyH.nil
                simp only [List.getElem?_toArray, List.getElem?_cons_succ, List.getElem?_cons_zero, Option.some.injEq] at ho
                subst ho
                go_simp
                refine K_alloc ?_
                intro w25 e25
                try have HI30 := Lib.hid (HI30.out.below (mk_below e25))
                have HS25 := Lib.hid (below_more (HS24.out) (mk_below e25) (HS24.out).size)
                have HR25 := Lib.hid (mk_rows e25 HZ20.out HZ24.out)
                clear e25
                refine hK.out _ _ HS25.out ?_
                clear hK K
                try simp only [Act.put, List.setIfInBounds_toArray, List.set_cons_zero, List.set_cons_succ]
                refine s_all (rs := [31]) (by as_aux_lemma => kernel_rfl) (by simp) ?_
                refine s_step 31 (by as_aux_lemma => kernel_rfl) (fun o ho K hK => ?_) AllReadyH.nil
                simp only [List.getElem?_toArray, List.getElem?_cons_succ, List.getElem?_cons_zero, Option.some.injEq] at ho
                subst ho
                go_simp
                refine (layBodies_any _ _ _ _ _ _ HR25.out HI30.out (by simp) (fun i hi => by
                  obtain rfl | rfl : i = 0 ∨ i = 1 := by simp at hi; omega
                  all_goals simp; omega) (by simp)).mono ?_
                rintro e w31 ⟨rfl, hB31⟩
                have HB31 := Lib.hid (below_more (HS25.out) hB31 (HS25.out).size)
                clear hB31
                go_wp2_with fail
                refine hK.out _ _ HB31.out ?_
                clear hK K
                try simp only [Act.put, List.setIfInBounds_toArray, List.set_cons_zero, List.set_cons_succ]
                refine s_take 32 (by as_aux_lemma => kernel_rfl) (by as_aux_lemma => kernel_rfl) (by as_aux_lemma => kernel_rfl) (by as_aux_lemma => kernel_rfl) HB31.out (fun oi ho => ?_)
                simp only [List.getElem?_toArray, List.getElem?_cons_succ, List.getElem?_cons_zero, Option.some.injEq] at ho
                subst ho
                refine ⟨?_, Or.inl ⟨by rfl, fun w _ => ?_⟩, ?_⟩
                rotate_left
                · (go_simp <;> with_reducible rfl)
                try simp only [Act.put, List.setIfInBounds_toArray, List.set_cons_zero, List.set_cons_succ]
                refine s_take 33 (by as_aux_lemma => kernel_rfl) (by as_aux_lemma => kernel_rfl) (by as_aux_lemma => kernel_rfl) (by as_aux_lemma => kernel_rfl) HB31.out (fun oi ho => ?_)
                simp only [List.getElem?_toArray, List.getElem?_cons_succ, List.getElem?_cons_zero, Option.some.injEq] at ho
                subst ho
                refine ⟨?_, Or.inl ⟨by rfl, fun w _ => ?_⟩, ?_⟩
                rotate_left
                · (go_simp <;> with_reducible rfl)
                try simp only [Act.put, List.setIfInBounds_toArray, List.set_cons_zero, List.set_cons_succ]
                refine s_done (by as_aux_lemma => kernel_rfl) ?_
                go_wp2
                go_meet
                exact ⟨rfl, HB31.out⟩
              exact AllReadyH.nil
            refine s_step 24 (by as_aux_lemma => kernel_rfl) (fun o ho K hK => ?_) ?_
            · simp only [List.getElem?_toArray, List.getElem?_cons_succ, List.getElem?_cons_zero, Option.some.injEq] at ho
              subst ho
              go_simp
              refine K_alloc ?_
              intro w24 e24
              try have HZ20 := Lib.hid (HZ20.out.below (mk_below e24))
              try have HI30 := Lib.hid (HI30.out.below (mk_below e24))
              have HS24 := Lib.hid (below_more (HB5.out) (mk_below e24) (HB5.out).size)
              have HZ24 := Lib.hid (mk_zeros e24 (by omega)).bytes
              clear e24
              refine hK.out _ _ HS24.out ?_
              clear hK K
              try simp only [Act.put, List.setIfInBounds_toArray, List.set_cons_zero, List.set_cons_succ]
              refine s_all (rs := [20, 30]) (by as_aux_lemma => kernel_rfl) (by simp) ?_
              refine s_step 20 (by as_aux_lemma => kernel_rfl) (fun o ho K hK => ?_) ?_
              · simp only [List.getElem?_toArray, List.getElem?_cons_succ, List.getElem?_cons_zero, Option.some.injEq] at ho
                subst ho
                go_simp
                refine K_alloc ?_
                intro w20 e20
                try have HZ24 := Lib.hid (HZ24.out.below (mk_below e20))
                try have HI30 := Lib.hid (HI30.out.below (mk_below e20))
                have HS20 := Lib.hid (below_more (HS24.out) (mk_below e20) (HS24.out).size)
                have HZ20 := Lib.hid (mk_zeros e20 (by omega)).bytes
                clear e20
                refine hK.out _ _ HS20.out ?_
                clear hK K
                try simp only [Act.put, List.setIfInBounds_toArray, List.set_cons_zero, List.set_cons_succ]
                refine s_all (rs := [25, 30]) (by as_aux_lemma => kernel_rfl) (by simp) ?_
                refine s_step 25 (by as_aux_lemma => kernel_rfl) (fun o ho K hK => ?_) ?_
                · simp only [List.getElem?_toArray, List.getElem?_cons_succ, List.getElem?_cons_zero, Option.some.injEq] at ho
                  subst ho
                  go_simp
                  refine K_alloc ?_
                  intro w25 e25
                  try have HI30 := Lib.hid (HI30.out.below (mk_below e25))
                  have HS25 := Lib.hid (below_more (HS20.out) (mk_below e25) (HS20.out).size)
                  have HR25 := Lib.hid (mk_rows e25 HZ20.out HZ24.out)
                  clear e25
                  refine hK.out _ _ HS25.out ?_
                  clear hK K
                  try simp only [Act.put, List.setIfInBounds_toArray, List.set_cons_zero, List.set_cons_succ]
                  refine s_all (rs := [30]) (by as_aux_lemma => kernel_rfl) (by simp) ?_
                  refine s_step 30 (by as_aux_lemma => kernel_rfl) (fun o ho K hK => ?_) AllReadyH.nil
                  simp only [List.getElem?_toArray, List.getElem?_cons_succ, List.getElem?_cons_zero, Option.some.injEq] at ho
                  subst ho
                  go_simp
                  refine K_alloc ?_
                  intro w30 e30
                  try have HZ20 := Lib.hid (HZ20.out.below (mk_below e30))
                  try have HZ24 := Lib.hid (HZ24.out.below (mk_below e30))
                  try have HR25 := Lib.hid (HR25.out.below (mk_below e30))
                  have HS30 := Lib.hid (below_more (HS25.out) (mk_below e30) (HS25.out).size)
                  have HI30 := Lib.hid (mk_ints e30)
                  clear e30
                  refine hK.out _ _ HS30.out ?_
                  clear hK K
                  try simp only [Act.put, List.setIfInBounds_toArray, List.set_cons_zero, List.set_cons_succ]
                  refine s_all (rs := [31]) (by as_aux_lemma => kernel_rfl) (by simp) ?_
                  refine s_step 31 (by as_aux_lemma => kernel_rfl) (fun o ho K hK => ?_) AllReadyH.nil
                  simp only [List.getElem?_toArray, List.getElem?_cons_succ, List.getElem?_cons_zero, Option.some.injEq] at ho
                  subst ho
                  go_simp
                  refine (layBodies_any _ _ _ _ _ _ HR25.out HI30.out (by simp) (fun i hi => by
                    obtain rfl | rfl : i = 0 ∨ i = 1 := by simp at hi; omega
                    all_goals simp; omega) (by simp)).mono ?_
                  rintro e w31 ⟨rfl, hB31⟩
                  have HB31 := Lib.hid (below_more (HS30.out) hB31 (HS30.out).size)
                  clear hB31
                  go_wp2_with fail
                  refine hK.out _ _ HB31.out ?_
                  clear hK K
                  try simp only [Act.put, List.setIfInBounds_toArray, List.set_cons_zero, List.set_cons_succ]
                  refine s_take 32 (by as_aux_lemma => kernel_rfl) (by as_aux_lemma => kernel_rfl) (by as_aux_lemma => kernel_rfl) (by as_aux_lemma => kernel_rfl) HB31.out (fun oi ho => ?_)
                  simp only [List.getElem?_toArray, List.getElem?_cons_succ, List.getElem?_cons_zero, Option.some.injEq] at ho
                  subst ho
                  refine ⟨?_, Or.inl ⟨by rfl, fun w _ => ?_⟩, ?_⟩
                  rotate_left
                  · (go_simp <;> with_reducible rfl)
                  try simp only [Act.put, List.setIfInBounds_toArray, List.set_cons_zero, List.set_cons_succ]
                  refine s_take 33 (by as_aux_lemma => kernel_rfl) (by as_aux_lemma => kernel_rfl) (by as_aux_lemma => kernel_rfl) (by as_aux_lemma => kernel_rfl) HB31.out (fun oi ho => ?_)
                  simp only [List.getElem?_toArray, List.getElem?_cons_succ, List.getElem?_cons_zero, Option.some.injEq] at ho
                  subst ho
                  refine ⟨?_, Or.inl ⟨by rfl, fun w _ => ?_⟩, ?_⟩
                  rotate_left
                  · (go_simp <;> with_reducible rfl)
                  try simp only [Act.put, List.setIfInBounds_toArray, List.set_cons_zero, List.set_cons_succ]
                  refine s_done (by as_aux_lemma => kernel_rfl) ?_
                  go_wp2
                  go_meet
                  exact ⟨rfl, HB31.out⟩
                refine s_step 30 (by as_aux_lemma => kernel_rfl) (fun o ho K hK => ?_) ?_
                · simp only [List.getElem?_toArray, List.getElem?_cons_succ, List.getElem?_cons_zero, Option.some.injEq] at ho
                  subst ho
                  go_simp
                  refine K_alloc ?_
                  intro w30 e30
                  try have HZ20 := Lib.hid (HZ20.out.below (mk_below e30))
                  try have HZ24 := Lib.hid (HZ24.out.below (mk_below e30))
                  try have HR25 := Lib.hid (HR25.out.below (mk_below e30))
                  have HS30 := Lib.hid (below_more (HS20.out) (mk_below e30) (HS20.out).size)
                  have HI30 := Lib.hid (mk_ints e30)
                  clear e30
                  refine hK.out _ _ HS30.out ?_
                  clear hK K
                  try simp only [Act.put, List.setIfInBounds_toArray, List.set_cons_zero, List.set_cons_succ]
                  refine s_all (rs := [25]) (by as_aux_lemma => kernel_rfl) (by simp) ?_
                  refine s_step 25 (by as_aux_lemma => kernel_rfl) (fun o ho K hK => ?_) AllReadyH.nil
                  simp only [List.getElem?_toArray, List.getElem?_cons_succ, List.getElem?_cons_zero, Option.some.injEq] at ho
                  subst ho
                  go_simp
                  refine K_alloc ?_
                  intro w25 e25
                  try have HI30 := Lib.hid (HI30.out.below (mk_below e25))
                  have HS25 := Lib.hid (below_more (HS30.out) (mk_below e25) (HS30.out).size)
                  have HR25 := Lib.hid (mk_rows e25 HZ20.out HZ24.out)
                  clear e25
                  refine hK.out _ _ HS25.out ?_
                  clear hK K
                  try simp only [Act.put, List.setIfInBounds_toArray, List.set_cons_zero, List.set_cons_succ]
                  refine s_all (rs := [31]) (by as_aux_lemma => kernel_rfl) (by simp) ?_
                  refine s_step 31 (by as_aux_lemma => kernel_rfl) (fun o ho K hK => ?_) AllReadyH.nil
                  simp only [List.getElem?_toArray, List.getElem?_cons_succ, List.getElem?_cons_zero, Option.some.injEq] at ho
                  subst ho
                  go_simp
                  refine (layBodies_any _ _ _ _ _ _ HR25.out HI30.out (by simp) (fun i hi => by
                    obtain rfl | rfl : i = 0 ∨ i = 1 := by simp at hi; omega
                    all_goals simp; omega) (by simp)).mono ?_
                  rintro e w31 ⟨rfl, hB31⟩
                  have HB31 := Lib.hid (below_more (HS25.out) hB31 (HS25.out).size)
                  clear hB31
                  go_wp2_with fail
                  refine hK.out _ _ HB31.out ?_
                  clear hK K
                  try simp only [Act.put, List.setIfInBounds_toArray, List.set_cons_zero, List.set_cons_succ]
                  refine s_take 32 (by as_aux_lemma => kernel_rfl) (by as_aux_lemma => kernel_rfl) (by as_aux_lemma => kernel_rfl) (by as_aux_lemma => kernel_rfl) HB31.out (fun oi ho => ?_)
                  simp only [List.getElem?_toArray, List.getElem?_cons_succ, List.getElem?_cons_zero, Option.some.injEq] at ho
                  subst ho
                  refine ⟨?_, Or.inl ⟨by rfl, fun w _ => ?_⟩, ?_⟩
                  rotate_left
                  · (go_simp <;> with_reducible rfl)
                  try simp only [Act.put, List.setIfInBounds_toArray, List.set_cons_zero, List.set_cons_succ]
                  refine s_take 33 (by as_aux_lemma => kernel_rfl) (by as_aux_lemma => kernel_rfl) (by as_aux_lemma => kernel_rfl) (by as_aux_lemma => kernel_rfl) HB31.out (fun oi ho => ?_)
                  simp only [List.getElem?_toArray, List.getElem?_cons_succ, List.getElem?_cons_zero, Option.some.injEq] at ho
                  subst ho
                  refine ⟨?_, Or.inl ⟨by rfl, fun w _ => ?_⟩, ?_⟩
                  rotate_left
                  · (go_simp <;> with_reducible rfl)
                  try simp only [Act.put, List.setIfInBounds_toArray, List.set_cons_zero, List.set_cons_succ]
                  refine s_done (by as_aux_lemma => kernel_rfl) ?_
                  go_wp2
                  go_meet
                  exact ⟨rfl, HB31.out⟩
                exact AllReadyH.nil
              refine s_step 30 (by as_aux_lemma => kernel_rfl) (fun o ho K hK => ?_) ?_
              · simp only [List.getElem?_toArray, List.getElem?_cons_succ, List.getElem?_cons_zero, Option.some.injEq] at ho
                subst ho
                go_simp
                refine K_alloc ?_
                intro w30 e30
                try have HZ20 := Lib.hid (HZ20.out.below (mk_below e30))
                try have HZ24 := Lib.hid (HZ24.out.below (mk_below e30))
                try have HR25 := Lib.hid (HR25.out.below (mk_below e30))
                have HS30 := Lib.hid (below_more (HS24.out) (mk_below e30) (HS24.out).size)
                have HI30 := Lib.hid (mk_ints e30)
                clear e30
                refine hK.out _ _ HS30.out ?_
                clear hK K
                try simp only [Act.put, List.setIfInBounds_toArray, List.set_cons_zero, List.set_cons_succ]
                refine s_all (rs := [20]) (by as_aux_lemma => kernel_rfl) (by simp) ?_
                refine s_step 20 (by as_aux_lemma => kernel_rfl) (fun o ho K hK => ?_) AllReadyH.nil
                simp only [List.getElem?_toArray, List.getElem?_cons_succ, List.getElem?_cons_zero, Option.some.injEq] at ho
                subst ho
                go_simp
                refine K_alloc ?_
                intro w20 e20
                try have HZ24 := Lib.hid (HZ24.out.below (mk_below e20))
                try have HI30 := Lib.hid (HI30.out.below (mk_below e20))
                have HS20 := Lib.hid (below_more (HS30.out) (mk_below e20) (HS30.out).size)
                have HZ20 := Lib.hid (mk_zeros e20 (by omega)).bytes
                clear e20
                refine hK.out _ _ HS20.out ?_
                clear hK K
                try simp only [Act.put, List.setIfInBounds_toArray, List.set_cons_zero, List.set_cons_succ]
                refine s_all (rs := [25]) (by as_aux_lemma => kernel_rfl) (by simp) ?_
                refine s_step 25 (by as_aux_lemma => kernel_rfl) (fun o ho K hK => ?_) AllReadyH.nil
                simp only [List.getElem?_toArray, List.getElem?_cons_succ, List.getElem?_cons_zero, Option.some.injEq] at ho
                subst ho
                go_simp
                refine K_alloc ?_
                intro w25 e25
                try have HI30 := Lib.hid (HI30.out.below (mk_below e25))
                have HS25 := Lib.hid (below_more (HS20.out) (mk_below e25) (HS20.out).size)
                have HR25 := Lib.hid (mk_rows e25 HZ20.out HZ24.out)
                clear e25
                refine hK.out _ _ HS25.out ?_
                clear hK K
                try simp only [Act.put, List.setIfInBounds_toArray, List.set_cons_zero, List.set_cons_succ]
                refine s_all (rs := [31]) (by as_aux_lemma => kernel_rfl) (by simp) ?_
                refine s_step 31 (by as_aux_lemma => kernel_rfl) (fun o ho K hK => ?_) AllReadyH.nil
                simp only [List.getElem?_toArray, List.getElem?_cons_succ, List.getElem?_cons_zero, Option.some.injEq] at ho
                subst ho
                go_simp
                refine (layBodies_any _ _ _ _ _ _ HR25.out HI30.out (by simp) (fun i hi => by
                  obtain rfl | rfl : i = 0 ∨ i = 1 := by simp at hi; omega
                  all_goals simp; omega) (by simp)).mono ?_
                rintro e w31 ⟨rfl, hB31⟩
                have HB31 := Lib.hid (below_more (HS25.out) hB31 (HS25.out).size)
                clear hB31
                go_wp2_with fail
                refine hK.out _ _ HB31.out ?_
                clear hK K
                try simp only [Act.put, List.setIfInBounds_toArray, List.set_cons_zero, List.set_cons_succ]
                refine s_take 32 (by as_aux_lemma => kernel_rfl) (by as_aux_lemma => kernel_rfl) (by as_aux_lemma => kernel_rfl) (by as_aux_lemma => kernel_rfl) HB31.out (fun oi ho => ?_)
                simp only [List.getElem?_toArray, List.getElem?_cons_succ, List.getElem?_cons_zero, Option.some.injEq] at ho
                subst ho
                refine ⟨?_, Or.inl ⟨by rfl, fun w _ => ?_⟩, ?_⟩
                rotate_left
                · (go_simp <;> with_reducible rfl)
                try simp only [Act.put, List.setIfInBounds_toArray, List.set_cons_zero, List.set_cons_succ]
                refine s_take 33 (by as_aux_lemma => kernel_rfl) (by as_aux_lemma => kernel_rfl) (by as_aux_lemma => kernel_rfl) (by as_aux_lemma => kernel_rfl) HB31.out (fun oi ho => ?_)
                simp only [List.getElem?_toArray, List.getElem?_cons_succ, List.getElem?_cons_zero, Option.some.injEq] at ho
                subst ho
                refine ⟨?_, Or.inl ⟨by rfl, fun w _ => ?_⟩, ?_⟩
                rotate_left
                · (go_simp <;> with_reducible rfl)
                try simp only [Act.put, List.setIfInBounds_toArray, List.set_cons_zero, List.set_cons_succ]
                refine s_done (by as_aux_lemma => kernel_rfl) ?_
                go_wp2
                go_meet
                exact ⟨rfl, HB31.out⟩
              exact AllReadyH.nil
            refine s_step 30 (by as_aux_lemma => kernel_rfl) (fun o ho K hK => ?_) ?_
            · simp only [List.getElem?_toArray, List.getElem?_cons_succ, List.getElem?_cons_zero, Option.some.injEq] at ho
              subst ho
              go_simp
              refine K_alloc ?_
              intro w30 e30
              try have HZ20 := Lib.hid (HZ20.out.below (mk_below e30))
              try have HZ24 := Lib.hid (HZ24.out.below (mk_below e30))
              try have HR25 := Lib.hid (HR25.out.below (mk_below e30))
              have HS30 := Lib.hid (below_more (HB5.out) (mk_below e30) (HB5.out).size)
              have HI30 := Lib.hid (mk_ints e30)
              clear e30
              refine hK.out _ _ HS30.out ?_
              clear hK K
              try simp only [Act.put, List.setIfInBounds_toArray, List.set_cons_zero, List.set_cons_succ]
              refine s_all (rs := [20, 24]) (by as_aux_lemma => kernel_rfl) (by simp) ?_
              refine s_step 20 (by as_aux_lemma => kernel_rfl) (fun o ho K hK => ?_) ?_
              · simp only [List.getElem?_toArray, List.getElem?_cons_succ, List.getElem?_cons_zero, Option.some.injEq] at ho
                subst ho
                go_simp
                refine K_alloc ?_
                intro w20 e20
                try have HZ24 := Lib.hid (HZ24.out.below (mk_below e20))
                try have HI30 := Lib.hid (HI30.out.below (mk_below e20))
                have HS20 := Lib.hid (below_more (HS30.out) (mk_below e20) (HS30.out).size)
                have HZ20 := Lib.hid (mk_zeros e20 (by omega)).bytes
                clear e20
                refine hK.out _ _ HS20.out ?_
                clear hK K
                try simp only [Act.put, List.setIfInBounds_toArray, List.set_cons_zero, List.set_cons_succ]
                refine s_all (rs := [24]) (by as_aux_lemma => kernel_rfl) (by simp) ?_
                refine s_step 24 (by as_aux_lemma => kernel_rfl) (fun o ho K hK => ?_) AllReadyH.nil
                simp only [List.getElem?_toArray, List.getElem?_cons_succ, List.getElem?_cons_zero, Option.some.injEq] at ho
                subst ho
                go_simp
                refine K_alloc ?_
                intro w24 e24
                try have HZ20 := Lib.hid (HZ20.out.below (mk_below e24))
                try have HI30 := Lib.hid (HI30.out.below (mk_below e24))
                have HS24 := Lib.hid (below_more (HS20.out) (mk_below e24) (HS20.out).size)
                have HZ24 := Lib.hid (mk_zeros e24 (by omega)).bytes
                clear e24
                refine hK.out _ _ HS24.out ?_
                clear hK K
                try simp only [Act.put, List.setIfInBounds_toArray, List.set_cons_zero, List.set_cons_succ]
                refine s_all (rs := [25]) (by as_aux_lemma => kernel_rfl) (by simp) ?_
                refine s_step 25 (by as_aux_lemma => kernel_rfl) (fun o ho K hK => ?_) AllReadyH.nil
                simp only [List.getElem?_toArray, List.getElem?_cons_succ, List.getElem?_cons_zero, Option.some.injEq] at ho
                subst ho
                go_simp
                refine K_alloc ?_
                intro w25 e25
                try have HI30 := Lib.hid (HI30.out.below (mk_below e25))
                have HS25 := Lib.hid (below_more (HS24.out) (mk_below e25) (HS24.out).size)
                have HR25 := Lib.hid (mk_rows e25 HZ20.out HZ24.out)
                clear e25
                refine hK.out _ _ HS25.out ?_
                clear hK K
                try simp only [Act.put, List.setIfInBounds_toArray, List.set_cons_zero, List.set_cons_succ]
                refine s_all (rs := [31]) (by as_aux_lemma => kernel_rfl) (by simp) ?_
                refine s_step 31 (by as_aux_lemma => kernel_rfl) (fun o ho K hK => ?_) AllReadyH.nil
                simp only [List.getElem?_toArray, List.getElem?_cons_succ, List.getElem?_cons_zero, Option.some.injEq] at ho
                subst ho
                go_simp
                refine (layBodies_any _ _ _ _ _ _ HR25.out HI30.out (by simp) (fun i hi => by
                  obtain rfl | rfl : i = 0 ∨ i = 1 := by simp at hi; omega
                  all_goals simp; omega) (by simp)).mono ?_
                rintro e w31 ⟨rfl, hB31⟩
                have HB31 := Lib.hid (below_more (HS25.out) hB31 (HS25.out).size)
                clear hB31
                go_wp2_with fail
                refine hK.out _ _ HB31.out ?_
                clear hK K
                try simp only [Act.put, List.setIfInBounds_toArray, List.set_cons_zero, List.set_cons_succ]
                refine s_take 32 (by as_aux_lemma => kernel_rfl) (by as_aux_lemma => kernel_rfl) (by as_aux_lemma => kernel_rfl) (by as_aux_lemma => kernel_rfl) HB31.out (fun oi ho => ?_)
                simp only [List.getElem?_toArray, List.getElem?_cons_succ, List.getElem?_cons_zero, Option.some.injEq] at ho
                subst ho
                refine ⟨?_, Or.inl ⟨by rfl, fun w _ => ?_⟩, ?_⟩
                rotate_left
                · (go_simp <;> with_reducible rfl)
                try simp only [Act.put, List.setIfInBounds_toArray, List.set_cons_zero, List.set_cons_succ]
                refine s_take 33 (by as_aux_lemma => kernel_rfl) (by as_aux_lemma => kernel_rfl) (by as_aux_lemma => kernel_rfl) (by as_aux_lemma => kernel_rfl) HB31.out (fun oi ho => ?_)
                simp only [List.getElem?_toArray, List.getElem?_cons_succ, List.getElem?_cons_zero, Option.some.injEq] at ho
                subst ho
                refine ⟨?_, Or.inl ⟨by rfl, fun w _ => ?_⟩, ?_⟩
                rotate_left
                · (go_simp <;> with_reducible rfl)
                try simp only [Act.put, List.setIfInBounds_toArray, List.set_cons_zero, List.set_cons_succ]
                refine s_done (by as_aux_lemma => kernel_rfl) ?_
                go_wp2
                go_meet
                exact ⟨rfl, HB31.out⟩
              refine s_step 24 (by as_aux_lemma => kernel_rfl) (fun o ho K hK => ?_) ?_
              · simp only [List.getElem?_toArray, List.getElem?_cons_succ, List.getElem?_cons_zero, Option.some.injEq] at ho
                subst ho
                go_simp
                refine K_alloc ?_
                intro w24 e24
                try have HZ20 := Lib.hid (HZ20.out.below (mk_below e24))
                try have HI30 := Lib.hid (HI30.out.below (mk_below e24))
                have HS24 := Lib.hid (below_more (HS30.out) (mk_below e24) (HS30.out).size)
                have HZ24 := Lib.hid (mk_zeros e24 (by omega)).bytes
                clear e24
                refine hK.out _ _ HS24.out ?_
                clear hK K
                try simp only [Act.put, List.setIfInBounds_toArray, List.set_cons_zero, List.set_cons_succ]
                refine s_all (rs := [20]) (by as_aux_lemma => kernel_rfl) (by simp) ?_
                refine s_step 20 (by as_aux_lemma => kernel_rfl) (fun o ho K hK => ?_) AllReadyH.nil
                simp only [List.getElem?_toArray, List.getElem?_cons_succ, List.getElem?_cons_zero, Option.some.injEq] at ho
                subst ho
                go_simp
                refine K_alloc ?_
                intro w20 e20
                try have HZ24 := Lib.hid (HZ24.out.below (mk_below e20))
                try have HI30 := Lib.hid (HI30.out.below (mk_below e20))
                have HS20 := Lib.hid (below_more (HS24.out) (mk_below e20) (HS24.out).size)
                have HZ20 := Lib.hid (mk_zeros e20 (by omega)).bytes
                clear e20
                refine hK.out _ _ HS20.out ?_
                clear hK K
                try simp only [Act.put, List.setIfInBounds_toArray, List.set_cons_zero, List.set_cons_succ]
                refine s_all (rs := [25]) (by as_aux_lemma => kernel_rfl) (by simp) ?_
                refine s_step 25 (by as_aux_lemma => kernel_rfl) (fun o ho K hK => ?_) AllReadyH.nil
                simp only [List.getElem?_toArray, List.getElem?_cons_succ, List.getElem?_cons_zero, Option.some.injEq] at ho
                subst ho
                go_simp
                refine K_alloc ?_
                intro w25 e25
                try have HI30 := Lib.hid (HI30.out.below (mk_below e25))
                have HS25 := Lib.hid (below_more (HS20.out) (mk_below e25) (HS20.out).size)
                have HR25 := Lib.hid (mk_rows e25 HZ20.out HZ24.out)
                clear e25
                refine hK.out _ _ HS25.out ?_
                clear hK K
                try simp only [Act.put, List.setIfInBounds_toArray, List.set_cons_zero, List.set_cons_succ]
                refine s_all (rs := [31]) (by as_aux_lemma => kernel_rfl) (by simp) ?_
                refine s_step 31 (by as_aux_lemma => kernel_rfl) (fun o ho K hK => ?_) AllReadyH.nil
                simp only [List.getElem?_toArray, List.getElem?_cons_succ, List.getElem?_cons_zero, Option.some.injEq] at ho
                subst ho
                go_simp
                refine (layBodies_any _ _ _ _ _ _ HR25.out HI30.out (by simp) (fun i hi => by
                  obtain rfl | rfl : i = 0 ∨ i = 1 := by simp at hi; omega
                  all_goals simp; omega) (by simp)).mono ?_
                rintro e w31 ⟨rfl, hB31⟩
                have HB31 := Lib.hid (below_more (HS25.out) hB31 (HS25.out).size)
                clear hB31
                go_wp2_with fail
                refine hK.out _ _ HB31.out ?_
                clear hK K
                try simp only [Act.put, List.setIfInBounds_toArray, List.set_cons_zero, List.set_cons_succ]
                refine s_take 32 (by as_aux_lemma => kernel_rfl) (by as_aux_lemma => kernel_rfl) (by as_aux_lemma => kernel_rfl) (by as_aux_lemma => kernel_rfl) HB31.out (fun oi ho => ?_)
                simp only [List.getElem?_toArray, List.getElem?_cons_succ, List.getElem?_cons_zero, Option.some.injEq] at ho
                subst ho
                refine ⟨?_, Or.inl ⟨by rfl, fun w _ => ?_⟩, ?_⟩
                rotate_left
                · (go_simp <;> with_reducible rfl)
                try simp only [Act.put, List.setIfInBounds_toArray, List.set_cons_zero, List.set_cons_succ]
                refine s_take 33 (by as_aux_lemma => kernel_rfl) (by as_aux_lemma => kernel_rfl) (by as_aux_lemma => kernel_rfl) (by as_aux_lemma => kernel_rfl) HB31.out (fun oi ho => ?_)
                simp only [List.getElem?_toArray, List.getElem?_cons_succ, List.getElem?_cons_zero, Option.some.injEq] at ho
                subst ho
                refine ⟨?_, Or.inl ⟨by rfl, fun w _ => ?_⟩, ?_⟩
                rotate_left
                · (go_simp <;> with_reducible rfl)
                try simp only [Act.put, List.setIfInBounds_toArray, List.set_cons_zero, List.set_cons_succ]
                refine s_done (by as_aux_lemma => kernel_rfl) ?_
                go_wp2
                go_meet
                exact ⟨rfl, HB31.out⟩
              exact AllReadyH.nil
            exact AllReadyH.nil
          case rest =>
            obtain ⟨rfl, hB4⟩ := hcut
            have HB4 := Lib.hid hB4
            clear hB4
            obtain ⟨w4, rfl⟩ : ∃ x, x = wc := ⟨_, rfl⟩
            obtain ⟨t, ht⟩ : ∃ x, [((j : Int) % 4, (j : Int) / 4 % 4), ((j : Int) / 16, 3 - (j : Int) % 4)] = x := ⟨_, rfl⟩
            rw [ht] at HT3
            clear ht
            go_wp2_with fail
            refine (rlong_any _ _ _ t (HT3.out.below HB4.out)).mono ?_
            rintro e w5 ⟨rfl, hB5⟩
            have HB35 := Lib.hid (below_more HB4.out hB5 HB4.out.size)
            have HT5 := Lib.hid (HT3.out.below HB35.out)
            have HB5 := Lib.hid (below_more HB3.out HB35.out HB3.out.size)
            obtain ⟨L, hL, hL2⟩ := longV_nat ((k : Int) - 1) t
            obtain ⟨E, hE⟩ : ∃ x, tabE ((k : Int) - 1) t = x := ⟨_, rfl⟩
            rw [hL, hE]
            clear hB5 hE hL
            go_wp2
            go_loopw [4, 7, 8, 9] (fun vh i _ _ wr => ∃ (r : Nat) (hs : List (Int × List B)), r ≤ k ∧ i = .int .i64 (r : Int) ∧ hs.length ≤ r ∧ HeldO wr w5.heap.size vh hs ∧ Below w5.heap.size w5 wr ∧ ∀ i, (hs.getD i (0, [])).2.length ≤ 600000) (fun _ i _ _ _ => k - (intOf i).toNat)
            case atStart => exact ⟨0, [], by omega, rfl, Nat.le_refl _, HeldO.nil _ _, Below.refl _ _, fun i => by simp⟩
            case round =>
              obtain ⟨w6, rfl⟩ : ∃ x, x = wr := ⟨_, rfl⟩
              obtain ⟨r, hs, hr, rfl, hhl, hh, hB, hw⟩ := hrel
              obtain ⟨pv, cv, rfl⟩ := hh.shape
              obtain ⟨m0, hm0⟩ : ∃ x, hs.length = x := ⟨_, rfl⟩
              have HM0 := Lib.hid hm0
              have HH6 := Lib.hid hh
              have HB6 := Lib.hid hB
              have HW6 := Lib.hid hw
              rw [hm0] at hhl HH6 ⊢
              clear hh hB hw hm0
              by_cases hri : (r : Int) < (k : Int) - 1 ∧ E = 0
              · obtain ⟨hri, rfl⟩ := hri
                have hmk : ∀ W : World, (Instr.makeSlice 50 (.int .i64 (L : Int)) (.int .i64 (L : Int))).run Tryz.prog W = .ok (.slice (some ⟨W.heap.size, 0, none⟩) L L) (W.alloc (.cells (Array.replicate L (.int .u8 0)) 5)) := fun W => run_make_one (w := W) 50 5 (.int .u8 0) 1 Tryz.underlying50 infoB rfl (by omega) _ (by omega)
                go_wp2_with fail
                rotate_left
                · go_roundw
                  case rel => exact ⟨r + 1, hs, by omega, by go_num, by rw [HM0.out]; omega, HH6.out, HB6.out, HW6.out⟩
                  case measure => simp [intOf]; omega
                clear hmk
                have HF7 := Lib.hid (RowF.made w6 L)
                have HB7 := Lib.hid (balT w6 (.cells (Array.replicate L (.int .u8 0)) 5))
                generalize w6.alloc (.cells (Array.replicate L (.int .u8 0)) 5) = w7 at *
                go_loopw [9] (fun q wr => ∃ (s : Nat) (l : List B), s ≤ L ∧ q = .int .i64 (s : Int) ∧ l.length = L ∧ RowF wr w6.heap.size l ∧ Below w6.heap.size w6 wr) (fun q _ => L - (intOf q).toNat)
                case atStart => exact ⟨0, _, Nat.zero_le _, rfl, by simp, HF7.out, HB7.out⟩
                case round =>
                  obtain ⟨w8, rfl⟩ : ∃ x, x = wr := ⟨_, rfl⟩
                  obtain ⟨s, l, hs', rfl, hl, hf, hB⟩ := hrel
                  have HF8 := Lib.hid hf
                  have HB8 := Lib.hid hB
                  have HL8 := Lib.hid hl
                  by_cases hsl : s < L
                  · have hsl' : (s : Int) < (L : Int) := by omega
                    have d1 := hf.cell (i := s) (by omega)
                    have d2 := hf.fz s
                    obtain ⟨l', h1, h2⟩ := hf.setAny (i := s) (by omega) ((r : Int) * 50 + (s : Int) * 7 + (j : Int))
                    have H2 := Lib.hid h2
                    clear hf hB h2
                    go_wp2
                    go_roundw
                    case rel => exact ⟨s + 1, l', by omega, by go_num, by rw [h1, HL8.out], H2.out, HB8.out.setCell (Nat.le_refl _) _⟩
                    case measure => simp [intOf]; omega
                  · obtain rfl : s = L := by omega
                    clear hf hB
                    have hs5 : w5.heap.size ≤ w6.heap.size := HB6.out.size
                    have hs6 : w6.heap.size ≤ w8.heap.size := HB8.out.size
                    have HO8 := Lib.hid (HF8.out.own (base := w5.heap.size) hs5 (by rw [HL8.out]; unfold maxLen; omega))
                    rw [HL8.out] at HO8
                    have HH8 := Lib.hid (HH6.out.below HB8.out)
                    have HV1 := Lib.hid (HeldO.one (ix := (r : Int)) (W := w8) rfl HO8.out rfl (Nat.le_trans hs5 hs6))
                    have HB9 := Lib.hid (balT w8 (.cells #[.int .i64 (r : Int), .slice (some ⟨w6.heap.size, 0, none⟩) s s] 54))
                    have hs9 := HB9.out.size
                    go_wp2_with (at_builtin; refine app_heldN rfl _ _ rfl w5.heap.size m0 _ _ (r : Int) l hs HM0.out w8 HH8.out HB9.out HV1.out (fun b e => Nat.le_of_eq (own_is e)) rfl rfl (by omega) (by omega) ?_; intro v' w10 hO hk)
                    have HB10 := Lib.hid ((HB6.out.trans (HB8.out.mono hs5)).trans ((HB9.out.mono (Nat.le_trans hs5 hs6)).trans (hk.toBelow (Nat.le_trans hs5 (Nat.le_trans hs6 hs9)) (fun b e => by have : w8.heap.size = b := own_is e; omega))))
                    have HO10 := Lib.hid hO
                    clear hO hk
                    go_roundw
                    case rel =>
                      refine ⟨r + 1, (r, l) :: hs, by omega, by go_num, by rw [List.length_cons, HM0.out]; omega, HO10.out, HB10.out, fun i => ?_⟩
                      cases i with
                      | zero => simp [HL8.out]; omega
                      | succ i => simpa using HW6.out i
                    case measure => simp [intOf]; omega
              · have hri' : ¬ (r : Int) < (k : Int) - 1 ∨ ((r : Int) < (k : Int) - 1 ∧ E ≠ 0) := by omega
                have hmk : ∀ W : World, (Instr.makeSlice 50 (.int .i64 (L : Int)) (.int .i64 (L : Int))).run Tryz.prog W = .ok (.slice (some ⟨W.heap.size, 0, none⟩) L L) (W.alloc (.cells (Array.replicate L (.int .u8 0)) 5)) := fun W => run_make_one (w := W) 50 5 (.int .u8 0) 1 Tryz.underlying50 infoB rfl (by omega) _ (by omega)
                have hmk1 : ∀ W : World, (Instr.makeSlice 50 (.int .i64 ((L : Int) + 1)) (.int .i64 ((L : Int) + 1))).run Tryz.prog W = .ok (.slice (some ⟨W.heap.size, 0, none⟩) (L + 1) (L + 1)) (W.alloc (.cells (Array.replicate (L + 1) (.int .u8 0)) 5)) := fun W => run_make_one (w := W) 50 5 (.int .u8 0) 1 Tryz.underlying50 infoB rfl (by omega) (L + 1) (by omega)
                rcases hri' with q | ⟨q, q2⟩
                all_goals
                  go_wp2_with fail
                  refine (layGathers_any w6 _ _ _ t hs (HT5.out.below HB6.out) HH6.out.held (by have := HH6.out.cap; rw [HM0.out] at this ⊢; exact this) (by rw [HM0.out]; omega) (fun i hi => by have := HW6.out i; omega)).mono ?_
                  rintro e w7 ⟨rfl, hB7⟩
                  have HB7 := Lib.hid (below_more HB6.out hB7 HB6.out.size)
                  have HH7 := Lib.hid (HH6.out.below hB7)
                  clear hB7
                  have hs7 := HB7.out.size
                  have HO7 := Lib.hid (((RowF.made w7 L).own (base := w5.heap.size) hs7 (by simp; unfold maxLen; omega)))
                  rw [List.length_replicate] at HO7
                  have HA7 := Lib.hid (balT w7 (.cells (Array.replicate L (.int .u8 0)) 5))
                  have HL7 := Lib.hid (balT (w7.alloc (.cells (Array.replicate L (.int .u8 0)) 5)) (.cells #[.int .i64 ((j : Int) % 6), .slice (some ⟨w7.heap.size, 0, none⟩) L L] 54))
                  have HC7 := Lib.hid (lit_held w7 (.cells (Array.replicate L (.int .u8 0)) 5) ((j : Int) % 6) (.slice (some ⟨w7.heap.size, 0, none⟩) L L))
                  have HAL := Lib.hid (below_more HA7.out HL7.out HA7.out.size)
                  go_wp2_with (at_builtin; refine app_held1 (by rfl) _ _ rfl w5.heap.size m0 _ hs HM0.out (HH7.out.below HAL.out) ((j : Int) % 6) _ (List.replicate L 0) _ (HO7.out.alloc _) rfl (fun b e e2 => by have h1 : w7.heap.size = b := own_is e; have h2 := HH7.out.lt b e2; omega) HC7.out.1 HC7.out.2 rfl rfl (by omega) (Nat.le_trans hs7 HAL.out.size) ?_; intro g8 c8 w8 hO hP hk)
                  have HB8 := Lib.hid (HB7.out.trans ((HAL.out.mono hs7).trans (hk.toBelow (Nat.le_trans hs7 HAL.out.size) (fun b e => by have := HH7.out.lt b e; omega))))
                  have HO8 := Lib.hid hO
                  have HH8 := Lib.hid hP
                  clear hO hP hk
                  refine (layGathers_any w8 _ _ _ t (hs ++ [(_, List.replicate L 0)]) (HT5.out.below HB8.out) (by have := HO8.out.held; exact this) (by have := HO8.out.cap; rw [List.length_append, HM0.out] at this ⊢; exact this) (by rw [List.length_append, HM0.out]; simp; omega) (fun i hi => by
                    have := HW6.out i
                    rw [List.getD_eq_getElem?_getD] at this ⊢
                    by_cases e : i < hs.length
                    · rw [List.getElem?_append_left e]; omega
                    · rw [List.getElem?_append_right (by omega)]
                      rw [List.length_append] at hi
                      simp at hi
                      rw [show i - hs.length = 0 by omega]
                      simp
                      omega)).mono ?_
                  rintro e w9 ⟨rfl, hB9⟩
                  have HB9 := Lib.hid (below_more HB8.out hB9 HB8.out.size)
                  have HH9 := Lib.hid (HH8.out.below hB9)
                  clear hB9 hs7
                  have hs9 := HB9.out.size
                  have HO9 := Lib.hid (((RowF.made w9 (L + 1)).own (base := w5.heap.size) hs9 (by simp; unfold maxLen; omega)))
                  rw [List.length_replicate] at HO9
                  have HA9 := Lib.hid (balT w9 (.cells (Array.replicate (L + 1) (.int .u8 0)) 5))
                  have HL9 := Lib.hid (balT (w9.alloc (.cells (Array.replicate (L + 1) (.int .u8 0)) 5)) (.cells #[.int .i64 0, .slice (some ⟨w9.heap.size, 0, none⟩) (L + 1) (L + 1)] 54))
                  have HC9 := Lib.hid (lit_held w9 (.cells (Array.replicate (L + 1) (.int .u8 0)) 5) 0 (.slice (some ⟨w9.heap.size, 0, none⟩) (L + 1) (L + 1)))
                  have HAL9 := Lib.hid (below_more HA9.out HL9.out HA9.out.size)
                  go_wp2_with (at_builtin; refine app_held1 (by rfl) _ _ rfl w5.heap.size m0 _ hs HM0.out (HH9.out.below HAL9.out) 0 _ (List.replicate (L + 1) 0) _ (HO9.out.alloc _) rfl (fun b e e2 => by have h1 : w9.heap.size = b := own_is e; have h2 := HH9.out.lt b e2; omega) HC9.out.1 HC9.out.2 rfl rfl (by omega) (Nat.le_trans hs9 HAL9.out.size) ?_; intro g10 c10 w10 hO hP hk)
                  have HB10 := Lib.hid (HB9.out.trans ((HAL9.out.mono hs9).trans (hk.toBelow (Nat.le_trans hs9 HAL9.out.size) (fun b e => by have := HH9.out.lt b e; omega))))
                  have HO10 := Lib.hid hO
                  clear hO hP hk
                  refine (layGathers_any w10 _ _ _ t (hs ++ [(_, List.replicate (L + 1) 0)]) (HT5.out.below HB10.out) (by have := HO10.out.held; exact this) (by have := HO10.out.cap; rw [List.length_append, HM0.out] at this ⊢; exact this) (by rw [List.length_append, HM0.out]; simp; omega) (fun i hi => by
                    have := HW6.out i
                    rw [List.getD_eq_getElem?_getD] at this ⊢
                    by_cases e : i < hs.length
                    · rw [List.getElem?_append_left e]; omega
                    · rw [List.getElem?_append_right (by omega)]
                      rw [List.length_append] at hi
                      simp at hi
                      rw [show i - hs.length = 0 by omega]
                      simp
                      omega)).mono ?_
                  rintro e w11 ⟨rfl, hB11⟩
                  have HB11 := Lib.hid (below_more HB5.out (below_more HB10.out hB11 HB10.out.size) HB5.out.size)
                  clear hB11
                  go_wp2
                  go_roundw
                  case rel => exact ⟨j + 1, by omega, by go_num, HB11.out⟩
                  case measure => simp [intOf]; omega
        · obtain rfl : j = 64 := by omega
          go_wp2
          go_roundw
          case rel => exact ⟨k + 1, by omega, by go_num, HB2.out⟩
          case measure => simp [intOf]; omega
    · have hk6 : ¬ (k : Int) - 1 < 5 := by omega
      go_wp2
      go_loopw [10, 11] (fun v i wr => ∃ (r : Nat) (t : List (Int × Int)), r ≤ 9 ∧ i = .int .i64 (r : Int) ∧ t.length = r ∧ wr.ownsRow w1.heap.size 48 2 v r (tc t) ∧ Below w1.heap.size w1 wr) (fun _ i _ => 9 - (intOf i).toNat)
      case atStart => exact ⟨0, [], Nat.zero_le _, rfl, rfl, World.ownsRow_nil _ _ _ _, Below.refl _ _⟩
      case round =>
        obtain ⟨w2, rfl⟩ : ∃ x, x = wr := ⟨_, rfl⟩
        obtain ⟨r, t, hr, rfl, htl, ho, hB⟩ := hrel
        obtain ⟨pt, ct, rfl⟩ := own_shapeL ho
        have HO := Lib.hid ho
        have HB := Lib.hid hB
        have HTL := Lib.hid htl
        have hsr := hB.size
        clear ho hB htl
        by_cases hr9 : r < 9
        · have hr9' : (r : Int) < 9 := by omega
          go_wp2_with (at_builtin; refine app_el 36 48 2 16 _ Tryz.underlying36 infoT rfl (by decide) rfl _ _ rfl w1.heap.size r _ (tc t) rfl HO.out [.int .i64 (1 + (r : Int) / 3), .int .i64 (r : Int)] rfl (by simp [Value.oneCell']) rfl (by omega) hsr ?_; intro g' c' w3 hO hk hs hg)
          have HB3 := Lib.hid (HB.out.trans (hk.toBelow hsr (fun b e => (HO.out.lt b e).1)))
          go_roundw
          case rel => exact ⟨r + 1, t ++ [(1 + (r : Int) / 3, (r : Int))], by omega, by go_num, by rw [List.length_append, HTL.out]; rfl, by rw [tc_app]; exact hO, HB3.out⟩
          case measure => simp [intOf]; omega
        · have hr9' : ¬ (r : Int) < 9 := by omega
          have hr99 : 9 ≤ r := by omega
          have HT2 := Lib.hid (TableAt.of_owns (t := t) (by rw [HTL.out]; exact HO.out))
          have hct : 9 ≤ ct := by
            obtain ⟨_, _, e, hc, _⟩ := HT2.out
            simp only [Value.slice.injEq] at e
            have := HTL.out
            omega
          have hct' : (8 : Int) ≤ (ct : Int) := by omega
          clear HO hsr
          have HE3 := Lib.hid (litTs w2 [(1, 65535), (1, 65536), (255, 65535), (256, 1), (1, -1), (-1, 1)] #[.int .i64 1, .int .i64 65535, .int .i64 1, .int .i64 65536, .int .i64 255, .int .i64 65535, .int .i64 256, .int .i64 1, .int .i64 1, .int .i64 (-1), .int .i64 (-1), .int .i64 1] 6 w2.heap.size rfl rfl (fun i hi => by
            obtain rfl | rfl | rfl | rfl | rfl | rfl : i = 0 ∨ i = 1 ∨ i = 2 ∨ i = 3 ∨ i = 4 ∨ i = 5 := by omega
            all_goals exact ⟨rfl, rfl⟩))
          have HB3 := Lib.hid (below_more HB.out (balT w2 (.cells #[.int .i64 1, .int .i64 65535, .int .i64 1, .int .i64 65536, .int .i64 255, .int .i64 65535, .int .i64 256, .int .i64 1, .int .i64 1, .int .i64 (-1), .int .i64 (-1), .int .i64 1] 48)) HB.out.size)
          have HT3 := Lib.hid (HT2.out.below (balT w2 (.cells #[.int .i64 1, .int .i64 65535, .int .i64 1, .int .i64 65536, .int .i64 255, .int .i64 65535, .int .i64 256, .int .i64 1, .int .i64 1, .int .i64 (-1), .int .i64 (-1), .int .i64 1] 48)))
          go_wp2
          generalize w2.alloc (.cells #[.int .i64 1, .int .i64 65535, .int .i64 1, .int .i64 65536, .int .i64 255, .int .i64 65535, .int .i64 256, .int .i64 1, .int .i64 1, .int .i64 (-1), .int .i64 (-1), .int .i64 1] 48) = w3 at *
          obtain ⟨ge, hge⟩ : ∃ x, w2.heap.size = x := ⟨_, rfl⟩
          have HE3 := Lib.hid (show ∀ i, i < 6 → ∃ a b, w3.cell? ⟨ge, i * 2, none⟩ = some (.int .i64 a) ∧ w3.cell? ⟨ge, i * 2 + 1, none⟩ = some (.int .i64 b) from fun i hi => by
            obtain ⟨_, _, e, _, hh⟩ := HE3.out
            simp only [Value.slice.injEq] at e
            obtain ⟨g, o, e2, hx⟩ := hh (by simp)
            rw [← e.1] at e2
            simp only [Option.some.injEq, Addr.mk.injEq, and_true] at e2
            obtain ⟨e2, rfl⟩ := e2
            obtain ⟨h1, h2⟩ := hx i hi
            rw [← e2, hge, Nat.zero_add] at h1 h2
            exact ⟨_, _, h1, h2⟩)
          rw [hge]
          clear hge HT2
          go_loopw [13] (fun i wr => ∃ r : Nat, r ≤ 6 ∧ i = .int .i64 (r : Int) ∧ Below w3.heap.size w3 wr) (fun i _ => 6 - (intOf i).toNat)
          case atStart => exact ⟨0, Nat.zero_le _, rfl, Below.refl _ _⟩
          case round =>
            obtain ⟨w4, rfl⟩ : ∃ x, x = wr := ⟨_, rfl⟩
            obtain ⟨r, hr, rfl, hB⟩ := hrel
            have HB4 := Lib.hid hB
            by_cases hr6 : r < 6
            · have hr6' : (r : Int) < 6 := by omega
              obtain ⟨a, b, x1, x2⟩ := HE3.out r hr6
              have d1 := (hB.cell (p := ⟨ge, r * 2, none⟩) (blt x1)).trans x1
              have d2 := (hB.cell (p := ⟨ge, r * 2 + 1, none⟩) (blt x2)).trans x2
              clear hB
              go_wp2_with fail
              refine (layTables_any _ _ _ _ _ (litT1 w4 a b _ rfl)).mono ?_
              rintro e w5 ⟨rfl, hB5⟩
              have HB5 := Lib.hid (below_more HB4.out (below_more (balT w4 (.cells #[.int .i64 a, .int .i64 b] 48)) hB5 (by simp)) HB4.out.size)
              clear hB5 d1 d2
              have d3 := (HB5.out.cell (p := ⟨ge, r * 2, none⟩) (blt x1)).trans x1
              have d4 := (HB5.out.cell (p := ⟨ge, r * 2 + 1, none⟩) (blt x2)).trans x2
              go_wp2_with fail
              refine (layTables_any _ _ _ _ _ (litT1 w5 a b _ rfl)).mono ?_
              rintro e w6 ⟨rfl, hB6⟩
              have HB6 := Lib.hid (below_more HB5.out (below_more (balT w5 (.cells #[.int .i64 a, .int .i64 b] 48)) hB6 (by simp)) HB5.out.size)
              clear hB6 d3 d4
              go_wp2_with fail
              refine (layBodies_any _ _ _ _ [[ofB 1]] [(r : Int)] ((one_row w6 _ rfl).below (balT _ _)) (lit_int1 _ (r : Int) _ (by simp)) (by simp) (fun i hi => by
                obtain rfl : i = 0 := by simpa using hi
                simp) (by simp)).mono ?_
              rintro e w7 ⟨rfl, hB7⟩
              have HB7 := Lib.hid (below_more HB6.out (below_more (balT w6 (.cells #[.int .u8 1] 5)) (below_more (balT _ (.cells #[.slice (some ⟨w6.heap.size, 0, none⟩) 1 1] 50)) (below_more (balT _ (.cells #[.int .i64 (r : Int)] 3)) hB7 (by simp)) (by simp)) (by simp)) HB6.out.size)
              clear hB7
              go_wp2
              go_roundw
              case rel => exact ⟨r + 1, by omega, by go_num, HB7.out⟩
              case measure => simp [intOf]; omega
            · have hr6' : ¬ (r : Int) < 6 := by omega
              have HB4' := Lib.hid hB
              clear hB
              have HB4 := Lib.hid (show Below w.heap.size w w4 from below_more HB1.out (below_more HB3.out HB4.out HB3.out.size) HB1.out.size)
              have HT4 := Lib.hid (HT3.out.below HB4'.out)
              go_wp2_with fail
              refine (layTables_any w4 _ _ _ t HT4.out).mono ?_
              rintro e w5 ⟨rfl, hB5⟩
              have HB5 := Lib.hid (below_more HB4.out hB5 HB4.out.size)
              have HT5 := Lib.hid (HT4.out.below hB5)
              clear hB5
              go_wp2_with fail
              refine (layTables_any w5 _ _ _ _ (HT5.out.cut 8 (by rw [HTL.out]; omega))).mono ?_
              rintro e w6 ⟨rfl, hB6⟩
              have HB6 := Lib.hid (below_more HB5.out hB6 HB5.out.size)
              clear hB6
              go_wp2_with fail
              refine (layTables_any w6 _ _ _ [] ⟨none, 0, rfl, Nat.le_refl _, fun h => absurd h (by simp)⟩).mono ?_
              rintro e w7 ⟨rfl, hB7⟩
              have HB7 := Lib.hid (below_more HB6.out hB7 HB6.out.size)
              clear hB7
              go_wp2_with fail
              refine (layBodies_any _ _ _ _ [[ofB 1]] [] (one_row w7 _ rfl) ⟨none, 0, rfl, Nat.le_refl _, fun h => absurd h (by simp)⟩ (by simp) (fun i hi => by
                obtain rfl : i = 0 := by simpa using hi
                simp) (by simp)).mono ?_
              rintro e w8 ⟨rfl, hB8⟩
              have HB8 := Lib.hid (below_more HB7.out (below_more (balT w7 (.cells #[.int .u8 1] 5)) (below_more (balT _ (.cells #[.slice (some ⟨w7.heap.size, 0, none⟩) 1 1] 50)) hB8 (by simp)) (by simp)) HB7.out.size)
              clear hB8
              go_wp2_with fail
              refine (layGathers_any w8 _ _ _ [] [] ⟨none, 0, rfl, Nat.le_refl _, fun h => absurd h (by simp)⟩ ⟨none, 0, rfl, Nat.le_refl _, fun h => absurd h (by simp)⟩ (fun g o c e => by cases e) (by simp) (fun i hi => by simp at hi)).mono ?_
              rintro e w9 ⟨rfl, hB9⟩
              have HB9 := Lib.hid (below_more HB8.out hB9 HB8.out.size)
              clear hB9
              go_wp2_with fail
              refine (HAW.out w9 HB9.out).mono ?_
              rintro e w10 ⟨rfl, hB10⟩
              go_wp2
              go_ret
              exact ⟨rfl, hB10⟩
end -- LayEb

end Go.Proofs.YtanjchpkekehgaaGreat
