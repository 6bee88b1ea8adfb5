/-
  CodeN: Append of one element, behind the block that holds it; lists that grow.
  CodeO: Rows of bytes that a call owns, each in its place; they grow by append.
  OwnA: Rows of bytes, each in a block of its own: no two in one.
-/
import Derived.Test.YtlmpagicjgldkaaGreatMxaf
import Derived.Laws.OwnMore
namespace Go.Proofs.YtlmpagicjgldkaaGreat

section -- CodeN
open Go.RowKit Go.Maps
set_option linter.unusedVariables false

theorem add_off (g o j : Nat) : (⟨g, o, none⟩ : Addr).add j = ⟨g, o + j, none⟩ := by
  unfold Addr.add
  split <;> simp_all
theorem add_zero_off (g j : Nat) : (⟨g, 0, none⟩ : Addr).add j = ⟨g, j, none⟩ := by
  unfold Addr.add
  split <;> simp_all

/-- What an append makes: the row is where it was, or in a new block. -/
theorem run_app {P : Program} {w : World} (base : Nat) (t ty e : TypeId) (i : TypeInfo) (z : Value) (ht : P.underlying t = some (.slice e)) (hi : P.info? e = some i) (hz : i.zero = some z) (hzs : z.cells.size = i.size)
    (v : Value) (n : Nat) (us : List Value) (hown : w.ownsRow base e i.size v n us) (g off : Nat) (m c : Nat) (news : List Value) (hl : news.length = m * i.size) (hm : 0 < m) (hnews : ∀ j u, news[j]? = some u → w.cell? ((⟨g, off, none⟩ : Addr).add j) = some u)
    (h1 : ∀ u ∈ news, u.oneCell' = true) (h63 : n + m ≤ 9223372036854775807) (hbytes : (n + m) * i.bytes ≤ 140737488355328) (hbase : base ≤ w.heap.size) :
    ∃ g' c' w', (Builtin.append_ #[t, t] ty #[v, .slice (some ⟨g, off, none⟩) m c]).run P w = .ok (.slice (some ⟨g', 0, none⟩) (n + m) c') w' ∧ w'.ownsRow base e i.size (.slice (some ⟨g', 0, none⟩) (n + m) c') (n + m) (us ++ news) ∧
      Kept (fun k => v.ownBlock = some k) w w' ∧ (v.ownBlock = some g' ∨ w.heap.size ≤ g') := by
  have hlen : (us ++ news).length = (n + m) * i.size := by rw [List.length_append, hown.1, hl, Nat.add_mul]
  have fresh : ∀ (old : Nat), (w.drew.alloc (.cells (us.toArray ++ news.toArray ++ Builtin.zeroCells z.cells (grownCap w (n + m) old e - (n + m))) e)).ownsRow base e i.size
        (.slice (some ⟨w.heap.size, 0, none⟩) (n + m) (grownCap w (n + m) old e)) (n + m) (us ++ news) := by
    intro old
    have hge := grownCap_ge w (n + m) old e
    refine ⟨hlen, .inr ⟨w.heap.size, _, _, rfl, hbase, heap_alloc_new w.drew _, hge, grownCap_le_maxLen w (n + m) old e (by unfold maxLen; omega), ?_, ?_⟩⟩
    · simp only [Array.size_append, List.size_toArray, size_zeroCells, hzs, hown.1, hl, ← Nat.add_mul]
      congr 1
      omega
    · simp only [Array.toList_append, List.append_assoc]
      rw [← List.append_assoc, ← hlen]
      exact List.take_left
  have keep : ∀ o, Kept (fun k => v.ownBlock = some k) w (w.drew.alloc o) := fun o => ⟨rfl, rfl, rfl, by simp, fun k hk _ => Below.heap_alloc w.drew _ k hk⟩
  rcases hown.2 with ⟨rfl, rfl⟩ | ⟨g0, cap, cur, rfl, hbg, hg, hnc, hcm, hcs, htake⟩
  · have hx : us = [] := List.eq_nil_of_length_eq_zero (by simpa using hown.1)
    subst hx
    have hr := run_append_nil (P := P) w t ty e i z ht hi hz ⟨g, off, none⟩ m c news hl hnews hm (by omega) (by have hb := hbytes; simp only [Nat.zero_add] at hb; omega)
    have hf := fresh 0
    simp only [Nat.zero_add, List.nil_append, Array.empty_append] at hf ⊢
    exact ⟨_, _, _, hr, hf, keep _, .inr (Nat.le_refl _)⟩
  · by_cases hroom : n + m ≤ cap
    · have hfit : n * i.size + news.length ≤ cur.size := by rw [hl, hcs, ← Nat.add_mul]; exact Nat.mul_le_mul_right _ hroom
      refine ⟨_, _, _, run_append_room (P := P) w t ty e i ht hi g0 n cap cur hg ⟨g, off, none⟩ m c news hl hnews h1 hroom hfit, ⟨hlen, .inr ⟨g0, cap, _, rfl, hbg, setRow_heap w g0 cur _ e _ hg, hroom, hcm, ?_, ?_⟩⟩,
        ⟨rfl, rfl, rfl, by simp, fun k _ hk => setRow_other w g0 k _ (fun e => hk (by simp [Value.ownBlock, e]))⟩, .inl rfl⟩
      · simp only [List.size_toArray, List.length_append, List.length_take, List.length_drop, Array.length_toList]
        omega
      · rw [htake, ← hlen]
        exact List.take_left
    · have holds : ∀ j u, us[j]? = some u → w.cell? ((⟨g0, 0, none⟩ : Addr).add j) = some u := hown.cells (g := g0) rfl
      exact ⟨_, _, _, run_append_grow (P := P) w t ty e i z ht hi hz ⟨g0, 0, none⟩ n cap us hown.1 holds ⟨g, off, none⟩ m c news hl hnews (by omega) (by omega) (growslice_fits (by omega) hbytes), fresh cap, keep _, .inr (Nat.le_refl _)⟩

/-- Append of one element that stands in the newest block. -/
theorem app_el {ops : Array Oper} {rest : List Oper} {o : Oper} {a : Act} {Q : Exit → Act → World → Prop} {W : World} (t e : TypeId) (size bytes : Nat) (z : Value) (ht : Tryz.prog.underlying t = some (.slice e))
    (hinfo : (Tryz.prog.info? e).map (fun i => (i.zero, i.size, i.bytes)) = some (some z, size, bytes)) (hzs : z.cells.size = size) (hby : bytes ≤ 64)
    (hgd : o.guard = none) (s x : Operand) (ho : o.op = .call { callee := .builtin .append, args := #[s, x], argTypes := #[t, t] })
    (base n : Nat) (v : Value) (us : List Value) (hs : a.eval s = v) (hown : W.ownsRow base e size v n us) (news : List Value) (hl : news.length = size) (h1 : ∀ u ∈ news, u.oneCell' = true)
    (hx : a.eval x = .slice (some ⟨W.heap.size, 0, none⟩) 1 1) (hn : n < 1000000000000) (hbase : base ≤ W.heap.size)
    (h : ∀ g' c' w', w'.ownsRow base e size (.slice (some ⟨g', 0, none⟩) (n + 1) c') (n + 1) (us ++ news) → Kept (fun k => v.ownBlock = some k) W w' → W.heap.size < w'.heap.size → (v.ownBlock = some g' ∨ W.heap.size < g') →
      wpList Tryz.prog ops Q rest (a.put o.dst (.slice (some ⟨g', 0, none⟩) (n + 1) c')) w') : wpList Tryz.prog ops Q (o :: rest) a (W.alloc (.cells news.toArray e)) := by
  obtain ⟨i, hi, hz, hsize, hbytes⟩ := info_parts hinfo
  subst hsize
  subst hbytes
  obtain ⟨g', c', w', hr, h2, h3, h4⟩ := run_app (P := Tryz.prog) (w := W.alloc (.cells news.toArray e)) base t o.type e i z ht hi hz hzs v n us (hown.alloc _) W.heap.size 0 1 1 news (by omega) (by omega) (fun j u hj => by
      rw [add_zero_off]
      exact (World.cell?_alloc_new W news.toArray e j).trans (by simpa using hj)) h1 (by omega) (by have := Nat.mul_le_mul_left (n + 1) hby; omega) (by simp; omega)
  refine wpList_plain hgd fun K hK => ?_
  have h5 := h g' c' w' h2 ⟨h3.os, h3.tape, h3.output, Nat.le_trans (by simp) h3.size, fun k hk hn => (h3.block k (by simp; omega) hn).trans (Below.heap_alloc W _ k hk)⟩
    (Nat.lt_of_lt_of_le (by simp) h3.size) (h4.imp id (fun q => by simp at q; omega))
  unfold Oper.wp execOp
  simp only [ho, resolve, invoke, builtin, Sem.run_bind, Sem.run_pure, Result.andThen_ok, List.map_toArray, List.map_cons, List.map_nil, hs, hx, hr]
  exact hK _ _ h5

/-- Append of bytes. -/
theorem app_bytes {ops : Array Oper} {rest : List Oper} {o : Oper} {a : Act} {Q : Exit → Act → World → Prop} {W : World} (t : TypeId) (ht : Tryz.prog.underlying t = some (.slice 5))
    (hgd : o.guard = none) (s x : Operand) (ho : o.op = .call { callee := .builtin .append, args := #[s, x], argTypes := #[t, t] })
    (base n m : Nat) (v : Value) (l1 l2 : List B) (hn : l1.length = n) (hm : l2.length = m) (hs : a.eval s = v) (hown : W.ownsRow base 5 1 v n (l1.map bv)) (g off c : Nat)
    (hx : a.eval x = .slice (some ⟨g, off, none⟩) m c) (hc : ∀ i, i < m → W.cell? ⟨g, off + i, none⟩ = some (bv (l2.getD i 0))) (hm0 : 0 < m) (hnm : n + m < 1000000000000) (hbase : base ≤ W.heap.size)
    (h : ∀ g' c' w', RowC w' g' c' (l1 ++ l2) → base ≤ g' → Kept (fun k => v.ownBlock = some k) W w' → (v.ownBlock = some g' ∨ W.heap.size ≤ g') →
      wpList Tryz.prog ops Q rest (a.put o.dst (.slice (some ⟨g', 0, none⟩) (n + m) c')) w') : wpList Tryz.prog ops Q (o :: rest) a W := by
  obtain ⟨i, hi, hz, hsize, hbytes⟩ := info_parts infoB
  have hown' : W.ownsRow base 5 i.size v n (l1.map bv) := by rw [hsize]; exact hown
  obtain ⟨g', c', w', hr, h2, h3, h4⟩ := run_app (P := Tryz.prog) (w := W) base t o.type 5 i (.int .u8 0) ht hi hz (by rw [hsize]; rfl) v n (l1.map bv) hown' g off m c (l2.map bv) (by simp [hsize, hm]) hm0 (fun j u hj => by
      have hjm : j < l2.length := by
        have := (List.getElem?_eq_some_iff.1 hj).1
        simpa using this
      rw [add_off, hc j (by omega)]
      rw [map_getD_bv hjm] at hj
      exact hj) (fun v hv => by obtain ⟨x, _, rfl⟩ := List.mem_map.1 hv; rfl) (by omega) (by rw [hbytes]; omega) hbase
  rw [hsize, ← List.map_append] at h2
  have h2' : w'.ownsRow base 5 1 (.slice (some ⟨g', 0, none⟩) (l1 ++ l2).length c') (l1 ++ l2).length ((l1 ++ l2).map bv) := by rw [List.length_append, hn, hm]; exact h2
  refine wpList_plain hgd fun K hK => ?_
  have h5 := h g' c' w' (RowC.of_owns h2') (h2.lt g' rfl).1 h3 h4
  unfold Oper.wp execOp
  simp only [ho, resolve, invoke, builtin, Sem.run_bind, Sem.run_pure, Result.andThen_ok, List.map_toArray, List.map_cons, List.map_nil, hs, hx, hr]
  exact hK _ _ h5

theorem ownsRow_keptS {w w' : World} {base size k : Nat} {e : TypeId} {v : Value} {xs : List Value} {S : Nat → Prop} (h : w.ownsRow base e size v k xs) (hk : Kept S w w') (hS : ∀ g, v.ownBlock = some g → ¬ S g) : w'.ownsRow base e size v k xs := by
  refine ⟨h.1, ?_⟩
  rcases h.2 with hn | ⟨g, cap, cur, rfl, hb, hgg, rest⟩
  · exact .inl hn
  · exact .inr ⟨g, cap, cur, rfl, hb, (hk.block g (Array.getElem?_eq_some_iff.1 hgg).1 (hS g rfl)).trans hgg, rest⟩

theorem q_add {P : Program} {f : FuncId} {args : Array Value} {w : World} {a n : Nat} {v : Value}
    (h : Calls P f args (w.drewN (a + n)) fun e w' => e = .returned v ∧ ∃ m, w' = (w.drewN (a + n)).drewN m) :
    Calls P f args (w.drewN (a + n)) fun e w'' => e = .returned v ∧ ∃ m, w'' = w.drewN (a + m) :=
  h.mono fun _ _ ⟨he, m, hm⟩ => ⟨he, n + m, by rw [hm, World.drewN_drewN, Nat.add_assoc]⟩
theorem q_add_same {P : Program} {f : FuncId} {args : Array Value} {w : World} {a n : Nat} {v : Value}
    (h : Calls P f args (w.drewN (a + n)) fun e w' => e = .returned v ∧ w.drewN (a + n) = w') :
    Calls P f args (w.drewN (a + n)) fun e w'' => e = .returned v ∧ ∃ m, w'' = w.drewN (a + m) :=
  h.mono fun _ _ ⟨he, hm⟩ => ⟨he, n, hm.symm⟩
theorem q_one {P : Program} {f : FuncId} {args : Array Value} {w : World} {n : Nat} {v : Value}
    (h : Calls P f args (w.drewN n) fun e w' => e = .returned v ∧ ∃ m, w' = (w.drewN n).drewN m) :
    Calls P f args (w.drewN n) fun e w'' => e = .returned v ∧ ∃ m, w'' = w.drewN m := Calls.quiet_of h
theorem q_one_same {P : Program} {f : FuncId} {args : Array Value} {w : World} {n : Nat} {v : Value}
    (h : Calls P f args (w.drewN n) fun e w' => e = .returned v ∧ w.drewN n = w') :
    Calls P f args (w.drewN n) fun e w'' => e = .returned v ∧ ∃ m, w'' = w.drewN m :=
  h.mono fun _ _ ⟨he, hm⟩ => ⟨he, n, hm.symm⟩

theorem heap_set {w : World} {b i : Nat} {C : Array Value} {t : TypeId} {fr : Nat × Nat} (h : w.heap[b]? = some (.cells C t fr)) (u : Value) : (w.setCell ⟨b, i, none⟩ u).heap[b]? = some (.cells (C.setIfInBounds i u) t fr) := by
  simp [World.setCell, Array.getElem?_modify, h]
theorem cell_of {w : World} {b : Nat} {C : Array Value} {t : TypeId} {fr : Nat × Nat} (h : w.heap[b]? = some (.cells C t fr)) (i : Nat) : w.cell? ⟨b, i, none⟩ = C[i]? := by simp [World.cell?, h]
theorem fz_of {w : World} {b : Nat} {C : Array Value} {t : TypeId} (h : w.heap[b]? = some (.cells C t (0, 0))) (i : Nat) : w.frozen? ⟨b, i, none⟩ = false := by simp [World.frozen?, h]
theorem Kept.setAt {S : Nat → Prop} (w : World) {p : Addr} (hp : S p.block) (u : Value) : Kept S w (w.setCell p u) := (Kept.refl S w).setCell' hp u

theorem Kept.set1 (w : World) (b i : Nat) (u : Value) : Kept (fun k => k = b) w (w.setCell ⟨b, i, none⟩ u) := Kept.setCell' (S := fun k => k = b) (Kept.refl _ w) (p := ⟨b, i, none⟩) rfl u

/-- make of so many one-cell elements. -/
theorem run_make_one {w : World} (t e : TypeId) (z : Value) (bytes : Nat) (ht : Tryz.prog.underlying t = some (.slice e)) (hinfo : (Tryz.prog.info? e).map (fun i => (i.zero, i.size, i.bytes)) = some (some z, 1, bytes)) (hz : z.cells = #[z]) (hby : bytes ≤ 64) (n : Nat) (hn : n ≤ 1000000000000) :
    (Instr.makeSlice t (.int .i64 (n : Int)) (.int .i64 (n : Int))).run Tryz.prog w = .ok (.slice (some ⟨w.heap.size, 0, none⟩) n n) (w.alloc (.cells (Array.replicate n z) e)) := by
  obtain ⟨i, hi, hz', hsize, hbytes⟩ := info_parts hinfo
  subst hbytes
  have hb : i.bytes * n ≤ 64 * n := Nat.mul_le_mul_right n hby
  have hb' : (i.bytes : Int) * (n : Int) ≤ 281474976710656 := by
    have h : ((i.bytes * n : Nat) : Int) ≤ 281474976710656 := by omega
    rwa [Int.natCast_mul] at h
  have hr := run_make (P := Tryz.prog) w t e i z ht hi hz' .i64 .i64 n n (by omega) (Int.le_refl _) hb' (by omega)
  simp only [Int.toNat_natCast] at hr
  rw [hr, hsize, Nat.mul_one, hz]
  have : madeCells #[z] n = Array.replicate n z := by
    rw [← Array.toList_inj, toList_madeCells_one, Array.toList_replicate]
  rw [this]

theorem Kept.at1 {w w' : World} {g : Nat} (h : Kept (fun i => i = g) w w') {b : Nat} (o : Nat) (hb : b < w.heap.size) (hn : b ≠ g) : w'.cell? ⟨b, o, none⟩ = w.cell? ⟨b, o, none⟩ := h.cell (p := ⟨b, o, none⟩) hb hn
theorem Kept.at0 {w w' : World} (h : Kept (fun _ => False) w w') {b : Nat} (o : Nat) (hb : b < w.heap.size) : w'.cell? ⟨b, o, none⟩ = w.cell? ⟨b, o, none⟩ := h.cell (p := ⟨b, o, none⟩) hb (fun h => h)

theorem blt {w : World} {b o : Nat} {v : Value} (h : w.cell? ⟨b, o, none⟩ = some v) : b < w.heap.size := World.block_lt_of_cell? w _ h

theorem below_more {B : Nat} {w w1 w2 : World} (h1 : Below B w w1) (h2 : Below w1.heap.size w1 w2) (hB : B ≤ w1.heap.size) : Below B w w2 :=
  h1.trans ⟨h2.os, h2.tape, h2.output, h2.size, fun i hi => h2.block i (Nat.lt_of_lt_of_le hi hB)⟩
theorem ownsRow_weaken {w : World} {base base' size k : Nat} {e : TypeId} {v : Value} {xs : List Value} (h : w.ownsRow base e size v k xs) (hb : base' ≤ base) : w.ownsRow base' e size v k xs := by
  refine ⟨h.1, ?_⟩
  rcases h.2 with hn | ⟨g, cap, cur, rfl, hbb, rest⟩
  · exact .inl hn
  · exact .inr ⟨g, cap, cur, rfl, Nat.le_trans hb hbb, rest⟩

theorem bne_cast (n m : Nat) : ((n : Int) != (m : Int)) = (n != m) := by rw [Bool.eq_iff_iff]; simp; omega
theorem beq_cast (n m : Nat) : ((n : Int) == (m : Int)) = (n == m) := by rw [Bool.eq_iff_iff]; simp; omega

theorem map_snoc_bv (l : List B) (x : B) : l.map bv ++ [bv x] = (l ++ [x]).map bv := by simp
theorem one_bv (x : B) : ∀ u ∈ [Value.int .u8 ((x.v : Nat) : Int)], u.oneCell' = true := by simp [Value.oneCell']
theorem one_slice (p : Option Addr) (n c : Nat) : ∀ u ∈ [Value.slice p n c], u.oneCell' = true := by simp [Value.oneCell']
end -- CodeN

section -- CodeO
open Go.RowKit Go.Maps
set_option linter.unusedVariables false

/-- Rows that are owned: the outer cells; what each reads as; none lies in the outer block. -/
def RowsOwn (w : World) (base : Nat) (v : Value) (ls : List (List B)) : Prop := ∃ us, w.ownsRow base 43 1 v ls.length us ∧
  ∀ i u, us[i]? = some u → BytesAt w u (ls.getD i []) ∧ ∀ b, u.ownBlock = some b → b < w.heap.size ∧ v.ownBlock ≠ some b

theorem RowsOwn.nil (w : World) (base : Nat) : RowsOwn w base (.slice none 0 0) [] := ⟨[], World.ownsRow_nil _ _ _ _, fun i u h => by simp at h⟩
theorem RowsOwn.rows {w : World} {base : Nat} {v : Value} {ls : List (List B)} (h : RowsOwn w base v ls) : RowsAt w v ls := by
  obtain ⟨us, h1, h2⟩ := h
  exact RowsAt.of_owns h1 (fun i u hi => (h2 i u hi).1)
theorem RowsOwn.kept {S : Nat → Prop} {w w' : World} {base : Nat} {v : Value} {ls : List (List B)} (h : RowsOwn w base v ls) (hk : Kept S w w') (hS : ∀ k, k < w.heap.size → base ≤ k → ¬ S k) (hu : ∀ k, k < w.heap.size → ¬ S k) : RowsOwn w' base v ls := by
  obtain ⟨us, h1, h2⟩ := h
  refine ⟨us, ownsRow_keptS h1 hk (fun g hg => hS g (h1.lt g hg).2 (h1.lt g hg).1), fun i u hi => ⟨(h2 i u hi).1.kept hk hu, fun b hb => ?_⟩⟩
  have := (h2 i u hi).2 b hb
  exact ⟨Nat.lt_of_lt_of_le this.1 hk.size, this.2⟩
theorem RowsOwn.below {w w' : World} {base : Nat} {v : Value} {ls : List (List B)} (h : RowsOwn w base v ls) (hb : Below w.heap.size w w') : RowsOwn w' base v ls := h.kept (Kept.below hb) (fun _ _ _ h => h) (fun _ _ h => h)
theorem RowsOwn.lt {w : World} {base : Nat} {v : Value} {ls : List (List B)} (h : RowsOwn w base v ls) : ∀ k, v.ownBlock = some k → base ≤ k ∧ k < w.heap.size := by
  obtain ⟨us, h1, _⟩ := h
  exact h1.lt

theorem RowsOwn.weaken {w : World} {base base' : Nat} {v : Value} {ls : List (List B)} (h : RowsOwn w base v ls) (hb : base' ≤ base) : RowsOwn w base' v ls := by
  obtain ⟨us, h1, h2⟩ := h
  exact ⟨us, ownsRow_weaken h1 hb, h2⟩
theorem own_is {g o b len cap : Nat} (hb : (Value.slice (some ⟨g, o, none⟩) len cap).ownBlock = some b) : g = b := by simpa [Value.ownBlock] using hb
theorem RowsAt.shape {w : World} {v : Value} {ls : List (List B)} (h : RowsAt w v ls) : ∃ p c, v = .slice p ls.length c := by
  obtain ⟨p, c, e, _⟩ := h
  exact ⟨p, c, e⟩
theorem BytesAt.shape {w : World} {v : Value} {l : List B} (h : BytesAt w v l) : ∃ p c, v = .slice p l.length c := by
  obtain ⟨p, c, e, _⟩ := h
  exact ⟨p, c, e⟩

/-- Append of a row. -/
theorem app_row {ops : Array Oper} {rest : List Oper} {o : Oper} {a : Act} {Q : Exit → Act → World → Prop} {W : World}
    (hgd : o.guard = none) (s x : Operand) (ho : o.op = .call { callee := .builtin .append, args := #[s, x], argTypes := #[37, 37] })
    (base n : Nat) (v : Value) (ls : List (List B)) (hln : ls.length = n) (hs : a.eval s = v) (hown : RowsOwn W base v ls) (u : Value) (l : List B) (hu : BytesAt W u l) (hub : ∀ b, u.ownBlock = some b → b < W.heap.size ∧ v.ownBlock ≠ some b) (hone : u.oneCell' = true)
    (hx : a.eval x = .slice (some ⟨W.heap.size, 0, none⟩) 1 1) (hn : n < 1000000000000) (hbase : base ≤ W.heap.size)
    (h : ∀ g' c' w', RowsOwn w' base (.slice (some ⟨g', 0, none⟩) (n + 1) c') (ls ++ [l]) → Kept (fun k => v.ownBlock = some k) W w' → W.heap.size < w'.heap.size → (v.ownBlock = some g' ∨ W.heap.size < g') →
      wpList Tryz.prog ops Q rest (a.put o.dst (.slice (some ⟨g', 0, none⟩) (n + 1) c')) w') : wpList Tryz.prog ops Q (o :: rest) a (W.alloc (.cells #[u] 43)) := by
  subst hln
  obtain ⟨us, h1, h2⟩ := hown
  refine app_el 37 43 1 24 (.slice none 0 0) Tryz.underlying37 infoR rfl (by decide) hgd s x ho base ls.length v us hs h1 [u] rfl (by simpa using hone) hx hn hbase ?_
  intro g' c' w' ho' hk hs' hg'
  refine h g' c' w' ⟨us ++ [u], by simpa using ho', fun i z hi => ?_⟩ hk hs' hg'
  have hul : us.length = ls.length := by have := h1.1; omega
  by_cases e : i < us.length
  · rw [List.getElem?_append_left e] at hi
    obtain ⟨q1, q2⟩ := h2 i z hi
    rw [getD_snoc_lt (by omega)]
    refine ⟨q1.kept1 hk (fun k hk' e => (q2 k hk').2 e), fun b hb => ?_⟩
    have := q2 b hb
    refine ⟨by omega, fun e => ?_⟩
    have e' : g' = b := by simpa [Value.ownBlock] using e
    rcases hg' with q | q
    · exact this.2 (by rw [q, e'])
    · omega
  · have hi' : i = us.length := by
      have := (List.getElem?_eq_some_iff.1 hi).1
      simp at this; omega
    subst hi'
    have hz : z = u := by simpa using hi.symm
    subst hz
    rw [hul, getD_snoc_last]
    refine ⟨hu.kept1 hk (fun k hk' e => (hub k hk').2 e), fun b hb => ?_⟩
    have := hub b hb
    refine ⟨by omega, fun e => ?_⟩
    have e' : g' = b := by simpa [Value.ownBlock] using e
    rcases hg' with q | q
    · exact this.2 (by rw [q, e'])
    · omega
end -- CodeO

section -- OwnA
open Go.RowKit Go.Maps
set_option linter.unusedVariables false

/-- A slice of bytes that owns its block. -/
def Own (w : World) (base : Nat) (v : Value) (l : List B) : Prop := w.ownsRow base 5 1 v l.length (l.map bv)

section
variable {w w' : World} {base : Nat} {v : Value} {l : List B}
theorem Own.bytes (h : Own w base v l) : BytesAt w v l := BytesAt.of_owns h
theorem Own.kept {S : Nat → Prop} (h : Own w base v l) (hk : Kept S w w') (hS : ∀ b, v.ownBlock = some b → ¬ S b) : Own w' base v l := ownsRow_keptS h hk hS
theorem Own.below (h : Own w base v l) (hb : Below w.heap.size w w') : Own w' base v l := h.kept (Kept.below hb) (fun _ _ h => h)
theorem Own.blk (h : Own w base v l) : ∀ b, v.ownBlock = some b → base ≤ b ∧ b < w.heap.size := World.ownsRow.lt h
theorem Own.weaken {base' : Nat} (h : Own w base v l) (hb : base' ≤ base) : Own w base' v l := ownsRow_weaken h hb
theorem Own.nil (w : World) (base : Nat) : Own w base (.slice none 0 0) [] := World.ownsRow_nil _ _ _ _
theorem Own.shape (h : Own w base v l) : ∃ p c, v = .slice p l.length c := h.bytes.shape
theorem Own.row (h : Own w base v l) (hl : 0 < l.length) : ∃ g c, v = .slice (some ⟨g, 0, none⟩) l.length c ∧ base ≤ g ∧ RowC w g c l := by
  have h' := h
  obtain ⟨h0, h1⟩ := h
  rcases h1 with ⟨_, hz⟩ | ⟨g, cap, cur, e, h2, h3, h4, h5, h6, h7⟩
  · omega
  · exact ⟨g, cap, e, h2, RowC.of_owns (base := base) (by rw [← e]; exact h')⟩
theorem RowF.own {g : Nat} (h : RowF w g l) (hb : base ≤ g) (hl : l.length ≤ maxLen) : Own w base (.slice (some ⟨g, 0, none⟩) l.length l.length) l := (h.toC hl).owns hb
theorem RowC.own {g c : Nat} (h : RowC w g c l) (hb : base ≤ g) : Own w base (.slice (some ⟨g, 0, none⟩) l.length c) l := h.owns hb
theorem Own.alloc (h : Own w base v l) (x : Obj) : Own (w.alloc x) base v l := h.kept (Kept.alloc (fun _ => False) w x) (fun _ _ h => h)
theorem Own.set (h : Own w base v l) {i : Nat} (hi : i < l.length) {g c : Nat} (e : v = .slice (some ⟨g, 0, none⟩) l.length c) (x : B) : Own (w.setCell ⟨g, i, none⟩ (bv x)) base v (l.set i x) := by
  subst e
  have hb := (h.blk g (by simp [Value.ownBlock])).1
  have := (RowC.of_owns h).set hi x
  have h2 := this.own hb
  rwa [List.length_set] at h2
end

/-- Rows that are owned, each one in a block that is no other's. -/
def RowsLone (w : World) (base : Nat) (v : Value) (ls : List (List B)) : Prop := ∃ us, w.ownsRow base 43 1 v ls.length us ∧
  (∀ i u, us[i]? = some u → Own w base u (ls.getD i []) ∧ ∀ b, u.ownBlock = some b → v.ownBlock ≠ some b) ∧
  ∀ (i j : Nat) (u z : Value) (b : Nat), us[i]? = some u → us[j]? = some z → u.ownBlock = some b → z.ownBlock = some b → i = j

section
variable {w w' : World} {base : Nat} {v : Value} {ls : List (List B)}
theorem RowsLone.nil (w : World) (base : Nat) : RowsLone w base (.slice none 0 0) [] := ⟨[], World.ownsRow_nil _ _ _ _, fun i u h => by simp at h, fun i j u z b h => by simp at h⟩
theorem RowsLone.own (h : RowsLone w base v ls) : RowsOwn w base v ls := by
  obtain ⟨us, h1, h2, h3⟩ := h
  exact ⟨us, h1, fun i u hi => ⟨(h2 i u hi).1.bytes, fun b hb => ⟨((h2 i u hi).1.blk b hb).2, (h2 i u hi).2 b hb⟩⟩⟩
theorem RowsLone.rows (h : RowsLone w base v ls) : RowsAt w v ls := h.own.rows
theorem RowsLone.lt (h : RowsLone w base v ls) : ∀ k, v.ownBlock = some k → base ≤ k ∧ k < w.heap.size := h.own.lt
theorem RowsLone.kept {S : Nat → Prop} (h : RowsLone w base v ls) (hk : Kept S w w') (hS : ∀ k, k < w.heap.size → base ≤ k → ¬ S k) : RowsLone w' base v ls := by
  obtain ⟨us, h1, h2, h3⟩ := h
  exact ⟨us, ownsRow_keptS h1 hk (fun g hg => hS g (h1.lt g hg).2 (h1.lt g hg).1), fun i u hi => ⟨(h2 i u hi).1.kept hk (fun b hb => hS b ((h2 i u hi).1.blk b hb).2 ((h2 i u hi).1.blk b hb).1), (h2 i u hi).2⟩, h3⟩
theorem RowsLone.below (h : RowsLone w base v ls) (hb : Below w.heap.size w w') : RowsLone w' base v ls := h.kept (Kept.below hb) (fun _ _ _ h => h)
theorem RowsLone.weaken {base' : Nat} (h : RowsLone w base v ls) (hb : base' ≤ base) : RowsLone w base' v ls := by
  obtain ⟨us, h1, h2, h3⟩ := h
  exact ⟨us, ownsRow_weaken h1 hb, fun i u hi => ⟨(h2 i u hi).1.weaken hb, (h2 i u hi).2⟩, h3⟩
end

/-- Append of a row that is new. -/
theorem app_lone {ops : Array Oper} {rest : List Oper} {o : Oper} {a : Act} {Q : Exit → Act → World → Prop} {W : World}
    (hgd : o.guard = none) (s x : Operand) (ho : o.op = .call { callee := .builtin .append, args := #[s, x], argTypes := #[37, 37] })
    (base n : Nat) (v : Value) (ls : List (List B)) (hln : ls.length = n) (W0 : World) (hB : Below W0.heap.size W0 W) (hown : RowsLone W0 base v ls) (u : Value) (l : List B) (hu : Own W W0.heap.size u l) (hone : u.oneCell' = true)
    (hs : a.eval s = v) (hx : a.eval x = .slice (some ⟨W.heap.size, 0, none⟩) 1 1) (hn : n < 1000000000000) (hbase : base ≤ W0.heap.size)
    (h : ∀ g' c' w', RowsLone w' base (.slice (some ⟨g', 0, none⟩) (n + 1) c') (ls ++ [l]) → Kept (fun k => v.ownBlock = some k) W w' → W.heap.size < w'.heap.size → (v.ownBlock = some g' ∨ W.heap.size < g') →
      wpList Tryz.prog ops Q rest (a.put o.dst (.slice (some ⟨g', 0, none⟩) (n + 1) c')) w') : wpList Tryz.prog ops Q (o :: rest) a (W.alloc (.cells #[u] 43)) := by
  subst hln
  have hv0 : ∀ k, v.ownBlock = some k → k < W0.heap.size := fun k hk => (hown.lt k hk).2
  have hsz := hB.size
  have hown' := hown.below hB
  obtain ⟨us, q1, q2, q3⟩ := hown
  have hr0 : ∀ (i : Nat) (z : Value), us[i]? = some z → ∀ b, z.ownBlock = some b → b < W0.heap.size := fun i z hi b hb => ((q2 i z hi).1.blk b hb).2
  have h1 := ownsRow_keptS q1 (Kept.below hB) (fun _ _ h => h)
  have h2 : ∀ i u, us[i]? = some u → Own W base u (ls.getD i []) ∧ ∀ b, u.ownBlock = some b → v.ownBlock ≠ some b := fun i z hi => ⟨(q2 i z hi).1.below hB, (q2 i z hi).2⟩
  have h3 := q3
  clear q1 q2 q3 hown'
  refine app_el 37 43 1 24 (.slice none 0 0) Tryz.underlying37 infoR rfl (by decide) hgd s x ho base ls.length v us hs h1 [u] rfl (by simpa using hone) hx hn (by omega) ?_
  intro g' c' w' ho' hk hs' hg'
  have hul : us.length = ls.length := by have := h1.1; omega
  have get : ∀ i z, (us ++ [u])[i]? = some z → (i < us.length ∧ us[i]? = some z) ∨ (i = us.length ∧ z = u) := by
    intro i z hi
    by_cases e : i < us.length
    · rw [List.getElem?_append_left e] at hi; exact .inl ⟨e, hi⟩
    · have hi' : i = us.length := by
        have := (List.getElem?_eq_some_iff.1 hi).1
        simp at this; omega
      subst hi'
      exact .inr ⟨rfl, by simpa using hi.symm⟩
  have old : ∀ b, v.ownBlock = some b ∨ W.heap.size < b → ∀ c, c < W.heap.size → v.ownBlock ≠ some c → b ≠ c := by
    intro b hb c hc hne e
    subst e
    rcases hb with q | q
    · exact hne q
    · omega
  refine h g' c' w' ⟨us ++ [u], by simpa using ho', fun i z hi => ?_, fun i j y z b hi hj hy hz => ?_⟩ hk hs' hg'
  · rcases get i z hi with ⟨e, hi⟩ | ⟨rfl, rfl⟩
    · obtain ⟨q1, q2⟩ := h2 i z hi
      rw [getD_snoc_lt (by omega)]
      refine ⟨q1.kept hk (fun b hb e => q2 b hb e), fun b hb e => ?_⟩
      exact old g' hg' b (q1.blk b hb).2 (q2 b hb) (by simpa [Value.ownBlock] using e)
    · rw [hul, getD_snoc_last]
      have q2 : ∀ b, z.ownBlock = some b → v.ownBlock ≠ some b := fun b hb e => by have := (hu.blk b hb).1; have := hv0 b e; omega
      refine ⟨(hu.kept hk (fun b hb e => q2 b hb e)).weaken hbase, fun b hb e => ?_⟩
      exact old g' hg' b (hu.blk b hb).2 (q2 b hb) (by simpa [Value.ownBlock] using e)
  · rcases get i y hi with ⟨e1, hi'⟩ | ⟨ei, ey⟩ <;> rcases get j z hj with ⟨e2, hj'⟩ | ⟨ej, ez⟩
    · exact h3 i j y z b hi' hj' hy hz
    · have := hr0 i y hi' b hy
      subst ez
      have := (hu.blk b hz).1
      omega
    · have := hr0 j z hj' b hz
      subst ey
      have := (hu.blk b hy).1
      omega
    · rw [ei, ej]

/-- Rows that are new. -/
def RowsNew (w : World) (base : Nat) (v : Value) (ls : List (List B)) : Prop := ∃ us, w.ownsRow base 43 1 v ls.length us ∧ ∀ i u, us[i]? = some u → BytesAt w u (ls.getD i []) ∧ ∀ b, u.ownBlock = some b → base ≤ b ∧ b < w.heap.size
theorem RowsNew.rows {w : World} {base : Nat} {v : Value} {ls : List (List B)} (h : RowsNew w base v ls) : RowsAt w v ls := by
  obtain ⟨us, h1, h2⟩ := h
  exact RowsAt.of_owns h1 (fun i u hi => (h2 i u hi).1)
theorem RowsNew.kept {S : Nat → Prop} {w w' : World} {base : Nat} {v : Value} {ls : List (List B)} (h : RowsNew w base v ls) (hk : Kept S w w') (hS : ∀ i, S i → i < base) : RowsNew w' base v ls := by
  obtain ⟨us, h1, h2⟩ := h
  refine ⟨us, ownsRow_keptS h1 hk (fun g hg hs => ?_), fun i u hi => ⟨(h2 i u hi).1.kept1 hk (fun b hb hs => ?_), fun b hb => ⟨((h2 i u hi).2 b hb).1, Nat.lt_of_lt_of_le ((h2 i u hi).2 b hb).2 hk.size⟩⟩⟩
  · have := (World.ownsRow.lt h1 g hg).1
    have := hS g hs
    omega
  · have := ((h2 i u hi).2 b hb).1
    have := hS b hs
    omega
theorem RowsNew.below {w w' : World} {base : Nat} {v : Value} {ls : List (List B)} (h : RowsNew w base v ls) (hb : Below w.heap.size w w') : RowsNew w' base v ls := h.kept (Kept.below hb) (fun _ h => h.elim)
theorem RowsNew.weaken {w : World} {base base' : Nat} {v : Value} {ls : List (List B)} (h : RowsNew w base v ls) (hb : base' ≤ base) : RowsNew w base' v ls := by
  obtain ⟨us, h1, h2⟩ := h
  exact ⟨us, ownsRow_weaken h1 hb, fun i u hi => ⟨(h2 i u hi).1, fun b e => ⟨Nat.le_trans hb ((h2 i u hi).2 b e).1, ((h2 i u hi).2 b e).2⟩⟩⟩
theorem RowsLone.news {w : World} {base : Nat} {v : Value} {ls : List (List B)} (h : RowsLone w base v ls) : RowsNew w base v ls := by
  obtain ⟨us, h1, h2, h3⟩ := h
  exact ⟨us, h1, fun i u hi => ⟨(h2 i u hi).1.bytes, (h2 i u hi).1.blk⟩⟩
end -- OwnA

end Go.Proofs.YtlmpagicjgldkaaGreat
