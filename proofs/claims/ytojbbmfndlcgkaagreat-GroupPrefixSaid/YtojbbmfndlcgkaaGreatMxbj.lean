/-
  Walks of layer 17 (group): rising: the iterator over the store, in order.
-/
import Derived.Test.YtojbbmfndlcgkaaGreatMxbi
import Derived.Maps.OwnIn
namespace Go.Proofs.YtojbbmfndlcgkaaGreat
open Go.RowKit Go.Maps Go.Shelf Go.Sort

attribute [local go_sem] Oper.semAt_some
set_option linter.unusedVariables false
set_option maxRecDepth 100000
set_option maxHeartbeats 1000000

/-- The row of the box ob lies in block k. -/
def OutIn (W : World) (ob k : Nat) : Prop := ∃ v, W.cell? ⟨ob, 0, none⟩ = some v ∧ v.ownBlock = some k
/-- What a loop's body keeps that appends to the row of one box. -/
structure KB (ob : Nat) (W W' : World) : Prop where
  size : W.heap.size ≤ W'.heap.size
  same : ∀ (k : Nat) (o : Obj), W.heap[k]? = some o → (o.isCells = true ∨ o.isWalk = true) → k ≠ ob → ¬ OutIn W ob k → W'.heap[k]? = some o
  out : ∀ k, OutIn W' ob k → OutIn W ob k ∨ W.heap.size ≤ k
theorem KB.refl (ob : Nat) (W : World) : KB ob W W := ⟨Nat.le_refl _, fun _ _ h _ _ _ => h, fun _ h => .inl h⟩
theorem KB.trans {ob : Nat} {A B C : World} (h : KB ob A B) (k : KB ob B C) : KB ob A C := by
  refine ⟨Nat.le_trans h.size k.size, fun i o hi ho hne hn => ?_, fun i hi => ?_⟩
  · refine k.same i o (h.same i o hi ho hne hn) ho hne (fun e => ?_)
    rcases h.out i e with q | q
    · exact hn q
    · have := (Array.getElem?_eq_some_iff.1 hi).1
      omega
  · rcases k.out i hi with q | q
    · exact h.out i q
    · exact .inr (Nat.le_trans h.size q)
theorem kb_t {ob : Nat} {A B C : World} (h : KB ob A B) (k : KB ob B C) : KB ob A C := h.trans k
theorem kb_b {ob : Nat} {w : World} (hob : ob < w.heap.size) (W : World) (l : Nat) (o o' : Obj) (hl : w.heap.size ≤ l) (h : W.heap[l]? = some o) (hc : o.isCells = false) (hw : o.isWalk = false) : KB ob W (W.putObj l o') := by
  have hg := grownBy_putObj' W l o'
  have hcell : (W.putObj l o').cell? ⟨ob, 0, none⟩ = W.cell? ⟨ob, 0, none⟩ := by
    have : (W.putObj l o').heap[ob]? = W.heap[ob]? := by
      by_cases hlt : ob < W.heap.size
      · exact hg.block ob hlt (fun e => by cases e; omega)
      · have := (Array.getElem?_eq_some_iff.1 h).1
        omega
    simp only [World.cell?, this]
  refine ⟨hg.size, fun k o2 hk ho hne hn => ?_, fun k ⟨v, h1, h2⟩ => .inl ⟨v, by rw [← hcell]; exact h1, h2⟩⟩
  refine (hg.block k (Array.getElem?_eq_some_iff.1 hk).1 (fun e => ?_)).trans hk
  cases e
  rw [h] at hk; cases hk
  rcases ho with q | q
  · rw [hc] at q; cases q
  · rw [hw] at q; cases q
/-- Where nothing was in the box, all else stays. -/
theorem KB.keep {ob : Nat} {A B : World} (h : KB ob A B) (hn : A.cell? ⟨ob, 0, none⟩ = some (.slice none 0 0)) {k : Nat} {o : Obj} (hk : A.heap[k]? = some o) (ho : o.isCells = true ∨ o.isWalk = true) (hne : k ≠ ob) : B.heap[k]? = some o :=
  h.same k o hk ho hne (fun ⟨v, h1, h2⟩ => by rw [hn] at h1; cases h1; cases h2)
theorem KB.map {ob : Nat} {A B : World} (h : KB ob A B) (hn : A.cell? ⟨ob, 0, none⟩ = some (.slice none 0 0)) {bm : Nat} {es : List (Int × Value)} (hm : MapI A bm es) (hne : bm ≠ ob) : MapI B bm es := by
  obtain ⟨D, ⟨arr, clock, hb, F, hs, hD⟩, r⟩ := hm
  exact ⟨D, ⟨arr, clock, h.keep hn hb (.inr rfl) hne, F, hs, hD⟩, r⟩
theorem kb_appended {W w1 : World} {ob : Nat} {t : TypeId} {v v' : Value} {tmp : Obj} (hv : Boxed W ob t v) (hv1 : Boxed w1 ob t v) (hgrow : (W.alloc tmp).grownBy w1 v.ownBlock) (hv' : ∀ g, v'.ownBlock = some g → v.ownBlock = some g ∨ W.heap.size ≤ g) : KB ob W (w1.setCell ⟨ob, 0, none⟩ v') := by
  have hs1 : W.heap.size < w1.heap.size := Nat.lt_of_lt_of_le (by simp) hgrow.size
  have hg2 := grownBy_setCell' w1 ob v'
  refine ⟨Nat.le_trans (Nat.le_of_lt hs1) hg2.size, fun k o hk ho hne hn => ?_, fun k ⟨u, h1, h2⟩ => ?_⟩
  · have hlt := (Array.getElem?_eq_some_iff.1 hk).1
    have e1 : w1.heap[k]? = some o := by
      refine (hgrow.block k (by simp; omega) (fun e => hn ⟨v, hv.cell, e.symm⟩)).trans ?_
      exact (Below.heap_alloc W tmp k hlt).trans hk
    exact (hg2.block k (by omega) (fun e => hne (by cases e; rfl))).trans e1
  · have : (w1.setCell ⟨ob, 0, none⟩ v').cell? ⟨ob, 0, none⟩ = some v' := (hv1.set v').cell
    rw [this] at h1
    cases h1
    rcases hv' k h2 with q | q
    · exact .inl ⟨v, hv.cell, q⟩
    · exact .inr q

theorem inj_nodup {p q : Int × Value} : ∀ {es : List (Int × Value)}, (es.map (·.1)).Nodup → p ∈ es → q ∈ es → p.1 = q.1 → p = q
  | [], _, hp, _, _ => by simp at hp
  | r :: l, hn, hp, hq, e => by
    obtain ⟨h1, h2⟩ := List.nodup_cons.1 hn
    rcases List.mem_cons.1 hp with rfl | hp' <;> rcases List.mem_cons.1 hq with rfl | hq'
    · rfl
    · exact absurd (List.mem_map.2 ⟨q, hq', e.symm⟩) h1
    · exact absurd (List.mem_map.2 ⟨p, hp', e⟩) h1
    · exact inj_nodup h2 hp' hq' e
/-- A look-up in a map by numbers, within a round. -/
theorem wpListIn_lookup_I {F : Fence} {nF : Nat} (w : World) {ops : Array Oper} {rest : List Oper} {o : Oper} {a : Act} {Q : Exit → Act → World → Prop}
    (hg : o.guard = none) (m x : Operand) (t : TypeId) (hop : o.op = Op.lookup t m x false) (e : TypeId) (ht : Tryz.prog.underlying t = some (.map 3 e)) (z : Value) (hz : (zeroValue e).run Tryz.prog w = .ok z w)
    (b : Nat) (es : List (Int × Value)) (hm : a.eval m = .map (some b)) (hown : MapI w b es) (k : Int) (hx : a.eval x = .int .i64 k) (v : Value) (hk : (k, v) ∈ es)
    (hK : wpListIn F nF Tryz.prog ops Q rest (a.put o.dst v) w) : wpListIn F nF Tryz.prog ops Q (o :: rest) a w := by
  refine wpListIn_plain hg fun K' hK' => ?_
  have hrun : (Instr.lookup t (.map (some b)) (.int .i64 k) false).run Tryz.prog w = .ok v w := by
    rcases hown.look false ht (hown.in64 _ hk) z hz with ⟨p, hp, e1, h⟩ | ⟨h, _⟩
    · have e2 : p = (k, v) := by
        exact inj_nodup hown.nodup hp hk e1
      rw [e2] at h
      exact h
    · exact absurd rfl (h _ hk)
  unfold Oper.wpIn
  refine ⟨by simp [Oper.about, hop], ?_⟩
  rw [Oper.semAt_plain F _ _ (by rw [hop]; intro c hc'; cases hc')]
  simp [execOp, hop, hm, hx, hrun, Result.andThen]
  exact hK' _ _ hK

theorem balI (w : World) (x : Obj) : Below w.heap.size w (w.alloc x) := (Below.refl _ w).alloc (Nat.le_refl _) x

abbrev encV (V : Int → Value) (k : Int) : Array Value := #[.int .i64 k, V k]
/-- The store's entries. -/
abbrev esV (ks : List Int) (V : Int → Value) : List (Int × Value) := ks.map fun k => (k, V k)
theorem esV_keys (ks : List Int) (V : Int → Value) : (esV ks V).map (·.1) = ks := by rw [esV, List.map_map]; exact List.map_id _

/-- rising's iterator, for every loop body. -/
theorem grising1_in (m : Nat) (hm1 : 6 ≤ m) (l Bm bm ob : Nat) (ks : List Int) (V : Int → Value) (hks : ks.Pairwise (· < ·)) (hlen : ks.length ≤ 100000) (hob1 : Bm ≠ ob) (hob2 : bm ≠ ob) (J Jx : List Int → World → Prop)
    (hY : ∀ pre x W, J pre W → pre.length < ks.length → YieldAt Fence.wide (m - 1) Tryz.prog l (encV V x) W fun e W' =>
      (e = .returned (.bool true) ∧ J (pre ++ [x]) W' ∧ KB ob W W') ∨ (e = .returned (.bool false) ∧ Jx (pre ++ [x]) W'))
    (W : World) (hJ : AbidesFrom W.heap.size J) (hbox : Boxed W Bm 54 (.map (some bm))) (hown : MapI W bm (esV ks V)) (hout : W.cell? ⟨ob, 0, none⟩ = some (.slice none 0 0)) (h0 : J [] W) :
    CallsIn Fence.wide m Tryz.prog 37 #[.func (.yield l) #[] #[], .pointer (some ⟨Bm, 0, none⟩)] W fun e W' => (∃ v, e = .returned v) ∧
      ((∃ ss : List Int, ss = ks ∧ J ss W') ∨ (∃ pre, True ∧ Jx pre W')) := by
  have hc0 := hbox.cell
  have hoblt : ob < W.heap.size := by
    unfold World.cell? at hout
    cases hx : W.heap[ob]? with
    | none => rw [hx] at hout; simp at hout
    | some o => exact (Array.getElem?_eq_some_iff.1 hx).1
  have hB0 : Below W.heap.size W (W.alloc (.cells #[.map (some bm)] 54)) := (Below.refl _ W).alloc (Nat.le_refl _) _
  have HS := Lib.hid (gsorted_any W.heap.size bm (esV ks V) (by simpa using hlen) (W.alloc (.cells #[.map (some bm)] 54)) (by rw [esV_keys]; exact hks) (by simp) (World.cell?_alloc_new W #[.map (some bm)] 54 0) (hown.below (balI W _)))
  refine callsIn_of_wp Tryz.func37 rfl trivial ?_ rfl
  simp only [Tryz.ntmps37, List.size_toArray, List.length_cons, List.length_nil, Nat.reduceAdd, Nat.reduceSub, Array.replicate_succ, Array.replicate_zero, List.push_toArray, List.append_toArray, List.nil_append, List.cons_append]
  have h1 : 1 ≤ m := by omega
  have hf50 : Fence.wide.fn 39 := trivial
  have hf49 : Fence.wide.fn 38 := trivial
  gi_wp2_with (gi_at_call 39; refine (gkeys_in Fence.wide (m - 1) trivial rfl _ _).mono ?_; rintro e w' ⟨rfl, rfl⟩)
  gi_at_call 38
  refine (callsIn_wide.2 HS.out).mono ?_
  rintro e W2 ⟨v, rfl, hrow, hb⟩
  have hB2 : Below W.heap.size W W2 := hB0.trans (hb.mono (by simp))
  have hJ2 : J [] W2 := hJ [] W W2 none h0 ⟨hB2.os, hB2.tape, hB2.output, hB2.size, fun k hk _ => hB2.block k hk⟩ (fun r e => by cases e)
  have hbox2 : Boxed W2 Bm 54 (.map (some bm)) := (hB2.block Bm hbox.lt).trans hbox
  have hown2 := hown.below hB2
  have hout2 : W2.cell? ⟨ob, 0, none⟩ = some (.slice none 0 0) := (hB2.cell (p := ⟨ob, 0, none⟩) (by unfold World.cell? at hout; cases hx : W.heap[ob]? with | none => rw [hx] at hout; simp at hout | some o => exact (Array.getElem?_eq_some_iff.1 hx).1)).trans hout
  rw [esV_keys] at hrow
  have hrow2 := hrow.2
  clear hb hB2 h0 hbox hown hB0 hc0 hrow hout
  rcases hrow2 with ⟨rfl, hz⟩ | ⟨gb, cap, cur, rfl, hbase, hgb, r1, r2, r3, r4⟩
  · have hk : ks = [] := List.eq_nil_of_length_eq_zero hz
    have HK := Lib.hid hk
    clear hk hz
    gi_wp2
    refine wpIn_loop_rounds 1 ?_
    rw [roundsIn_succ]
    gi_wp2
    go_end0
    exact ⟨⟨_, rfl⟩, .inl ⟨[], HK.out.symm, hJ2⟩⟩
  · have hle := hlen
    have hkc : ∀ (k : Nat) (x : Int), (ks)[k]? = some x → cur[k]? = some (.int .i64 x) := by
      intro k x hx
      have h2 : ((ks).map (Value.int .i64))[k]? = some (.int .i64 x) := by simp [hx]
      rw [← r4, List.getElem?_take] at h2
      split at h2
      · simpa using h2
      · cases h2
    have HKC := Lib.hid hkc
    clear hkc r4 r3 r2 r1
    gi_wp2
    gi_loopw [4, 9] (fun _ i wr => ∃ k : Nat, k ≤ (ks).length ∧ i = .int .i64 k ∧ J ((ks).take k) wr ∧ KB ob W2 wr) (fun _ i _ => (ks).length - (intOf i).toNat)
    case atStart => exact ⟨0, Nat.zero_le _, rfl, by simpa using hJ2, KB.refl _ _⟩
    case round =>
      obtain ⟨k, hk, rfl, hJr, hKr⟩ := hrel
      by_cases hlt : k < (ks).length
      · obtain ⟨x, hxk⟩ : ∃ x, (ks)[k]? = some x := ⟨_, List.getElem?_eq_getElem hlt⟩
        have hgo : gb ≠ ob := fun e => by
          subst e
          have h8 := hbase
          rw [World.size_alloc] at h8
          have h9 := hoblt
          omega
        have hgr : wr.heap[gb]? = some (.cells cur 3 (0, 0)) := hKr.keep hout2 hgb (.inl rfl) hgo
        have d1 : wr.cell? ⟨gb, k, none⟩ = some (.int .i64 x) := by simp [World.cell?, hgr, HKC.out k x hxk]
        have hbr : Boxed wr Bm 54 (.map (some bm)) := hKr.keep hout2 hbox2 (.inl rfl) hob1
        have d2 := hbr.cell
        have hownr := hKr.map hout2 hown2 hob2
        have hxm : (x, V x) ∈ esV ks V := List.mem_map.2 ⟨x, List.mem_of_getElem? hxk, rfl⟩
        have HXM := Lib.hid hxm
        have HX := Lib.hid hxk
        obtain ⟨fn, tmps, assign, body, hy, hR⟩ := hY ((ks).take k) x wr hJr (by rw [List.length_take]; omega)
        dsimp only [encV] at hy
        have HR := Lib.hid hR
        clear hR hxk hgr hxm hY
        obtain ⟨u, hu⟩ : ∃ u, V x = u := ⟨_, rfl⟩
        rw [hu] at HXM hy
        gi_wp2_with (gi_at_lookup; refine wpListIn_lookup_I _ rfl _ _ 54 rfl 39 Tryz.underlying54 (.slice none 0 0) (Tryz.zeroValue39 _) bm _ rfl hownr x rfl u HXM.out ?_)
        refine HR.out.mono ?_
        rintro e W3 (⟨rfl, hJ3, hk3⟩ | ⟨rfl, hJx3⟩)
        · gi_wp2
          go_roundw
          case rel => exact ⟨k + 1, by omega, by go_num, by rw [List.take_add_one, HX.out]; exact hJ3, hKr.trans hk3⟩
          case measure => simp [intOf]; omega
        · gi_wp2
          refine bodyPost_ret (results_none rfl _ _ _) rfl ?_
          exact ⟨⟨_, rfl⟩, .inr ⟨_, trivial, hJx3⟩⟩
      · gi_wp2
        go_end0
        refine ⟨⟨_, rfl⟩, .inl ⟨_, rfl, ?_⟩⟩
        rw [List.take_of_length_le (by omega)] at hJr
        exact hJr


end Go.Proofs.YtojbbmfndlcgkaaGreat
