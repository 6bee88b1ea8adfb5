/-
  Walks of layer 21 (hist): rising: the iterator over the tally, in order.
-/
import Derived.Test.YtacbmpffpfaciaaHistE
namespace Go.Proofs.Ytacbmpffpfaciaa
open Go.RowKit Go.Maps Go.Shelf Go.Sort

attribute [local go_sem] Oper.semAt_some

set_option maxRecDepth 100000
set_option maxHeartbeats 1000000

/-- What an iterator over a tally reads: rows of numbers, boxes of maps, maps. -/
def guarded : Obj → Bool
  | .cells _ e _ => e == 3 || e == 67
  | o => o.isWalk

/-- What a loop's body keeps for it. -/
structure KeepsE (W W' : World) : Prop where
  size : W.heap.size ≤ W'.heap.size
  same : ∀ (k : Nat) (o : Obj), W.heap[k]? = some o → guarded o = true → W'.heap[k]? = some o

theorem KeepsE.refl (W : World) : KeepsE W W := ⟨Nat.le_refl _, fun _ _ h _ => h⟩
theorem KeepsE.trans {A B C : World} (h : KeepsE A B) (k : KeepsE B C) : KeepsE A C := ⟨Nat.le_trans h.size k.size, fun i o hi ho => k.same i o (h.same i o hi ho) ho⟩
theorem keepsE_t {A B C : World} (h : KeepsE A B) (k : KeepsE B C) : KeepsE A C := h.trans k
theorem KeepsE.grown {W W' : World} {row : Option Nat} (hg : W.grownBy W' row) (hr : ∀ j o, row = some j → W.heap[j]? = some o → guarded o = false) : KeepsE W W' :=
  ⟨hg.size, fun k o hk ho => by
    rw [hg.block k (Array.getElem?_eq_some_iff.1 hk).1 (fun e => by rw [hr k o e.symm hk] at ho; cases ho)]
    exact hk⟩
theorem KeepsE.alloc (W : World) (o : Obj) : KeepsE W (W.alloc o) := KeepsE.grown (World.grownBy_alloc W o none) (fun j o h => by cases h)
theorem keepsE_b {w : World} (W : World) (l : Nat) (o o' : Obj) (_ : w.heap.size ≤ l) (h : W.heap[l]? = some o) (hc : o.isCells = false) (hw : o.isWalk = false) : KeepsE W (W.putObj l o') :=
  KeepsE.grown (grownBy_putObj' W l o') (fun j o2 e h2 => by
    cases e
    rw [h] at h2; cases h2
    cases o <;> simp_all [guarded, Obj.isCells])
theorem KeepsE.boxed {W W' : World} (h : KeepsE W W') {B : Nat} {v : Value} (hb : Boxed W B 67 v) : Boxed W' B 67 v := h.same B _ hb rfl
theorem KeepsE.map {W W' : World} (h : KeepsE W W') {bm n : Nat} {D : DataW Unit} (hm : W.ownsMap Try.prog 3 (plainElem Try.prog 3) bm n D) : W'.ownsMap Try.prog 3 (plainElem Try.prog 3) bm n D := by
  obtain ⟨es, ck, hh, F, hs, hD⟩ := hm
  exact ⟨es, ck, h.same bm _ hh rfl, F, hs, hD⟩

abbrev encs2 (f : Int → Int) (k : Int) : Array Value := #[.int .i64 k, .int .i64 (f k)]

/-- rising's iterator, for every loop body. -/
theorem rising1_in (m : Nat) (hm1 : 6 ≤ m) (l Bm bm n : Nat) (f : Int → Int) (hgood : Good n f) (J Jx : List Int → World → Prop)
    (hY : ∀ pre x W, J pre W → pre.length < n → YieldAt Fence.wide (m - 1) Try.prog l (encs2 f x) W fun e W' =>
      (e = .returned (.bool true) ∧ J (pre ++ [x]) W' ∧ KeepsE W W') ∨ (e = .returned (.bool false) ∧ Jx (pre ++ [x]) W'))
    (W : World) (hJ : AbidesFrom W.heap.size J) (hbox : Boxed W Bm 67 (.map (some bm))) (hown : W.ownsMap Try.prog 3 (plainElem Try.prog 3) bm 256 (tallyD n f)) (h0 : J [] W) :
    CallsIn Fence.wide m Try.prog 48 #[.func (.yield l) #[] #[], .pointer (some ⟨Bm, 0, none⟩)] W fun e W' => (∃ v, e = .returned v) ∧
      ((∃ ss : List Int, ss = keysOf n f ∧ J ss W') ∨ (∃ pre, True ∧ Jx pre W')) := by
  have hc0 := hbox.cell
  have hn255 := hgood.n255
  have hB0 : Below W.heap.size W (W.alloc (.cells #[.map (some bm)] 67)) := (Below.refl _ W).alloc (Nat.le_refl _) _
  have HS := Lib.hid (sorted_any W.heap.size bm n f hgood.n255 (W.alloc (.cells #[.map (some bm)] 67)) (by simp) (World.cell?_alloc_new W #[.map (some bm)] 67 0) (hown.alloc _))
  refine callsIn_of_wp Try.func48 rfl trivial ?_ rfl
  simp only [Try.ntmps48, List.size_toArray, List.length_cons, List.length_nil, Nat.reduceAdd, Nat.reduceSub, Array.replicate_succ, Array.replicate_zero, List.push_toArray, List.append_toArray, List.nil_append, List.cons_append]
  have h1 : 1 ≤ m := by omega
  have hf50 : Fence.wide.fn 50 := trivial
  have hf49 : Fence.wide.fn 49 := trivial
  gi_wp2_with (gi_at_call 50; refine (keys_in Fence.wide (m - 1) trivial rfl _ _).mono ?_; rintro e w' ⟨rfl, rfl⟩)
  gi_at_call 49
  refine (callsIn_wide.2 HS.out).mono ?_
  rintro e W2 ⟨v, rfl, hrow, hb⟩
  have hB2 : Below W.heap.size W W2 := hB0.trans (hb.mono (by simp))
  have hK2 : KeepsE W W2 := ⟨hB2.size, fun k o hk _ => (hB2.block k (Array.getElem?_eq_some_iff.1 hk).1).trans hk⟩
  have hJ2 : J [] W2 := hJ [] W W2 none h0 ⟨hB2.os, hB2.tape, hB2.output, hB2.size, fun k hk _ => hB2.block k hk⟩ (fun r e => by cases e)
  have hbox2 := hK2.boxed hbox
  have hown2 := hK2.map hown
  have hrow2 := hrow.2
  clear hb hB2 hK2 h0 hbox hown hB0 hc0 hrow
  rcases hrow2 with ⟨rfl, hz⟩ | ⟨gb, cap, cur, rfl, hbase, hgb, r1, r2, r3, r4⟩
  · have hk : keysOf n f = [] := List.eq_nil_of_length_eq_zero hz
    have HK := Lib.hid hk
    clear hk hz
    gi_wp2
    refine wpIn_loop_rounds 1 ?_
    rw [roundsIn_succ]
    gi_wp2
    go_end0
    exact ⟨⟨_, rfl⟩, .inl ⟨[], HK.out.symm, hJ2⟩⟩
  · have hle := keysOf_length_le n f
    have hkc : ∀ (k : Nat) (x : Int), (keysOf n f)[k]? = some x → cur[k]? = some (.int .i64 x) := by
      intro k x hx
      have h2 : ((keysOf n f).map (Value.int .i64))[k]? = some (.int .i64 x) := by simp [hx]
      rw [← r4, List.getElem?_take] at h2
      split at h2
      · simpa using h2
      · cases h2
    have HKC := Lib.hid hkc
    clear hkc r4 r3 r2 r1
    gi_wp2
    gi_loopw [4, 9] (fun _ i wr => ∃ k : Nat, k ≤ (keysOf n f).length ∧ i = .int .i64 k ∧ J ((keysOf n f).take k) wr ∧ KeepsE W2 wr) (fun _ i _ => (keysOf n f).length - (intOf i).toNat)
    case atStart => exact ⟨0, Nat.zero_le _, rfl, by simpa using hJ2, KeepsE.refl _⟩
    case round =>
      obtain ⟨k, hk, rfl, hJr, hKr⟩ := hrel
      by_cases hlt : k < (keysOf n f).length
      · obtain ⟨x, hxk⟩ : ∃ x, (keysOf n f)[k]? = some x := ⟨_, List.getElem?_eq_getElem hlt⟩
        have hgr : wr.heap[gb]? = some (.cells cur 3 (0, 0)) := hKr.same gb _ hgb rfl
        have d1 : wr.cell? ⟨gb, k, none⟩ = some (.int .i64 x) := by simp [World.cell?, hgr, HKC.out k x hxk]
        have hbr := hKr.boxed hbox2
        have d2 := hbr.cell
        have hownr := hKr.map hown2
        have hxm := mem_keysOf.1 (List.mem_of_getElem? hxk)
        have hkey := Maps.keyOf_int_mk (k := 3) Try.underlying3 (wf64 (x := x) (by omega) (by omega))
        have HT := Lib.hid (atKey_tally0 hgood x)
        have HX := Lib.hid hxk
        obtain ⟨fn, tmps, assign, body, hy, hR⟩ := hY ((keysOf n f).take k) x wr hJr (by rw [List.length_take]; omega)
        dsimp only [encs2] at hy
        have HR := Lib.hid hR
        clear hR hxk hgr hxm hY
        gi_wp2_with (gi_at_lookup; refine wpListIn_lookup_own_int _ rfl _ _ 67 rfl 3 3 .i64 (Maps.int_keyed Try.underlying3) Try.underlying67 Try.underlying3 (Try.zeroValue3 _) bm 256 _ rfl hownr _ _ rfl hkey ?_; intro c hat hwc; obtain rfl : f x = c := by (rw [HT.out] at hat; simpa using hat))
        refine HR.out.mono ?_
        rintro e W3 (⟨rfl, hJ3, hk3⟩ | ⟨rfl, hJx3⟩)
        · gi_wp2
          go_roundw
          case rel => exact ⟨k + 1, by omega, by go_num, by rw [List.take_add_one, HX.out]; exact hJ3, hKr.trans hk3⟩
          case measure => simp [intOf]; omega
        · gi_wp2
          refine bodyPost_ret (results_none rfl _ _ _) rfl ?_
          exact ⟨⟨_, rfl⟩, .inr ⟨_, trivial, hJx3⟩⟩
      · gi_wp2
        go_end0
        refine ⟨⟨_, rfl⟩, .inl ⟨_, rfl, ?_⟩⟩
        rw [List.take_of_length_le (by omega)] at hJr
        exact hJr

end Go.Proofs.Ytacbmpffpfaciaa
