/-
  LayG: Layer 10, walks: the stripes' places, Long (the program's, the reference's).
  LayJ: Layer 9, walks: Cut: a layer as rows of one block.
  LayM: Layer 9, walks: Cut.
-/
import Derived.Test.YtibelpamolcmcaaMxan
import Derived.RangeFuncNested
import Derived.RangeFuncBound
import Derived.RangeFuncCalls
import Derived.RangeFuncLeaves
import Derived.RangeFuncBox
import Derived.RangeFuncMany
import Derived.Shelf.Abstract
import Derived.TacticsInMore
import Derived.LoopNIn
import Derived.LoopIn
import Derived.Test.YtibelpamolcmcaaMxaj
import Derived.Maps.OwnIn
namespace Go.Proofs.Ytibelpamolcmcaa

section -- LayG
open Go.RowKit Go.Maps Go.Shelf

attribute [local go_sem] Oper.semAt_some
set_option linter.unusedVariables false
set_option linter.unusedSimpArgs false
set_option maxRecDepth 100000
set_option maxHeartbeats 2000000

/-- Where stripe i lies, as it is handed on. -/
abbrev encN (t : List (Int × Int)) (i : Nat) : Array Value := #[.int .i64 ((atT t i : Nat) : Int), .int .i64 ((atT t (i + 1) : Nat) : Int)]
/-- The places of a table lie low. -/
theorem atT_low {n : Int} {t : List (Int × Int)} (hok : RowsOk n t t.length) : ∀ {i : Nat}, i ≤ t.length → atT t i ≤ i * 65535
  | 0, _ => by simp [atT_zero]
  | i + 1, h => by
    have ih := atT_low hok (i := i) (by omega)
    have h1 := hok i (by omega)
    have h2 := (hok.ge i (by omega)).1
    obtain ⟨_, _, h3, h4⟩ := h1
    rw [atT_succ (by omega)]
    have : wdT (t.getD i (0, 0)) ≤ (t.getD i (0, 0)).2.toNat := by unfold wdT; exact wdN_le (by omega)
    omega
theorem width_row (W : World) (r : Int × Int) (h1 : 1 ≤ r.1) (h2 : r.1 ≤ 255) (h3 : 0 ≤ r.2) (h4 : r.2 ≤ 65535) :
    Calls Try.prog 69 #[.int .i64 r.2, .int .i64 r.1] W fun e w' => e = .returned (.tuple #[.int .i64 ((wdT r : Nat) : Int), .int .i64 0]) ∧ W = w' := by
  obtain ⟨k, hk⟩ : ∃ k : Nat, r.1 = (k : Int) := ⟨r.1.toNat, by omega⟩
  obtain ⟨l, hl⟩ : ∃ l : Nat, r.2 = (l : Int) := ⟨r.2.toNat, by omega⟩
  have e : wdT r = wdN l k := by unfold wdT; rw [hk, hl]; rfl
  rw [hk] at h1 h2
  rw [hl] at h3 h4
  rw [e, hk, hl]
  exact width_any W l k (by omega) (by omega) (by omega)

/-- What a loop's body keeps: all cells but those of blocks of S. -/
structure KC (S : Nat → Prop) (W W' : World) : Prop where
  size : W.heap.size ≤ W'.heap.size
  same : ∀ (k : Nat) (C : Array Value) (e : TypeId) (f : Nat × Nat), ¬ S k → W.heap[k]? = some (.cells C e f) → W'.heap[k]? = some (.cells C e f)
theorem KC.refl (S : Nat → Prop) (W : World) : KC S W W := ⟨Nat.le_refl _, fun _ _ _ _ _ h => h⟩
theorem KC.trans {S : Nat → Prop} {A B C : World} (h : KC S A B) (k : KC S B C) : KC S A C := ⟨Nat.le_trans h.size k.size, fun i c e f hs hi => k.same i c e f hs (h.same i c e f hs hi)⟩
theorem kc_t {S : Nat → Prop} {A B C : World} (h : KC S A B) (k : KC S B C) : KC S A C := h.trans k
theorem KC.below {S : Nat → Prop} {A B : World} (h : Below A.heap.size A B) : KC S A B := ⟨h.size, fun k c e f _ hk => (h.block k (Array.getElem?_eq_some_iff.1 hk).1).trans hk⟩
theorem KC.kept {S : Nat → Prop} {A B : World} (h : Kept S A B) : KC S A B := ⟨h.size, fun k c e f hs hk => (h.block k (Array.getElem?_eq_some_iff.1 hk).1 hs).trans hk⟩
theorem KC.grown {S : Nat → Prop} {W W' : World} {row : Option Nat} (hg : W.grownBy W' row) (hr : ∀ j, row = some j → S j) : KC S W W' :=
  ⟨hg.size, fun k c e f hs hk => (hg.block k (Array.getElem?_eq_some_iff.1 hk).1 (fun q => hs (hr k q.symm))).trans hk⟩
theorem KC.alloc (S : Nat → Prop) (W : World) (o : Obj) : KC S W (W.alloc o) := KC.grown (World.grownBy_alloc W o none) (fun j h => by cases h)
theorem kc_b {S : Nat → Prop} {w : World} (W : World) (l : Nat) (o o' : Obj) (_ : w.heap.size ≤ l) (h : W.heap[l]? = some o) (hc : o.isCells = false) (_ : o.isWalk = false) : KC S W (W.putObj l o') :=
  ⟨(grownBy_putObj' W l o').size, fun k c e f hs hk => by
    by_cases e2 : k = l
    · subst e2
      rw [h] at hk; cases hk; cases hc
    · exact ((grownBy_putObj' W l o').block k (Array.getElem?_eq_some_iff.1 hk).1 (fun q => e2 (by cases q; rfl))).trans hk⟩
theorem KC.cell {S : Nat → Prop} {W W' : World} (h : KC S W W') {p : Addr} {v : Value} (hs : ¬ S p.block) (hc : W.cell? p = some v) : W'.cell? p = some v := by
  unfold World.cell? at hc ⊢
  cases hk : W.heap[p.block]? with
  | none => rw [hk] at hc; exact absurd hc (by simp)
  | some o =>
    rw [hk] at hc
    cases o with
    | cells c e f => rw [h.same _ c e f hs hk]; exact hc
    | _ => exact absurd hc (by simp)
theorem KC.boxed {S : Nat → Prop} {W W' : World} (h : KC S W W') {B : Nat} {t : TypeId} {v : Value} (hs : ¬ S B) (hb : Boxed W B t v) : Boxed W' B t v := h.same B _ _ _ hs hb

/-- The closure of the stripes' places. -/
theorem stripes_in (m : Nat) (p : Option Addr) (n c : Nat) (w : World) :
    CallsIn Fence.wide m Try.prog 62 #[.slice p n c] w fun e w' => e = .returned (.func (.func 68) #[] #[.pointer (some ⟨w.heap.size, 0, none⟩)]) ∧ w' = w.alloc (.cells #[.slice p n c] 29) := by
  refine callsIn_of_wp Try.func62 rfl trivial ?_ rfl
  simp only [Try.ntmps62, List.size_toArray, List.length_cons, List.length_nil, Nat.reduceAdd, Nat.reduceSub, Array.replicate_succ, Array.replicate_zero, List.push_toArray, List.append_toArray, List.nil_append, List.cons_append]
  gi_wp2
  go_ret
  exact ⟨rfl, rfl⟩

/-- The places, for every loop body. -/
theorem stripes1_in (m : Nat) (hm1 : 2 ≤ m) (l Bt : Nat) (v : Value) (t : List (Int × Int)) (n : Int) (hok : RowsOk n t t.length) (hn : n ≤ 255) (hlen : t.length ≤ 8) (wT w0 : World) (htab : TableAt wT v t) (hT : Below wT.heap.size wT w0) (S : Nat → Prop) (hS : ∀ k, k < wT.heap.size → ¬ S k) (hSB : ¬ S Bt) (hbox : Boxed w0 Bt 29 v) (J Jx : List Nat → World → Prop)
    (hY : ∀ pre x W, J pre W → pre.length < t.length → YieldAt Fence.wide (m - 1) Try.prog l (encN t x) W fun e W' =>
      (e = .returned (.bool true) ∧ J (pre ++ [x]) W' ∧ KC S W W') ∨ (e = .returned (.bool false) ∧ Jx (pre ++ [x]) W'))
    (W : World) (hW : KC S w0 W) (hJ : AbidesFrom W.heap.size J) (h0 : J [] W) :
    CallsIn Fence.wide m Try.prog 68 #[.func (.yield l) #[] #[], .pointer (some ⟨Bt, 0, none⟩)] W fun e W' => (∃ v, e = .returned v) ∧
      ((∃ ss, ss = List.range t.length ∧ J ss W') ∨ (∃ pre, True ∧ Jx pre W')) := by
  have HTB := Lib.hid htab
  obtain ⟨p, cap, rfl, hcap, hh⟩ := htab
  have hbc := hbox.cell
  have hc0 := hW.cell (p := ⟨Bt, 0, none⟩) hSB hbc
  obtain ⟨L, hL⟩ : ∃ L, t.length = L := ⟨_, rfl⟩
  have HL := Lib.hid hL
  have HOK := Lib.hid hok
  have HH := Lib.hid hh
  have HW := Lib.hid hW
  have HJ := Lib.hid hJ
  have HY := Lib.hid hY
  rw [hL] at HH HY hlen hcap hc0 ⊢
  clear hh hok hL hbox hbc HTB hW
  refine callsIn_of_wp Try.func68 rfl trivial ?_ rfl
  simp only [Try.ntmps68, List.size_toArray, List.length_cons, List.length_nil, Nat.reduceAdd, Nat.reduceSub, Array.replicate_succ, Array.replicate_zero, List.push_toArray, List.append_toArray, List.nil_append, List.cons_append]
  have h1 : 1 ≤ m := by omega
  have hf31 : Fence.wide.fn 69 := trivial
  gi_wp2
  gi_loopw [3, 5, 6, 7, 10] (fun a _ _ _ i wr => ∃ k : Nat, k ≤ L ∧ i = .int .i64 (k : Int) ∧ a = .int .i64 ((atT t k : Nat) : Int) ∧ J (List.range k) wr ∧ KC S w0 wr) (fun _ _ _ _ i _ => L - (intOf i).toNat)
  case atStart => exact ⟨0, Nat.zero_le _, rfl, by rw [atT_zero]; rfl, h0, HW.out⟩
  case round =>
    obtain ⟨wo, rfl⟩ : ∃ wo, wo = wr := ⟨_, rfl⟩
    obtain ⟨k, hk, rfl, rfl, hJr, hB⟩ := hrel
    have HB := Lib.hid hB
    by_cases hlt : k < L
    · obtain ⟨g, off, rfl, hc⟩ := HH.out (by omega)
      obtain ⟨d0, d1⟩ := hc k hlt
      have d0 := hB.cell (p := ⟨g, off + k * 2, none⟩) (hS _ (blt d0)) ((hT.cell (p := ⟨g, off + k * 2, none⟩) (blt d0)).trans d0)
      have d1 := hB.cell (p := ⟨g, off + k * 2 + 1, none⟩) (hS _ (blt d1)) ((hT.cell (p := ⟨g, off + k * 2 + 1, none⟩) (blt d1)).trans d1)
      have hrow := HOK.out k (by rw [HL.out]; exact hlt)
      have hge := (HOK.out.ge k (by rw [HL.out]; exact hlt)).1
      have hlow := atT_low HOK.out (i := k) (by rw [HL.out]; omega)
      have hlow2 := atT_low HOK.out (i := k + 1) (by rw [HL.out]; omega)
      have hsu := atT_succ (t := t) (i := k) (by rw [HL.out]; exact hlt)
      have HAT := Lib.hid hsu
      rw [hsu] at hlow2
      obtain ⟨r, hr⟩ : ∃ r, t.getD k (0, 0) = r := ⟨_, rfl⟩
      rw [hr] at d0 d1 hrow hge hlow2 HAT
      have HWD := Lib.hid (fun W => width_row W r hge (by have := hrow.2.1; omega) hrow.2.2.1 hrow.2.2.2)
      obtain ⟨kk, ll⟩ := r
      dsimp only at d0 d1 HWD
      obtain ⟨ww, hww⟩ : ∃ x, wdT (kk, ll) = x := ⟨_, rfl⟩
      obtain ⟨aa, haa⟩ : ∃ x, atT t k = x := ⟨_, rfl⟩
      rw [hww] at HWD HAT hlow2
      rw [haa] at HAT hlow hlow2 ⊢
      have hJa := HJ.out _ wo (wo.alloc (.cells #[.int .i64 kk, .int .i64 ll] 80)) none hJr (World.grownBy_alloc wo _ none) (fun r e => by cases e)
      have hBa : KC S w0 (wo.alloc (.cells #[.int .i64 kk, .int .i64 ll] 80)) := hB.trans (KC.alloc S _ _)
      obtain ⟨fn, tmps, assign, body, hy, hR⟩ := HY.out (List.range k) k _ hJa (by simpa using hlt)
      dsimp only [encN] at hy
      rw [HAT.out, haa, Int.natCast_add] at hy
      have HRS := Lib.hid (List.range_succ (n := k))
      have HR := Lib.hid hR
      have HBA := Lib.hid hBa
      clear hR hc hrow hJr hr hB hJa hBa hsu hww haa
      gi_wp2_with (gi_at_call 69; refine (callsIn_wide.2 (HWD.out _)).mono ?_; rintro e w' ⟨rfl, rfl⟩)
      refine HR.out.mono ?_
      rintro e W3 (⟨rfl, hJ3, hk3⟩ | ⟨rfl, hJx3⟩)
      · gi_wp2
        go_roundw
        case rel => exact ⟨k + 1, by omega, by go_num, by rw [HAT.out]; go_num, by rw [HRS.out]; exact hJ3, HBA.out.trans hk3⟩
        case measure => simp [intOf]; omega
      · gi_wp2
        refine bodyPost_ret (results_none rfl _ _ _) rfl ?_
        exact ⟨⟨_, rfl⟩, .inr ⟨_, trivial, hJx3⟩⟩
    · obtain rfl : k = L := by omega
      gi_wp2
      go_end0
      exact ⟨⟨_, rfl⟩, .inl ⟨_, rfl, hJr⟩⟩

theorem stripes_stops (m : Nat) (hm1 : 2 ≤ m) (Bt : Nat) (v : Value) (t : List (Int × Int)) (n : Int) (hok : RowsOk n t t.length) (hn : n ≤ 255) (hlen : t.length ≤ 8) (wT w : World) (htab : TableAt wT v t) (hT : Below wT.heap.size wT w) (S : Nat → Prop) (hS : ∀ k, k < wT.heap.size → ¬ S k) (hSB : ¬ S Bt) (hbox : Boxed w Bt 29 v) :
    SeqStopsK Fence.wide m Try.prog 68 #[.pointer (some ⟨Bt, 0, none⟩)] (encN t) (KC S) (fun ss => ss = List.range t.length) (fun _ => True) t.length w := fun l J Jx W hW hJ _ hY h0 =>
  stripes1_in m hm1 l Bt v t n hok hn hlen wT w htab hT S hS hSB hbox J Jx hY W (KC.below hW) hJ h0
end -- LayG

section -- LayJ
open Go.RowKit Go.Maps Go.Shelf

attribute [local go_sem] Oper.semAt_some
set_option linter.unusedVariables false
set_option linter.unusedSimpArgs false
set_option maxRecDepth 100000
set_option maxHeartbeats 2000000

/-- copy, into the first part of a block. -/
theorem run_copy_part {W : World} {g n m c : Nat} {p : Option Addr} {cu : Nat} {z l : List B} (hz : RowF W g z) (hzn : z.length = n) (hlm : l.length = m) (hmn : m ≤ n) (hs : 0 < m → ∃ gs os, p = some ⟨gs, os, none⟩ ∧ ∀ i, i < m → W.cell? ⟨gs, os + i, none⟩ = some (bv (l.getD i 0))) :
    ∃ W5, (Builtin.copy_ #[32, 32] 3 #[.slice (some ⟨g, 0, none⟩) n c, .slice p m cu]).run Try.prog W = .ok (.int .i64 (m : Int)) W5 ∧ RowF W5 g (l ++ z.drop m) ∧ Kept (fun i => i = g) W W5 := by
  by_cases h0 : m = 0
  · subst h0
    have : l = [] := List.eq_nil_of_length_eq_zero hlm
    subst this
    exact ⟨W, run_copy_none W _ _ _ 5 _ p n c 0 cu Try.underlying32 infoB1 (Nat.zero_min n), by simpa using hz, Kept.refl _ _⟩
  · obtain ⟨gs, os, rfl, hc⟩ := hs (by omega)
    have hr := run_copy_row (P := Try.prog) W 32 32 3 5 g 0 n c ⟨gs, os, none⟩ m cu (z.map bv).toArray 5 (l.map bv) Try.underlying32 infoB1 hz (by simp [hlm]; exact (Nat.min_eq_left hmn).symm) (fun j v hj => by
      have hjn : j < l.length := by
        have := (List.getElem?_eq_some_iff.1 hj).1
        simpa using this
      have e : (⟨gs, os, none⟩ : Addr).add j = ⟨gs, os + j, none⟩ := by unfold Addr.add; split <;> simp_all
      rw [e, hc j (by omega)]
      rw [map_getD_bv hjn] at hj
      exact hj) (by simp [hzn, hlm]; omega) (fun v hv => by obtain ⟨x, _, rfl⟩ := List.mem_map.1 hv; rfl)
    refine ⟨W.setRow g (l.map bv ++ (z.map bv).drop m).toArray, by simpa [goInt, hlm] using hr, ?_, ⟨rfl, rfl, rfl, by simp, fun i _ hi => setRow_other _ _ _ _ hi⟩⟩
    have := setRow_heap W g _ (l.map bv ++ (z.map bv).drop m).toArray _ _ hz
    unfold RowF
    rw [this, List.map_append, List.map_drop]

/-- The rows of a block. -/
def rowV (g wd i : Nat) : Value := .slice (some ⟨g, i * wd, none⟩) wd wd
abbrev encR (g wd i : Nat) : Array Value := #[.slice (some ⟨g, i * wd, none⟩) wd wd]
end -- LayJ

section -- LayM
open Go.RowKit Go.Maps Go.Shelf

attribute [local go_sem] Oper.semAt_some
set_option linter.unusedVariables false
set_option linter.unusedSimpArgs false
set_option maxRecDepth 100000
set_option maxHeartbeats 2000000

theorem heap_own {β : Type} (g : Nat) (C : Array Value) (t : TypeId) (f : Nat × Nat) : Go.Own (fun (_ : β) (W : World) => W.heap[g]? = some (.cells C t f)) := fun s X Y row hs hg hrow =>
  (hg.block g (Array.getElem?_eq_some_iff.1 hs).1 (fun e => by obtain ⟨o, ho, hc⟩ := hrow g e.symm; rw [hs] at ho; cases ho; cases hc)).trans hs
theorem ownFrom_size {β : Type} (B c : Nat) : OwnFrom B (fun (_ : β) (W : World) => c ≤ W.heap.size) := fun _ X Y row hs hg _ => Nat.le_trans hs hg.size
theorem infoRs : (Try.prog.info? 32).map (fun i => (i.zero, i.size, i.bytes)) = some (some (.slice none 0 0), 1, 24) := infoR

/-- A layer, with noughts behind. -/
def padL (b : List B) (N : Nat) : List B := b ++ (List.replicate N 0).drop b.length
theorem padL_len {b : List B} {N : Nat} (h : b.length ≤ N) : (padL b N).length = N := by simp [padL]; omega
theorem padL_get (b : List B) (N i : Nat) : (padL b N).getD i 0 = b.getD i 0 := by
  unfold padL
  rw [List.getD_eq_getElem?_getD, List.getD_eq_getElem?_getD]
  by_cases h : i < b.length
  · rw [List.getElem?_append_left h]
  · rw [List.getElem?_append_right (by omega), List.getElem?_eq_none (l := b) (by omega)]
    simp only [List.drop_replicate, Option.getD_none]
    rw [List.getElem?_replicate]
    split <;> rfl
/-- The rows of a layer's block. -/
theorem cut_rows {w : World} {base g wd k : Nat} {b : List B} {v : Value} (h : w.ownsRow base 32 1 v k ((List.range k).map (rowV g wd))) (hg : RowF w g (padL b (k * wd))) (hb : b.length ≤ k * wd) : RowsAt w v (cutL b k wd) := by
  refine RowsAt.of_owns (by rw [cutL_len]; exact h) (fun i u hi => ?_)
  have hik : i < k := by
    have := (List.getElem?_eq_some_iff.1 hi).1
    simpa using this
  have e : u = rowV g wd i := by simpa [hik] using hi.symm
  subst e
  rw [cutL_get hik]
  have hl : (rowL wd fun c => b.getD (i * wd + c) 0).length = wd := rowL_len _ _
  refine ⟨_, wd, by rw [hl]; rfl, fun h0 => ⟨g, i * wd, rfl, fun j hj => ?_⟩⟩
  rw [hl] at hj
  have hlt : i * wd + j < k * wd := by
    have : i * wd + wd ≤ k * wd := by rw [← Nat.succ_mul]; exact Nat.mul_le_mul_right _ hik
    omega
  have hc := hg.toW.cell (i := i * wd + j) (by rw [padL_len hb]; exact hlt)
  rw [hc, padL_get, rowL_get _ hj]
end -- LayM

end Go.Proofs.Ytibelpamolcmcaa
