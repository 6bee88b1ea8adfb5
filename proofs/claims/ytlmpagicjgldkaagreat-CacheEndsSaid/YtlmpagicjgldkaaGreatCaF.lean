/-
  oldest: the key that was used longest ago.
-/
import Derived.Test.YtlmpagicjgldkaaGreatMxbe
import Derived.Test.YtlmpagicjgldkaaGreatCaC
namespace Go.Proofs.YtlmpagicjgldkaaGreat
open Go.RowKit Go.Maps
set_option linter.unusedVariables false
set_option linter.unusedSimpArgs false
set_option maxRecDepth 100000
set_option maxHeartbeats 2000000

theorem ranges_kept {S : Nat → Prop} {w w' : World} {b r n : Nat} {D : DataW Value} {left : Lit → Bool} {cnt : Nat} (h : w.ranges Tryz.prog 86 heldR b r n D left cnt) (hk : Kept S w w') (hb : ¬ S b) (hr : ¬ S r) : w'.ranges Tryz.prog 86 heldR b r n D left cnt := by
  have h1 := h.owns.lt
  have h2 := h.lt
  obtain ⟨es, clock, since, seen, c0, x1, x2, x3, x4, x5, x6⟩ := h
  exact ⟨es, clock, since, seen, c0, (hk.block b h1 hb).trans x1, x2, x3, x4, (hk.block r h2 hr).trans x5, x6⟩
theorem kept_grown {w w' : World} {row : Option Nat} (h : w.grownBy w' row) : Kept (fun i => row = some i) w w' :=
  ⟨h.os, h.tape, h.output, h.size, fun i hi hn => h.block i hi (fun e => hn e.symm)⟩
/-- A whole row is stored, at a step of a drawn region. -/
theorem step_row {P : Program} {ops : Array Oper} {o : Oper} {a : Act} {W : World} {K : Act → World → Prop} {Q : Exit → Act → World → Prop} {E : Prop} (hw : Region.wanted o (yielded ops a.tmps) = true) (ty : TypeId) (x y : Operand) (ho : o.op = .store ty x y)
    (g : Nat) (cells : Array Value) (hx : a.eval x = .pointer (some ⟨g, 0, none⟩)) (hy : a.eval y = .agg cells) (t : TypeId) (old : Array Value) (hg : W.heap[g]? = some (.cells old t (0, 0))) (hi : (P.info? ty).map (·.size) = some cells.size)
    (hold : old.size = cells.size) (h1 : cells.all (·.oneCell') = true) (h : K (a.put o.dst undef) (W.setRow g cells)) : if Region.wanted o (yielded ops a.tmps) = true then Oper.wp P o a W K Q else E := by
  rw [if_pos hw]
  exact wp_store_row ty x y ho g cells hx hy t old hg hi hold h1 h

/-- The best of those that came so far. -/
def Best (es : List CE) (now : Nat) (left : Lit → Bool) (f g : Nat) (w : World) : Prop :=
  (∀ e ∈ es, left e.L = false → f ≤ e.u) ∧ ((f = now + 1 ∧ KeyAt w g 0 [] ∧ ∀ e ∈ es, left e.L = true) ∨ ∃ e ∈ es, left e.L = false ∧ e.u = f ∧ KeyAt w g e.k e.xs)
theorem Best.kept {S : Nat → Prop} {es : List CE} {now : Nat} {left : Lit → Bool} {f g : Nat} {w w' : World} (h : Best es now left f g w) (hk : Kept S w w') (hS : ¬ S g) : Best es now left f g w' := by
  refine ⟨h.1, h.2.imp (fun ⟨a, b, c⟩ => ⟨a, b.kept hk hS, c⟩) (fun ⟨e, a, b, c, d⟩ => ⟨e, a, b, c, d.kept hk hS⟩)⟩
/-- What came is struck. -/
def strikeL (left : Lit → Bool) (l : Lit) : Lit → Bool := fun z => left z && !z.sameKey l
theorem strikeL_eq (left : Lit → Bool) {l z : Lit} (hl : WideAt.IsKeyLit l) (h : z = l) : strikeL left l z = false := by
  unfold strikeL
  rw [h, WideAt.sameKey_self hl]
  simp
theorem strikeL_ne (left : Lit → Bool) {l z : Lit} (h : z ≠ l) : strikeL left l z = left z := by
  unfold strikeL
  rw [sameKey_ne h]
  simp
theorem Best.worse {es : List CE} {now : Nat} {left : Lit → Bool} {f g : Nat} {w : World} (h : Best es now left f g w) {e : CE} (he : e ∈ es) (hl : WideAt.IsKeyLit e.L) (hn : ∀ x ∈ es, x.L = e.L → x.u = e.u) (hle : f ≤ e.u) (hu : e.u ≤ now) : Best es now (strikeL left e.L) f g w := by
  refine ⟨fun x hx hxl => ?_, .inr ?_⟩
  · by_cases q : x.L = e.L
    · rw [hn x hx q]; exact hle
    · rw [strikeL_ne left q] at hxl; exact h.1 x hx hxl
  · rcases h.2 with ⟨a, _⟩ | ⟨x, hx, a, b, c⟩
    · omega
    · refine ⟨x, hx, ?_, b, c⟩
      by_cases q : x.L = e.L
      · exact strikeL_eq left hl q
      · rw [strikeL_ne left q]; exact a
theorem Best.better {es : List CE} {now : Nat} {left : Lit → Bool} {f g : Nat} {w w' : World} (h : Best es now left f g w) {e : CE} (he : e ∈ es) (hl : WideAt.IsKeyLit e.L) (hn : ∀ x ∈ es, x.L = e.L → x.u = e.u) (hlt : e.u < f) (hk : KeyAt w' g e.k e.xs) : Best es now (strikeL left e.L) e.u g w' := by
  refine ⟨fun x hx hxl => ?_, .inr ⟨e, he, strikeL_eq left hl rfl, rfl, hk⟩⟩
  by_cases q : x.L = e.L
  · rw [hn x hx q]; exact Nat.le_refl _
  · rw [strikeL_ne left q] at hxl
    have := h.1 x hx hxl
    omega
theorem u_inj {es : List CE} (hr : (es.map CE.L).Nodup) : ∀ {x e : CE}, x ∈ es → e ∈ es → x.L = e.L → x = e := by
  induction es with
  | nil => intro x e hx; simp at hx
  | cons y r ih =>
    intro x e hx he h
    obtain ⟨h1, h2⟩ := List.nodup_cons.1 hr
    rcases List.mem_cons.1 hx with ex | hx
    · rcases List.mem_cons.1 he with ee | he
      · rw [ex, ee]
      · exact absurd (List.mem_map.2 ⟨e, he, by rw [← h, ex]⟩) h1
    · rcases List.mem_cons.1 he with ee | he
      · exact absurd (List.mem_map.2 ⟨x, hx, by rw [h, ee]⟩) h1
      · exact ih h2 hx he h
/-- The round's variables: the key's copy, the entry's. -/
noncomputable def oldW (w1 : World) (C : Array Value) (g : Nat) : World := ((w1.alloc (.cells Tryz.zeroCells86 86)).alloc (.cells #[.slice none 0 0, .int .i64 0] 90)).setRow g C
theorem oldW_run (w1 : World) (C : Array Value) (g : Nat) (hg : w1.heap.size = g) (hC : C.size = 256) (h1 : C.all (·.oneCell') = true) :
    (storeCells ⟨g, 0, none⟩ C.toList 0).run Tryz.prog ((w1.alloc (.cells Tryz.zeroCells86 86)).alloc (.cells #[.slice none 0 0, .int .i64 0] 90)) = .ok () (oldW w1 C g) := by
  have hg0 : ((w1.alloc (.cells Tryz.zeroCells86 86)).alloc (.cells #[.slice none 0 0, .int .i64 0] 90)).heap[g]? = some (.cells Tryz.zeroCells86 86 (0, 0)) := by
    rw [(Kept.alloc (fun _ => False) (w1.alloc (.cells Tryz.zeroCells86 86)) _).block g (by simp; omega) (fun h => h), ← hg]
    exact Go.heap_alloc_new _ _
  have := run_storeVar_row (P := Tryz.prog) _ g 86 86 _ C hg0 (by rw [hC]; exact size_key) (by rw [zero_key, kc_size, hC]) h1
  obtain ⟨i6, hi6⟩ : ∃ i, Tryz.prog.info? 86 = some i := by cases hq : Tryz.prog.info? 86 with | none => have := size_key; rw [hq] at this; cases this | some i => exact ⟨i, rfl⟩
  have h6 : i6.size = 256 := by have := size_key; rw [hi6] at this; simpa using this
  simpa [storeVar, sizeOf, typeInfo, hi6, Value.cells, h6, hC, oldW] using this
theorem oldW_facts (w1 : World) (C : Array Value) (g : Nat) (hg : w1.heap.size = g) : (oldW w1 C g).heap[g]? = some (.cells C 86 (0, 0)) ∧ (oldW w1 C g).heap[g + 1]? = some (.cells #[.slice none 0 0, .int .i64 0] 90 (0, 0)) ∧ Kept (fun _ => False) w1 (oldW w1 C g) ∧ (oldW w1 C g).heap.size = g + 2 := by
  have hg0 : ((w1.alloc (.cells Tryz.zeroCells86 86)).alloc (.cells #[.slice none 0 0, .int .i64 0] 90)).heap[g]? = some (.cells Tryz.zeroCells86 86 (0, 0)) := by
    rw [(Kept.alloc (fun _ => False) (w1.alloc (.cells Tryz.zeroCells86 86)) _).block g (by simp; omega) (fun h => h), ← hg]
    exact Go.heap_alloc_new _ _
  refine ⟨setRow_heap _ _ _ _ _ _ hg0, ?_, ?_, by unfold oldW; simp; omega⟩
  · unfold oldW
    rw [setRow_other _ _ _ _ (by omega)]
    have := Go.heap_alloc_new (w1.alloc (.cells Tryz.zeroCells86 86)) (.cells #[.slice none 0 0, .int .i64 0] 90)
    rw [show (w1.alloc (.cells Tryz.zeroCells86 86)).heap.size = g + 1 by simp; omega] at this
    exact this
  · have k := (Kept.alloc (fun _ => False) w1 (.cells Tryz.zeroCells86 86)).trans (Kept.alloc (fun _ => False) _ (.cells #[.slice none 0 0, .int .i64 0] 90)) (fun _ _ h => h)
    exact ⟨k.os, k.tape, k.output, by unfold oldW; simp; omega, fun i hi hn => (setRow_other _ _ _ _ (by omega)).trans (k.block i hi hn)⟩
/-- Behind the round's variables. -/
structure OldMid (w W : World) (C : Array Value) (u : Nat) : Prop where
  d4 : W.heap[w.heap.size]? = some (.cells C 86 (0, 0))
  d5 : W.cell? ⟨w.heap.size + 1, 1, none⟩ = some (.int .i64 (u : Int))
  kb : Kept (fun _ => False) w W
  hs : w.heap.size + 2 = W.heap.size

theorem oldest_any (w : World) {F : Nat → Prop} {b bm : Nat} {s : CS} (hc : CacheAt w F b bm s) (e0 : CE) (r0 : List CE) (hes : s.es = e0 :: r0) (hnow : s.now < 1000000000) :
    Calls Tryz.prog 59 #[.pointer (some ⟨b, 0, none⟩)] w fun e w' => e = .returned (keyV e0.k e0.xs) ∧ Below w.heap.size w w' := by
  have c0 := hc.c0
  have c2 := hc.c2
  have hl := hc.lt
  have hbm := hc.map.lt
  have HG := Lib.hid hc.good
  have HN5 := Lib.hid hc.n255
  have HND := Lib.hid (show (s.es.map CE.L).Nodup by have := hc.map.nodup; rw [List.map_map] at this; exact this)
  have HRI := Lib.hid hc.rise
  have hmap := hc.map
  obtain ⟨D, ho, hsz, hnd, ha, hh⟩ := hmap
  have HAT := Lib.hid (show ∀ e ∈ s.es, ∀ z, D.atKey e.L z = .held (.agg #[e.v, .int .i64 (e.u : Int)]) from fun e he z => ha e.p (List.mem_map.2 ⟨e, he, rfl⟩) z)
  have HHH := Lib.hid (show ∀ l, Maps.has D l = true → ∃ e ∈ s.es, e.L = l from fun l hl => by
    obtain ⟨p, hp, e⟩ := hh l hl
    obtain ⟨x, hx, rfl⟩ := List.mem_map.1 hp
    exact ⟨x, hx, e⟩)
  have HOW := Lib.hid ho
  have HES := Lib.hid hes
  obtain ⟨now, hnw⟩ : ∃ n, s.now = n := ⟨_, rfl⟩
  rw [hnw] at c2 hnow
  have HNW := Lib.hid hnw
  have HGN := Lib.hid (Go.heap_alloc_new w (.cells Tryz.zeroCells86 86))
  have HKA := Lib.hid (Kept.alloc (fun _ => False) w (.cells Tryz.zeroCells86 86))
  have c0' : (w.alloc (.cells Tryz.zeroCells86 86)).cell? ⟨b, 0, none⟩ = some (.map (some bm)) := alloc_cell c0 _
  have c2' : (w.alloc (.cells Tryz.zeroCells86 86)).cell? ⟨b, 2, none⟩ = some (.int .i64 (now : Int)) := alloc_cell c2 _
  have HOA := Lib.hid (ho.alloc (.cells Tryz.zeroCells86 86))
  have HSA := Lib.hid (show w.heap.size < (w.alloc (.cells Tryz.zeroCells86 86)).heap.size by simp)
  clear hc ho hsz hnd ha hh hes hnw c0 c2
  go_enter Tryz.func59, Tryz.ntmps59
  go_wp2_with (first | (at_range; refine wpList_range_own _ rfl _ 60 rfl 86 90 keyed Tryz.underlying60 heldR bm (Maps.size D) D rfl HOA.out ?_; intro w0 hrg0 hg0 hs0) | fail)
  go_frame
  have hrr : w.heap.size < (w.alloc (.cells Tryz.zeroCells86 86)).heap.size := HSA.out
  have HB0 := Lib.hid (show Below w.heap.size w w0 from (HKA.out.trans (kept_grown hg0) (fun _ _ h => by cases h)).toBelow (Nat.le_refl _) (fun _ h => h.elim))
  have HK00 := Lib.hid (show KeyAt w0 w.heap.size 0 [] from by
    have := (kept_grown hg0).block w.heap.size HSA.out (by simp)
    unfold KeyAt
    rw [this, HGN.out, zero_key])
  have HRG0 := Lib.hid hrg0
  clear hrg0 hg0 c0' c2'
  generalize (w.alloc (.cells Tryz.zeroCells86 86)).heap.size = rr at *
  go_loopw [3] (fun v3 wr => ∃ left cnt, ∃ f : Nat, wr.ranges Tryz.prog 86 heldR bm rr (Maps.size D) D left cnt ∧ v3 = .int .i64 (f : Int) ∧ f ≤ now + 1 ∧ Best s.es now left f w.heap.size wr ∧ Below w.heap.size w wr ∧ rr < wr.heap.size) (fun _ wr => wr.rangeLeft bm rr)
  case atStart =>
    refine ⟨_, _, now + 1, HRG0.out, by go_num, Nat.le_refl _, ⟨fun e he h => ?_, .inl ⟨rfl, HK00.out, fun e he => has_true_of_atKey (HAT.out e he)⟩⟩, HB0.out, by omega⟩
    rw [has_true_of_atKey (HAT.out e he)] at h
    cases h
  case round =>
    obtain ⟨left, cnt, f, hrg, rfl, hf, hbest, hB, hrl⟩ := hrel
    have HRG := Lib.hid hrg
    have HBE := Lib.hid hbest
    have HB := Lib.hid hB
    clear hrg hbest hB
    go_wp2_with (at_next; refine wpList_next_ranges _ rfl _ rfl 86 keyed heldR (fun x : Value => x) (fun x : Value => x) (fun key kl _ => ⟨key, rfl⟩) (fun v _ _ => ⟨v, rfl⟩) bm rr (Maps.size D) D left cnt rfl HRG.out ?_ ?_)
    · intro hc0 hl0
      have hK : KeyAt wr w.heap.size e0.k e0.xs := by
        obtain ⟨h1, h2⟩ := HBE.out
        have he0 : e0 ∈ s.es := by rw [HES.out]; simp
        rcases h2 with ⟨_, _, h3⟩ | ⟨e, he, _, hu, hk⟩
        · have := h3 e0 he0
          rw [hl0] at this
          cases this
        · have h4 := h1 e0 he0 (hl0 _)
          have h5 := HRI.out
          rw [HES.out] at he h5
          rcases List.mem_cons.1 he with rfl | he
          · exact hk
          · have := (List.pairwise_cons.1 h5).1 e he
            omega
      have hgc := hK
      unfold KeyAt at hgc
      have HGC := Lib.hid hgc
      have HKK := Lib.hid hK
      have hsc : (storeCells ⟨w.heap.size, 0, none⟩ (kcells e0.k e0.xs) 0).run Tryz.prog wr = .ok () (wr.setRow w.heap.size (kcells e0.k e0.xs).toArray) := store_key _ _ _ hgc (kc_size _ _) _ _
      clear hl0 hc0 hgc hK
      go_wp2_with fail
      refine wp_load_row _ _ rfl w.heap.size rfl _ _ (0, 0) _ HGC.out Tryz.underlying86 rfl (kc_hi _ _) ?_
      go_wp2
      refine bodyPost_ret (results_cell_row rfl _ _ w.heap.size _ _ (0, 0) _ rfl HKK.out.store Tryz.underlying86 rfl (kc_hi _ _)) rfl ⟨rfl, ?_⟩
      exact HB.out.trans ((setRow_kept _ w.heap.size _).toBelow HB.out.size (fun i hi => by omega))
    · intro x c kl1 y y2 w1 cnt1 hkey hlx hv hat hrg1 hlt hg1 hs1 hen
      have HRG1 := Lib.hid hrg1
      have HLT := Lib.hid hlt
      have hhas : Maps.has D kl1 = true := has_true_of_atKey hat
      obtain ⟨e, he, heL⟩ := HHH.out kl1 hhas
      subst heL
      have hge := HG.out e he
      have hid := hge.idx HN5.out
      have hx : x = keyV e.k e.xs := keyed.inj hkey (by exact kl_key hid)
      have hc : c = .agg #[e.v, .int .i64 (e.u : Int)] := by
        have e1 := hat .nil
        rw [HAT.out e he] at e1
        have e2 : y = .held c := by
          have : heldR c = some (y, y2) := hv
          unfold heldR at this
          exact (congrArg Prod.fst (Option.some.inj this)).symm
        rw [e2] at e1
        injection e1 with e3
        exact e3.symm
      have HHE := Lib.hid he
      have HUN := Lib.hid (show ∀ x ∈ s.es, x.L = e.L → x.u = e.u from fun x hx h => by rw [u_inj HND.out hx he h])
      have HKL := Lib.hid (show WideAt.IsKeyLit e.L from kl_is hid)
      have HGE := Lib.hid hge
      have HID := Lib.hid hid
      have HKC := Lib.hid (kc_size e.k e.xs)
      have HK1 := Lib.hid (kc_one e.k e.xs)
      have HVS := Lib.hid (show e.v = .slice (some ⟨e.gm, 0, none⟩) e.k e.k from rfl)
      unfold keyV at hx
      obtain ⟨C, hC⟩ : ∃ C, (kcells e.k e.xs).toArray = C := ⟨_, rfl⟩
      rw [hC] at hx HKC HK1
      rw [HVS.out] at hc
      have HHC := Lib.hid hC
      obtain ⟨u, hu⟩ : ∃ u, e.u = u := ⟨_, rfl⟩
      obtain ⟨ek, hek⟩ : ∃ u, e.k = u := ⟨_, rfl⟩
      obtain ⟨gm, hgm⟩ : ∃ u, e.gm = u := ⟨_, rfl⟩
      rw [hu, hek, hgm] at hc
      have HHU := Lib.hid hu
      have HKG1 := Lib.hid (kept_grown hg1)
      clear hkey hlx hv hat hrg1 hlt hg1 hhas he hge hid hC hu hek hgm
      subst hx
      subst hc
      have hsc := oldW_run w1 C wr.heap.size hs1 HKC.out HK1.out
      have hfa := oldW_facts w1 C wr.heap.size hs1
      have y0 : (oldW w1 C wr.heap.size).cell? ⟨wr.heap.size + 1, 0, none⟩ = some (.slice none 0 0) := cell_of hfa.2.1 0
      have y1 : (oldW w1 C wr.heap.size).cell? ⟨wr.heap.size + 1, 1, none⟩ = some (.int .i64 0) := cell_of hfa.2.1 1
      have f0 : (oldW w1 C wr.heap.size).frozen? ⟨wr.heap.size + 1, 0, none⟩ = false := fz_of hfa.2.1 0
      have f1 : (oldW w1 C wr.heap.size).frozen? ⟨wr.heap.size + 1, 1, none⟩ = false := fz_of hfa.2.1 1
      have hfk := hfa.2.2.1
      have hfs := hfa.2.2.2
      have k5 : Kept (fun _ => False) w1 (((oldW w1 C wr.heap.size).setCell ⟨wr.heap.size + 1, 0, none⟩ (.slice (some ⟨gm, 0, none⟩) ek ek)).setCell ⟨wr.heap.size + 1, 1, none⟩ (.int .i64 (u : Int))) := (hfk.setCell (p := ⟨wr.heap.size + 1, 0, none⟩) (by rw [hs1]; exact Nat.le_succ _) _).setCell (p := ⟨wr.heap.size + 1, 1, none⟩) (by rw [hs1]; exact Nat.le_succ _) _
      have g5 : (((oldW w1 C wr.heap.size).setCell ⟨wr.heap.size + 1, 0, none⟩ (.slice (some ⟨gm, 0, none⟩) ek ek)).setCell ⟨wr.heap.size + 1, 1, none⟩ (.int .i64 (u : Int))).heap[wr.heap.size]? = some (.cells C 86 (0, 0)) := by
        rw [(Kept.set1 _ (wr.heap.size + 1) 1 _).block wr.heap.size (by simp; omega) (by omega), (Kept.set1 _ (wr.heap.size + 1) 0 _).block wr.heap.size (by omega) (by omega)]
        exact hfa.1
      have c5 : (((oldW w1 C wr.heap.size).setCell ⟨wr.heap.size + 1, 0, none⟩ (.slice (some ⟨gm, 0, none⟩) ek ek)).setCell ⟨wr.heap.size + 1, 1, none⟩ (.int .i64 (u : Int))).cell? ⟨wr.heap.size + 1, 1, none⟩ = some (.int .i64 (u : Int)) := by
        refine World.cell?_setCell_same _ _ _ (u := .int .i64 0) ?_
        rw [World.cell?_setCell_other _ _ _ _ (fun e => by have := congrArg Addr.off e; simp at this)]
        exact y1
      have s5 : (((oldW w1 C wr.heap.size).setCell ⟨wr.heap.size + 1, 0, none⟩ (.slice (some ⟨gm, 0, none⟩) ek ek)).setCell ⟨wr.heap.size + 1, 1, none⟩ (.int .i64 (u : Int))).heap.size = wr.heap.size + 2 := by simp; omega
      have HK5 := Lib.hid k5
      have HG5 := Lib.hid g5
      have HC5 := Lib.hid c5
      have HS5 := Lib.hid s5
      clear hfa hfk hfs k5 g5 c5 s5
      have hrw := HB.out.size
      have HGE2 := Lib.hid (show Kept (fun i => i = rr) wr w1 from HKG1.out.mono (fun i _ h => (Option.some.inj h).symm))
      have hnr : ¬ w.heap.size = rr := by omega
      have hbr : ¬ bm = rr := by omega
      have hbg : ¬ bm = w.heap.size := by omega
      have hlw : w.heap.size < wr.heap.size := by omega
      have HBE1 := Lib.hid (HBE.out.kept HGE2.out hnr)
      by_cases huf : u < f
      · go_wp2_with fail
        generalize ((oldW w1 C wr.heap.size).setCell ⟨wr.heap.size + 1, 0, none⟩ (.slice (some ⟨gm, 0, none⟩) ek ek)).setCell ⟨wr.heap.size + 1, 1, none⟩ (.int .i64 (u : Int)) = W5 at *
        clear y0 y1 f0 f1 hsc
        have HBE5 := Lib.hid (HBE1.out.kept HK5.out (fun h => h))
        obtain ⟨old, hold, hos⟩ : ∃ old, W5.heap[w.heap.size]? = some (.cells old 86 (0, 0)) ∧ old.size = 256 := by
          rcases HBE5.out.2 with ⟨_, h, _⟩ | ⟨x, _, _, _, h⟩
          · exact ⟨_, h, kc_size _ _⟩
          · exact ⟨_, h, kc_size _ _⟩
        have HOL := Lib.hid hold
        have HOS := Lib.hid hos
        have HSZ := Lib.hid (show w.heap.size < W5.heap.size by rw [HS5.out]; omega)
        have HSG := Lib.hid (show wr.heap.size < W5.heap.size by rw [HS5.out]; omega)
        have HSG1 := Lib.hid (show wr.heap.size + 1 < W5.heap.size by rw [HS5.out]; omega)
        have HN1 := Lib.hid (show ¬ wr.heap.size = w.heap.size by omega)
        have HN2 := Lib.hid (show ¬ wr.heap.size + 1 = w.heap.size by omega)
        have HKS := Lib.hid (show Kept (fun i => i = w.heap.size) W5 W5.drew from ⟨rfl, rfl, rfl, Nat.le_refl _, fun _ _ _ => rfl⟩)
        have hos : (Tryz.prog.info? 86).map (·.size) = some C.size := by rw [HKC.out]; exact size_key
        have HOZ := Lib.hid hos
        clear hold hos
        refine s_start 5 (fun w' => Kept (fun i => i = w.heap.size) W5 w') (by as_aux_lemma => kernel_rfl) (by as_aux_lemma => kernel_rfl) HKS.out ?_
        refine s_take 0 (by as_aux_lemma => kernel_rfl) (by as_aux_lemma => kernel_rfl) (by as_aux_lemma => kernel_rfl) (by as_aux_lemma => kernel_rfl) HKS.out (fun oi ho => ?_)
        simp only [List.getElem?_toArray, List.getElem?_cons_succ, List.getElem?_cons_zero, Option.some.injEq] at ho
        subst ho
        refine ⟨_, yields_row (by rfl) 86 _ rfl wr.heap.size rfl C 86 (0, 0) _ (fun w' hS' => (hS'.block wr.heap.size HSG.out HN1.out).trans HG5.out) Tryz.underlying86 rfl HOZ.out, ?_⟩
        try simp only [Act.put, List.setIfInBounds_toArray, List.set_cons_zero, List.set_cons_succ]
        refine s_take 1 (by as_aux_lemma => kernel_rfl) (by as_aux_lemma => kernel_rfl) (by as_aux_lemma => kernel_rfl) (by as_aux_lemma => kernel_rfl) HKS.out (fun oi ho => ?_)
        simp only [List.getElem?_toArray, List.getElem?_cons_succ, List.getElem?_cons_zero, Option.some.injEq] at ho
        subst ho
        refine ⟨?_, Or.inl ⟨by rfl, fun w _ => ?_⟩, ?_⟩
        rotate_left
        · (go_simp <;> with_reducible rfl)
        try simp only [Act.put, List.setIfInBounds_toArray, List.set_cons_zero, List.set_cons_succ]
        refine s_take 2 (by as_aux_lemma => kernel_rfl) (by as_aux_lemma => kernel_rfl) (by as_aux_lemma => kernel_rfl) (by as_aux_lemma => kernel_rfl) HKS.out (fun oi ho => ?_)
        simp only [List.getElem?_toArray, List.getElem?_cons_succ, List.getElem?_cons_zero, Option.some.injEq] at ho
        subst ho
        refine ⟨.int .i64 (u : Int), Or.inl ⟨by rfl, fun w' hS' => ?_⟩, ?_⟩
        · have q := (hS'.cell (p := ⟨wr.heap.size + 1, 1, none⟩) HSG1.out HN2.out).trans HC5.out
          (go_simp <;> with_reducible rfl)
        try simp only [Act.put, List.setIfInBounds_toArray, List.set_cons_zero, List.set_cons_succ]
        refine s_all (rs := [3]) (by as_aux_lemma => kernel_rfl) (by simp) ?_
        refine s_step 3 (by as_aux_lemma => kernel_rfl) (fun o ho K hK => ?_) AllReadyH.nil
        simp only [List.getElem?_toArray, List.getElem?_cons_succ, List.getElem?_cons_zero, Option.some.injEq] at ho
        subst ho
        refine step_row (by rfl) 86 _ _ rfl w.heap.size C rfl rfl 86 old HOL.out HOZ.out (by rw [HOS.out, HKC.out]) HK1.out ?_
        refine hK.out _ _ (HKS.out.trans (setRow_kept _ _ _) (fun _ _ h => h)) ?_
        clear hK K
        try simp only [Act.put, List.setIfInBounds_toArray, List.set_cons_zero, List.set_cons_succ]
        refine s_take 4 (by as_aux_lemma => kernel_rfl) (by as_aux_lemma => kernel_rfl) (by as_aux_lemma => kernel_rfl) (by as_aux_lemma => kernel_rfl) (HKS.out.trans (setRow_kept _ _ _) (fun _ _ h => h)) (fun oi ho => ?_)
        simp only [List.getElem?_toArray, List.getElem?_cons_succ, List.getElem?_cons_zero, Option.some.injEq] at ho
        subst ho
        refine ⟨?_, Or.inl ⟨by rfl, fun w _ => ?_⟩, ?_⟩
        rotate_left
        · (go_simp <;> with_reducible rfl)
        try simp only [Act.put, List.setIfInBounds_toArray, List.set_cons_zero, List.set_cons_succ]
        refine s_done (by as_aux_lemma => kernel_rfl) ?_
        go_wp2
        have k6 : Kept (fun i => i = w.heap.size) w1 (W5.drew.setRow w.heap.size C) := (HK5.out.mono (fun _ _ h => h.elim)).trans (HKS.out.trans (setRow_kept _ _ _) (fun _ _ h => h)) (fun _ _ h => h)
        have hkey6 : KeyAt (W5.drew.setRow w.heap.size C) w.heap.size e.k e.xs := by
          unfold KeyAt
          rw [HHC.out]
          exact setRow_heap _ _ _ _ _ _ HOL.out
        have hr6 := ranges_kept HRG1.out k6 hbg (fun h => hnr h.symm)
        have hs6 : (W5.drew.setRow w.heap.size C).heap.size = wr.heap.size + 2 := by rw [size_setRow]; exact HS5.out
        go_roundw
        case rel => exact ⟨_, _, u, hr6, rfl, by omega, by rw [← HHU.out]; exact HBE.out.better HHE.out HKL.out HUN.out (by rw [HHU.out]; exact huf) hkey6, (HB.out.trans (HGE2.out.toBelow HB.out.size (fun i hi => by omega))).trans (k6.toBelow (by rw [hs1]; exact HB.out.size) (fun i hi => by omega)), by rw [hs6]; omega⟩
        case measure => rw [hr6.left_eq, HRG.out.left_eq]; exact HLT.out
      · go_wp2_with fail
        generalize ((oldW w1 C wr.heap.size).setCell ⟨wr.heap.size + 1, 0, none⟩ (.slice (some ⟨gm, 0, none⟩) ek ek)).setCell ⟨wr.heap.size + 1, 1, none⟩ (.int .i64 (u : Int)) = W5 at *
        clear y0 y1 f0 f1 hsc
        go_wp2
        have hr6 := ranges_kept HRG1.out HK5.out (fun h => h) (fun h => h)
        go_roundw
        case rel => exact ⟨_, _, f, hr6, rfl, hf, (HBE1.out.kept HK5.out (fun h => h)).worse HHE.out HKL.out HUN.out (by rw [HHU.out]; omega) (by rw [← HNW.out]; exact HGE.out.un), (HB.out.trans (HGE2.out.toBelow HB.out.size (fun i hi => by omega))).trans (HK5.out.toBelow (by rw [hs1]; exact HB.out.size) (fun i hi => hi.elim)), by rw [HS5.out]; omega⟩
        case measure => rw [hr6.left_eq, HRG.out.left_eq]; exact HLT.out

end Go.Proofs.YtlmpagicjgldkaaGreat
