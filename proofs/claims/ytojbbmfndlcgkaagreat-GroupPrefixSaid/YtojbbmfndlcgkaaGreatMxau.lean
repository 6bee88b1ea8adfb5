/-
  Held symbols; walk of layer 5 (code): Decode.
-/
import Derived.Test.YtojbbmfndlcgkaaGreatMxat
import Derived.Deep.RegionHeld3
import Derived.Deep.RegionLaw
namespace Go.Proofs.YtojbbmfndlcgkaaGreat
open Go.RowKit Go.Maps
set_option linter.unusedVariables false
set_option maxRecDepth 100000
set_option maxHeartbeats 4000000

/-- A slice reads as held symbols. -/
def HeldAt (w : World) (v : Value) (hs : List (Int × List B)) : Prop := ∃ p cap, v = .slice p hs.length cap ∧ hs.length ≤ cap ∧ (0 < hs.length → ∃ g off, p = some ⟨g, off, none⟩ ∧ ∀ i, i < hs.length →
  w.cell? ⟨g, off + i * 2, none⟩ = some (.int .i64 (hs.getD i (0, [])).1) ∧ ∃ u, w.cell? ⟨g, off + i * 2 + 1, none⟩ = some u ∧ BytesAt w u (hs.getD i (0, [])).2)
theorem HeldAt.kept {S : Nat → Prop} {w w' : World} {v : Value} {hs : List (Int × List B)} (h : HeldAt w v hs) (hk : Kept S w w') (hS : ∀ k, k < w.heap.size → ¬ S k) : HeldAt w' v hs := by
  obtain ⟨p, cap, rfl, hcap, hh⟩ := h
  refine ⟨p, cap, rfl, hcap, fun hl => ?_⟩
  obtain ⟨g, off, rfl, hc⟩ := hh hl
  have hlt := blt (hc 0 hl).1
  refine ⟨g, off, rfl, fun i hi => ?_⟩
  obtain ⟨a, u, b, c⟩ := hc i hi
  exact ⟨(hk.cell (p := ⟨g, off + i * 2, none⟩) hlt (hS g hlt)).trans a, u, (hk.cell (p := ⟨g, off + i * 2 + 1, none⟩) hlt (hS g hlt)).trans b, c.kept hk hS⟩
theorem HeldAt.below {w w' : World} {v : Value} {hs : List (Int × List B)} (h : HeldAt w v hs) (hb : Below w.heap.size w w') : HeldAt w' v hs := h.kept (Kept.below hb) (fun _ _ h => h)

def hIdx (hs : List (Int × List B)) : List Int := hs.map (·.1)
def hRow (hs : List (Int × List B)) : List (List B) := hs.map (·.2)
theorem hIdx_snoc {hs : List (Int × List B)} {m : Nat} (h : m < hs.length) : hIdx (hs.take m) ++ [(hs.getD m (0, [])).1] = hIdx (hs.take (m + 1)) := by
  rw [List.take_succ_eq_append_getElem h, List.getD_eq_getElem?_getD, List.getElem?_eq_getElem h]; unfold hIdx; rw [List.map_append]; rfl
theorem hRow_snoc {hs : List (Int × List B)} {m : Nat} (h : m < hs.length) : hRow (hs.take m) ++ [(hs.getD m (0, [])).2] = hRow (hs.take (m + 1)) := by
  rw [List.take_succ_eq_append_getElem h, List.getD_eq_getElem?_getD, List.getElem?_eq_getElem h]; unfold hRow; rw [List.map_append]; rfl

/-- Append of one element, as a step of a region that draws its order. -/
theorem step_app {ops : Array Oper} {o : Oper} {a : Act} {W : World} {K : Act → World → Prop} {Q : Exit → Act → World → Prop} {E : Prop} (t e : TypeId) (bytes : Nat) (z : Value) (ht : Tryz.prog.underlying t = some (.slice e))
    (hinfo : (Tryz.prog.info? e).map (fun i => (i.zero, i.size, i.bytes)) = some (some z, 1, bytes)) (hzs : z.cells.size = 1) (hby : bytes ≤ 64)
    (hgd : o.guard = none) (s x : Operand) (ho : o.op = .call { callee := .builtin .append, args := #[s, x], argTypes := #[t, t] })
    (base n : Nat) (v : Value) (us : List Value) (hs : a.eval s = v) (hown : W.ownsRow base e 1 v n us) (g : Nat) (u : Value) (hone : u.oneCell' = true)
    (hx : a.eval x = .slice (some ⟨g, 0, none⟩) 1 1) (hc : W.cell? ⟨g, 0, none⟩ = some u) (hn : n < 1000000000000) (hbase : base ≤ W.heap.size)
    (h : ∀ g' c' w', w'.ownsRow base e 1 (.slice (some ⟨g', 0, none⟩) (n + 1) c') (n + 1) (us ++ [u]) → Kept (fun k => v.ownBlock = some k) W w' → (v.ownBlock = some g' ∨ W.heap.size ≤ g') →
      K (a.put o.dst (.slice (some ⟨g', 0, none⟩) (n + 1) c')) w') :
    if Region.wanted o (yielded ops a.tmps) = true then Oper.wp Tryz.prog o a W K Q else E := by
  have hw : Region.wanted o (yielded ops a.tmps) = true := by simp [Region.wanted, hgd]
  rw [if_pos hw]
  obtain ⟨i, hi, hz, hsize, hbytes⟩ := info_parts hinfo
  rw [← hsize] at hown
  obtain ⟨g', c', w', hr, h2, h3, h4⟩ := run_app (P := Tryz.prog) (w := W) base t o.type e i z ht hi hz (by rw [hzs, hsize]) v n us hown g 0 1 1 [u] (by simp [hsize]) (by omega) (fun j y hj => by
      rw [add_off]
      cases j with
      | zero => rw [← (by simpa using hj : u = y)]; simpa using hc
      | succ j => simp at hj) (by simpa using hone) (by omega) (by rw [hbytes]; have := Nat.mul_le_mul_left (n + 1) hby; omega) hbase
  rw [hsize] at h2
  have h5 := h g' c' w' h2 h3 h4
  unfold Oper.wp execOp
  simp only [ho, resolve, invoke, builtin, Sem.run_bind, Sem.run_pure, Result.andThen_ok, List.map_toArray, List.map_cons, List.map_nil, hs, hx, hr]
  exact h5

theorem alloc_cell {W : World} {b o : Nat} {v : Value} (h : W.cell? ⟨b, o, none⟩ = some v) (x : Obj) : (W.alloc x).cell? ⟨b, o, none⟩ = some v := ((Kept.alloc (fun _ => False) W x).at0 o (blt h)).trans h

/-- What holds about the two appends. -/
structure DInv (w : World) (b0 n1 : Nat) (vi : Value) (us1 : List Value) (n2 : Nat) (vl : Value) (us2 : List Value) (ix : Int) (u : Value) (W : World) : Prop where
  c0 : W.cell? ⟨b0, 0, none⟩ = some (.int .i64 ix)
  c1 : W.cell? ⟨b0, 1, none⟩ = some u
  own1 : W.ownsRow w.heap.size 3 1 vi n1 us1
  own2 : W.ownsRow w.heap.size 39 1 vl n2 us2
  below : Below w.heap.size w W
theorem DInv.alloc {w : World} {b0 n1 n2 : Nat} {vi vl u : Value} {us1 us2 : List Value} {ix : Int} {W : World} (h : DInv w b0 n1 vi us1 n2 vl us2 ix u W) (x : Obj) : DInv w b0 n1 vi us1 n2 vl us2 ix u (W.alloc x) :=
  ⟨alloc_cell h.c0 x, alloc_cell h.c1 x, h.own1.alloc x, h.own2.alloc x, h.below.alloc h.below.size x⟩
theorem DInv.app1 {w : World} {b0 n1 n2 : Nat} {vi vl u v5 : Value} {us1 us2 us5 : List Value} {ix : Int} {W w5 : World} (h : DInv w b0 n1 vi us1 n2 vl us2 ix u W) (hk : Kept (fun k => vi.ownBlock = some k) W w5) (ho : w5.ownsRow w.heap.size 3 1 v5 (n1 + 1) us5)
    (h0 : vi.ownBlock ≠ some b0) (hne : ∀ b, vi.ownBlock = some b → vl.ownBlock ≠ some b) : DInv w b0 (n1 + 1) v5 us5 n2 vl us2 ix u w5 :=
  ⟨(hk.cell (p := ⟨b0, 0, none⟩) (blt h.c0) h0).trans h.c0, (hk.cell (p := ⟨b0, 1, none⟩) (blt h.c1) h0).trans h.c1, ho, ownsRow_keptS h.own2 hk (fun g hg e => hne g e hg), h.below.trans (hk.toBelow h.below.size (fun i hi => (h.own1.lt i hi).1))⟩

/-- Behind both. -/
structure FInv (w : World) (n : Nat) (g5 c5 g6 c6 : Nat) (us5 us6 : List Value) (W : World) : Prop where
  own1 : W.ownsRow w.heap.size 3 1 (.slice (some ⟨g5, 0, none⟩) n c5) n us5
  own2 : W.ownsRow w.heap.size 39 1 (.slice (some ⟨g6, 0, none⟩) n c6) n us6
  ne : g5 ≠ g6
  below : Below w.heap.size w W
theorem DInv.fin {w : World} {b0 n c5 g5 c6 g6 : Nat} {vl u : Value} {us5 us2 us6 : List Value} {ix : Int} {W w6 : World} (h : DInv w b0 (n + 1) (.slice (some ⟨g5, 0, none⟩) (n + 1) c5) us5 n vl us2 ix u W) (hk : Kept (fun k => vl.ownBlock = some k) W w6)
    (ho : w6.ownsRow w.heap.size 39 1 (.slice (some ⟨g6, 0, none⟩) (n + 1) c6) (n + 1) us6) (hg : vl.ownBlock = some g6 ∨ W.heap.size ≤ g6) (hne : vl.ownBlock ≠ some g5) : FInv w (n + 1) g5 c5 g6 c6 us5 us6 w6 := by
  refine ⟨ownsRow_keptS h.own1 hk (fun g hg e => ?_), ho, fun e => ?_, h.below.trans (hk.toBelow h.below.size (fun i hi => (h.own2.lt i hi).1))⟩
  · have e1 : g5 = g := by simpa [Value.ownBlock] using hg
    exact hne (by rw [e1]; exact e)
  · rcases hg with q | q
    · exact hne (by rw [e]; exact q)
    · have := (h.own1.lt g5 rfl).2; omega

/-- Rows, each of which was there before. -/
def RowsIn (w W : World) (v : Value) (ls : List (List B)) : Prop := ∃ us, W.ownsRow w.heap.size 39 1 v ls.length us ∧ ∀ i z, us[i]? = some z → BytesAt w z (ls.getD i [])
theorem RowsIn.rows {w W : World} {v : Value} {ls : List (List B)} (h : RowsIn w W v ls) (hb : Below w.heap.size w W) : RowsAt W v ls := by
  obtain ⟨us, h1, h2⟩ := h
  exact RowsAt.of_owns h1 (fun i u hi => (h2 i u hi).below hb)
theorem rowsIn_snoc {w W : World} {v' : Value} {n : Nat} {ls : List (List B)} {us : List Value} {u : Value} {l : List B} (hn : ls.length = n) (hl : us.length = n) (h2 : ∀ i z, us[i]? = some z → BytesAt w z (ls.getD i [])) (hu : BytesAt w u l) (ho : W.ownsRow w.heap.size 39 1 v' (n + 1) (us ++ [u])) : RowsIn w W v' (ls ++ [l]) := by
  refine ⟨us ++ [u], by simpa [hn] using ho, fun i z hi => ?_⟩
  by_cases e : i < us.length
  · rw [List.getElem?_append_left e] at hi
    rw [getD_snoc_lt (by omega)]
    exact h2 i z hi
  · have hi' : i = ls.length := by
      have := (List.getElem?_eq_some_iff.1 hi).1
      simp at this; omega
    subst hi'
    have hz : z = u := by
      rw [show ls.length = us.length by omega] at hi
      simpa using hi.symm
    subst hz
    rw [getD_snoc_last]
    exact hu

/-- The first m of the source's rows. -/
def decP (ys : List B) (l : List (List B)) (wide m : Nat) : List (List B) := (List.range m).map fun r => mixL (wtsL ys (ofB r)) l wide
theorem decP_len (ys : List B) (l : List (List B)) (wide m : Nat) : (decP ys l wide m).length = m := by simp [decP]
theorem decP_succ (ys : List B) (l : List (List B)) (wide m : Nat) : decP ys l wide (m + 1) = decP ys l wide m ++ [mixL (wtsL ys (ofB m)) l wide] := by simp [decP, List.range_succ]
theorem decL_eq (k : Nat) (ys : List B) (l : List (List B)) (wide : Nat) : decL k ys l wide = decP ys l wide k := by unfold decL turnL decP; rw [List.map_map]; rfl

/-- Are held symbols as long as the first one? -/
def evenH (hs : List (Int × List B)) : Bool := hs.all fun h => h.2.length == (hs.getD 0 (0, [])).2.length
/-- The error of held symbols. -/
def decE (n k : Nat) (hs : List (Int × List B)) : Int := if evenH hs then askE n k (hIdx hs) else 2
theorem evenH_iff (hs : List (Int × List B)) : evenH hs = true ↔ ∀ i, i < hs.length → (hs.getD i (0, [])).2.length = (hs.getD 0 (0, [])).2.length := by
  unfold evenH
  rw [List.all_eq_true]
  constructor
  · intro h i hi
    have := h hs[i] (List.getElem_mem hi)
    rw [beq_iff_eq] at this
    rw [List.getD_eq_getElem?_getD, List.getElem?_eq_getElem hi]
    exact this
  · intro h x hx
    obtain ⟨i, hi, rfl⟩ := List.mem_iff_getElem.1 hx
    have := h i hi
    rw [List.getD_eq_getElem?_getD, List.getElem?_eq_getElem hi] at this
    rw [beq_iff_eq]
    exact this

theorem decode_any (w : World) {bc n k bf : Nat} {vt : Value} (hc : CoderAt w bc n k bf vt) (v : Value) (hs : List (Int × List B)) (wide : Nat) (hv : HeldAt w v hs) (hl : hs.length ≤ 1000000) (hw0 : (hs.getD 0 (0, [])).2.length = wide) (hwb : wide ≤ 1000000000) :
    Calls Tryz.prog 53 #[.pointer (some ⟨bc, 0, none⟩), v] w fun e w' => ∃ v, e = .returned (.tuple #[v, .int .i64 (decE n k hs)]) ∧ (decE n k hs = 0 → RowsLone w' w.heap.size v (decL k (idxB ((hIdx hs).take k)) (hRow hs) wide)) ∧ (decE n k hs ≠ 0 → v = .slice none 0 0) ∧ Below w.heap.size w w' := by
  have HC := Lib.hid hc
  have HV := Lib.hid hv
  have HW0 := Lib.hid hw0
  have h1 := hc.k1
  have h2 := hc.kn
  have h3 := hc.n255
  obtain ⟨p, cap, hvv, hcap, hh⟩ := hv
  subst hvv
  have HHH := Lib.hid hh
  clear hc hh hw0
  go_enter Tryz.func53, Tryz.ntmps53
  go_wp2_with fail
  refine (there_yes w HC.out).mono ?_
  rintro e w' ⟨rfl, rfl⟩
  go_wp2
  go_loopw [4, 6, 7, 9, 18] (fun v4 vi vl _ i wr => ∃ m : Nat, m ≤ hs.length ∧ (∀ i, i < m → (hs.getD i (0, [])).2.length = wide) ∧ v4 = .slice none 0 0 ∧ i = .int .i64 (m : Int) ∧ wr.ownsRow w.heap.size 3 1 vi m ((hIdx (hs.take m)).map (Value.int .i64)) ∧ RowsIn w wr vl (hRow (hs.take m)) ∧ (∀ b, vi.ownBlock = some b → vl.ownBlock ≠ some b) ∧ Below w.heap.size w wr) (fun _ _ _ _ i _ => hs.length - (intOf i).toNat)
  case atStart => exact ⟨0, Nat.zero_le _, (fun i h => absurd h (by omega)), rfl, rfl, World.ownsRow_nil _ _ _ _, ⟨[], World.ownsRow_nil _ _ _ _, fun i z h => by simp at h⟩, (fun b h => by cases h), Below.refl _ _⟩
  case round =>
    obtain ⟨m, hm, hev, rfl, rfl, ho, hr, hne, hB⟩ := hrel
    have HEV := Lib.hid hev
    have HI := Lib.hid ho
    have HR := Lib.hid hr
    have HB := Lib.hid hB
    have HNE := Lib.hid hne
    have hsr := hB.size
    clear ho hr hne hev
    by_cases hlt : m < hs.length
    · obtain ⟨gh, oh, rfl, hhc⟩ := HHH.out (by omega)
      have lgh := blt (hhc 0 (by omega)).1
      obtain ⟨z1, u0, z2, z3⟩ := hhc 0 (by omega)
      rw [Nat.zero_mul, Nat.add_zero] at z2
      obtain ⟨p0, c0, rfl⟩ := z3.shape
      rw [HW0.out] at z2
      obtain ⟨x1, u, x2, x3⟩ := hhc m hlt
      obtain ⟨pu, cu, rfl⟩ := x3.shape
      obtain ⟨lm, hlm⟩ : ∃ lm, (hs.getD m (0, [])).2.length = lm := ⟨_, rfl⟩
      rw [hlm] at x2
      have HLM := Lib.hid hlm
      have i0 : 0 < hs.length := by omega
      have lgr : gh < wr.heap.size := by omega
      clear hhc z1 z3
      by_cases hle : lm = wide
      rotate_left
      · have y1 := (hB.cell (p := ⟨gh, oh + m * 2, none⟩) lgh).trans x1
        have y2 := (hB.cell (p := ⟨gh, oh + m * 2 + 1, none⟩) lgh).trans x2
        have y0 := (hB.cell (p := ⟨gh, oh + 1, none⟩) lgh).trans z2
        have HE := Lib.hid (show decE n k hs = 2 by
          unfold decE
          rw [if_neg (fun h => hle (by rw [← HLM.out, (evenH_iff hs).1 h m hlt, HW0.out]))])
        have e1 : (lm == wide) = false := by simpa using hle
        have e2 : ¬ (lm : Int) = wide := by omega
        have HB9 := Lib.hid (show Below w.heap.size w (wr.alloc (.cells #[.int .i64 (hs.getD m (0, [])).1, .slice pu lm cu] 66)) from hB.alloc hsr _)
        obtain ⟨ix, hix⟩ : ∃ ix, (hs.getD m (0, [])).1 = ix := ⟨_, rfl⟩
        rw [hix] at y1 HB9
        clear x1 x2 x3 hix hlm
        go_wp2_with fail
        go_quiet (fail)
        go_wp2
        go_ret2
        exact ⟨_, by rw [HE.out]; rfl, fun h => absurd (h.symm.trans HE.out) (by omega), fun _ => rfl, ⟨HB9.out.os, HB9.out.tape, HB9.out.output, HB9.out.size, HB9.out.block⟩⟩
      subst hle
      have y1 := (hB.cell (p := ⟨gh, oh + m * 2, none⟩) lgh).trans x1
      have y2 := (hB.cell (p := ⟨gh, oh + m * 2 + 1, none⟩) lgh).trans x2
      have y0 := (hB.cell (p := ⟨gh, oh + 1, none⟩) lgh).trans z2
      have HBY := Lib.hid (x3.below hB)
      have HS1 := Lib.hid (hIdx_snoc hlt)
      have HS2 := Lib.hid (hRow_snoc hlt)
      obtain ⟨ix, hix⟩ : ∃ ix, (hs.getD m (0, [])).1 = ix := ⟨_, rfl⟩
      rw [hix] at y1 HS1
      have HX3 := Lib.hid (show BytesAt w (.slice pu lm cu) (hs.getD m (0, [])).2 by have := x3; rw [HLM.out] at this; exact this)
      obtain ⟨us2, hr1, hr2⟩ := HR.out
      have HLR := Lib.hid (show (hRow (hs.take m)).length = m by simp [hRow]; omega)
      rw [HLR.out] at hr1
      have hul : us2.length = m := by have := hr1.1; omega
      have HUL := Lib.hid hul
      have HR2 := Lib.hid hr2
      have b01 : u6.ownBlock ≠ some wr.heap.size := fun h => by have := (HI.out.lt _ h).2; omega
      have b02 : u7.ownBlock ≠ some wr.heap.size := fun h => by have := (hr1.lt _ h).2; omega
      have HD := Lib.hid (show DInv w wr.heap.size m u6 ((hIdx (hs.take m)).map (Value.int .i64)) m u7 us2 ix (.slice pu lm cu) (wr.alloc (.cells #[.int .i64 ix, .slice pu lm cu] 66)) from
        ⟨World.cell?_alloc_new wr _ _ 0, World.cell?_alloc_new wr _ _ 1, HI.out.alloc _, hr1.alloc _, HB.out.alloc hsr _⟩)
      clear x1 x2 x3 hix hB hr1 hr2 hul hlm
      go_wp2_with fail
      go_quiet (fail)
      have HDq := Lib.hid (show DInv w wr.heap.size m u6 ((hIdx (hs.take m)).map (Value.int .i64)) m u7 us2 ix (.slice pu lm cu) ((wr.alloc (.cells #[.int .i64 ix, .slice pu lm cu] 66)).drewN nq).drew from
        ⟨HD.out.c0, HD.out.c1, HD.out.own1, HD.out.own2, ⟨HD.out.below.os, HD.out.below.tape, HD.out.below.output, HD.out.below.size, HD.out.below.block⟩⟩)
      have sq : wr.heap.size < ((wr.alloc (.cells #[.int .i64 ix, .slice pu lm cu] 66)).drewN nq).heap.size := by show wr.heap.size < (wr.alloc _).heap.size; simp
      go_wp2_with fail
      generalize ((wr.alloc (.cells #[.int .i64 ix, .slice pu lm cu] 66)).drewN nq) = wq at *
      generalize wr.heap.size = b0 at *
      have q0 : wq.drew.cell? ⟨b0, 0, none⟩ = some (.int .i64 ix) := HDq.out.c0
      have q1 : wq.drew.cell? ⟨b0, 1, none⟩ = some (.slice pu lm cu) := HDq.out.c1
      have bq : b0 < wq.drew.heap.size := sq
      have HAK : ∀ (x : Obj), (wq.drew.alloc x).cell? ⟨b0, 0, none⟩ = some (.int .i64 ix) ∧ (wq.drew.alloc x).cell? ⟨b0, 1, none⟩ = some (.slice pu lm cu) := fun x => ⟨alloc_cell q0 x, alloc_cell q1 x⟩
      have HAK2 : ∀ (x y : Obj), ((wq.drew.alloc x).alloc y).cell? ⟨b0, 0, none⟩ = some (.int .i64 ix) ∧ ((wq.drew.alloc x).alloc y).cell? ⟨b0, 1, none⟩ = some (.slice pu lm cu) := fun x y => ⟨alloc_cell (alloc_cell q0 x) y, alloc_cell (alloc_cell q1 x) y⟩
      have HK1 := Lib.hid HAK
      have HK2 := Lib.hid HAK2
      clear HAK HAK2
      have hm6 : m < 1000000000000 := by omega
      have HOV := Lib.hid (show ∀ b, u6.ownBlock = some b → b < wq.drew.heap.size ∧ u7.ownBlock ≠ some b from fun b h => ⟨(HDq.out.own1.lt b h).2, HNE.out b h⟩)
      have HOV7 := Lib.hid (show ∀ b, u7.ownBlock = some b → b < wq.drew.heap.size from fun b h => (HDq.out.own2.lt b h).2)
      have hzq : w.heap.size ≤ wq.drew.heap.size := HDq.out.below.size
      go_region_held3 (fun w' => w'.cell? ⟨b0, 0, none⟩ = some (.int .i64 ix) ∧ w'.cell? ⟨b0, 1, none⟩ = some (.slice pu lm cu))
        (first | with_reducible exact ⟨q0, q1⟩ | exact HK1.out _ | exact HK2.out _ _ | with_reducible exact ⟨r0, r1⟩ | exact ⟨alloc_cell r0 _, alloc_cell r1 _⟩ | with_reducible exact ⟨t0, t1⟩)
        ((first
          | (refine step_app 23 3 8 (.int .i64 0) Tryz.underlying23 infoI rfl (by decide) rfl _ _ rfl w.heap.size m _ _ rfl (DInv.own1 (b0 := b0) (n2 := m) (vl := u7) (us2 := us2) (ix := ix) (u := .slice pu lm cu) (by first | exact HDq.out.alloc _ | exact (HDq.out.alloc _).alloc _)) _ (.int .i64 ix) rfl rfl (by first | exact World.cell?_alloc_new _ _ _ 0 | exact alloc_cell (World.cell?_alloc_new _ _ _ 0) _ | go_simp) hm6 (by first | (simp; omega) | go_simp) ?_
             intro g5 c5 w5 ho5 hk5 hg5
             have HD5 := Lib.hid (DInv.app1 (b0 := b0) (n2 := m) (vl := u7) (us2 := us2) (ix := ix) (u := .slice pu lm cu) (by first | exact HDq.out.alloc _ | exact (HDq.out.alloc _).alloc _) hk5 ho5 b01 HNE.out)
             have r0 := HD5.out.c0
             have r1 := HD5.out.c1
             have E5 := Lib.hid (fun (b : Nat) (x : Value) (h : World.cell? _ ⟨b, 0, none⟩ = some x) hn => (hk5.cell (p := ⟨b, 0, none⟩) (blt h) hn).trans h)
             have hs5 := hk5.size
             simp at hs5
             have H75 := Lib.hid (show u7.ownBlock ≠ some g5 from fun h => by
               rcases hg5 with q | q
               · exact (HOV.out g5 q).2 h
               · have := HOV7.out g5 h; simp at q this; omega)
             clear ho5 hk5 hg5)
          | (refine step_app 22 39 24 (.slice none 0 0) Tryz.underlying22 infoR rfl (by decide) rfl _ _ rfl w.heap.size m _ _ rfl (DInv.own2 (b0 := b0) (n1 := m + 1) (ix := ix) (u := .slice pu lm cu) (by first | exact HD5.out | exact HD5.out.alloc _)) _ (.slice pu lm cu) rfl rfl
                (by first
                  | exact World.cell?_alloc_new _ _ _ 0
                  | exact E5.out _ _ (by first | exact World.cell?_alloc_new _ _ _ 0 | exact alloc_cell (World.cell?_alloc_new _ _ _ 0) _ | go_simp) (fun h => by have := (HOV.out _ h).1; simp at this <;> omega)) hm6 (by first | exact HD5.out.below.size | exact (HD5.out.alloc _).below.size) ?_
             intro g6 c6 w6 ho6 hk6 hg6
             have HF6 := Lib.hid (DInv.fin (b0 := b0) (ix := ix) (u := .slice pu lm cu) (by first | exact HD5.out | exact HD5.out.alloc _) hk6 ho6 hg6 H75.out)
             have t0 : w6.cell? ⟨b0, 0, none⟩ = some (.int .i64 ix) := (hk6.cell (p := ⟨b0, 0, none⟩) (by first | exact blt r0 | exact blt (alloc_cell r0 _)) b02).trans (by first | exact r0 | exact alloc_cell r0 _)
             have t1 : w6.cell? ⟨b0, 1, none⟩ = some (.slice pu lm cu) := (hk6.cell (p := ⟨b0, 1, none⟩) (by first | exact blt r0 | exact blt (alloc_cell r0 _)) b02).trans (by first | exact r1 | exact alloc_cell r1 _)
             clear ho6 hk6 hg6)))
      all_goals
        go_wp2
        go_roundw
        case rel =>
          refine ⟨m + 1, by omega, fun i hi => ?_, rfl, by go_num, ?_, ?_, ?_, HF6.out.below⟩
          · by_cases e : i = m
            · rw [e]; exact HLM.out
            · exact HEV.out i (by omega)
          · have := HF6.out.own1
            rw [← HS1.out, List.map_append]
            exact this
          · rw [← HS2.out]
            exact rowsIn_snoc HLR.out HUL.out HR2.out HX3.out HF6.out.own2
          · intro b h1 h2
            have e1 : g5 = b := by simpa [Value.ownBlock] using h1
            have e2 : g6 = b := by simpa [Value.ownBlock] using h2
            exact HF6.out.ne (e1.trans e2.symm)
        case measure => simp [intOf]; omega
    · obtain rfl : m = hs.length := by omega
      have HWD := HEV
      have HDE := Lib.hid (show decE n k hs = askE n k (hIdx hs) by
        unfold decE
        rw [if_pos ((evenH_iff hs).2 (fun i hi => by rw [HWD.out i hi, HW0.out]))])
      have HTK := Lib.hid (show hs.take hs.length = hs from List.take_of_length_le (Nat.le_refl _))
      rw [HTK.out] at HI HR
      have hli : (hIdx hs).length = hs.length := by simp [hIdx]
      have hlr : (hRow hs).length = hs.length := by simp [hRow]
      have HIA := Lib.hid (IntsAt.of_owns (w := wr) (base := w.heap.size) (v := u6) (xs := hIdx hs) (by rw [hli]; exact HI.out))
      have HRA := Lib.hid (HR.out.rows hB)
      have HC1 := Lib.hid (HC.out.below hB)
      have HLR := Lib.hid hlr
      have HLI := Lib.hid hli
      obtain ⟨pi, ci, hvi⟩ : ∃ p c, u6 = .slice p (hIdx hs).length c := by
        obtain ⟨p, c, e, _⟩ := HIA.out
        exact ⟨p, c, e⟩
      subst hvi
      obtain ⟨pr, cr, hvr⟩ := HRA.out.shape
      subst hvr
      clear hli hlr hB
      by_cases hask : askE n k (hIdx hs) = 0
      rotate_left
      · have HT := Lib.hid (turn_bad wr HC1.out _ (hIdx hs) HIA.out (by rw [HLI.out]; exact hl) hask)
        have HA := Lib.hid hask
        obtain ⟨a, ha⟩ : ∃ a, askE n k (hIdx hs) = a := ⟨_, rfl⟩
        rw [ha] at HT HA
        have HDA := Lib.hid (HDE.out.trans ha)
        clear ha hask
        go_wp2_with fail
        refine HT.out.mono ?_
        rintro e w7 ⟨rfl, hB7⟩
        go_wp2
        refine wp_loop_rounds 1 ?_
        rw [rounds_succ]
        go_wp2
        go_ret2
        exact ⟨_, by rw [HDA.out]; rfl, fun h => absurd (HDA.out.symm.trans h) HA.out, fun _ => rfl, below_more HB.out hB7 hsr⟩
      · have HO := Lib.hid (askE_zero hask)
        have HAZ := Lib.hid hask
        have hkl := HO.out.len
        rw [HLI.out] at hkl
        have HDZ := Lib.hid (HDE.out.trans hask)
        clear hask
        go_wp2_with fail
        refine (turn_any wr HC1.out _ (hIdx hs) HIA.out (by rw [HLI.out]; exact hl) HO.out).mono ?_
        rintro e w7 ⟨gm, U, rfl, hM, hU, hB7⟩
        have HM := Lib.hid hM
        have HC7 := Lib.hid (HC1.out.below hB7)
        have HRA7 := Lib.hid (HRA.out.below hB7)
        have HBB := Lib.hid (below_more HB.out hB7 hsr)
        have s7 := hB7.size
        have hml := hM.lt
        have HYL := Lib.hid (show (idxB ((hIdx hs).take k)).length = k by rw [idxB_len]; simp [hIdx]; omega)
        clear hM hU hB7
        go_wp2
        go_loopw [4, 12, 50] (fun v _ i w4 => ∃ r : Nat, r ≤ k ∧ i = .int .i64 (r : Int) ∧ RowsLone w4 w7.heap.size v (decP (idxB ((hIdx hs).take k)) (hRow hs) wide r) ∧ Below w7.heap.size w7 w4) (fun _ _ i _ => k - (intOf i).toNat)
        case atStart => exact ⟨0, Nat.zero_le _, rfl, RowsLone.nil _ _, Below.refl _ _⟩
        case round =>
          obtain ⟨r, hr, rfl, ho, hB⟩ := hrel
          have HOO := Lib.hid ho
          have HBR := Lib.hid hB
          have hs4 := hB.size
          clear ho
          by_cases hlt : r < k
          · have x1 := (hB.cell (p := ⟨gm, r, none⟩) hml).trans (HM.out.out hlt)
            have HW := Lib.hid (show BytesAt w7 (.slice (some ⟨(U r).1, 0, none⟩) k (U r).2) (wtsL (idxB ((hIdx hs).take k)) (ofB r)) from by
              have := (HM.out.row r hlt).toW.toBytes (U r).2
              rw [rowL_len] at this
              rw [show wtsL (idxB ((hIdx hs).take k)) (ofB r) = rowL k (fun s => lag (idxB ((hIdx hs).take k)) s (ofB r)) from by unfold wtsL rowL; rw [HYL.out]]
              exact this)
            have HW4 := Lib.hid (HW.out.below hB)
            have HC4 := Lib.hid (HC7.out.below hB)
            have HR4 := Lib.hid (HRA7.out.below hB)
            have HWL := Lib.hid (show (wtsL (idxB ((hIdx hs).take k)) (ofB r)).length = k by rw [wtsL_len]; exact HYL.out)
            clear hB
            go_wp2_with fail
            refine (mix_any _ HC4.out _ _ (wtsL (idxB ((hIdx hs).take k)) (ofB r)) (hRow hs) wide HW4.out HR4.out (by rw [HLR.out]; omega) (by rw [HWL.out, HLR.out]; exact hkl) (by rw [HWL.out]; omega) (fun i hi => by
                rw [HLR.out] at hi
                have := HWD.out i hi
                rw [← this]
                simp [hRow, List.getD_eq_getElem?_getD, List.getElem?_eq_getElem hi]) hwb).mono ?_
            rintro e w5 ⟨g, rfl, hrw, hgb, hB5⟩
            have hgl := hrw.lt
            have hs5 := hB5.size
            have HR5 := Lib.hid (HOO.out.below hB5)
            have HLV := Lib.hid HOO.out.lt
            have HB6 := Lib.hid (below_more HBR.out hB5 hs4)
            have hbY := hrw.own hgb (by rw [mixL_len]; unfold maxLen; omega)
            rw [mixL_len] at hbY
            have HBY := Lib.hid hbY
            clear hbY
            have HB5 := Lib.hid hB5
            clear hrw hB5
            go_wp2_with (at_builtin; refine app_lone rfl _ _ rfl w7.heap.size r _ _ (decP_len _ _ _ r) _ HB5.out HOO.out (.slice (some ⟨g, 0, none⟩) wide wide) _ HBY.out rfl rfl rfl (by omega) hs4 ?_; intro g' c' w6 hR6 hk6 hs6 hg6)
            go_roundw
            case rel =>
              refine ⟨r + 1, by omega, by go_num, by rw [decP_succ]; exact hR6, HB6.out.trans (hk6.toBelow (by omega) (fun i h => (HLV.out i h).1))⟩
            case measure => simp [intOf]; omega
          · obtain rfl : r = k := by omega
            go_wp2
            go_ret2
            exact ⟨_, by rw [HDZ.out]; rfl, fun _ => by rw [decL_eq]; exact HOO.out.weaken (by have := HBB.out.size; omega), fun h => absurd HDZ.out h, below_more HBB.out HBR.out (by have := HBB.out.size; omega)⟩

end Go.Proofs.YtojbbmfndlcgkaaGreat
