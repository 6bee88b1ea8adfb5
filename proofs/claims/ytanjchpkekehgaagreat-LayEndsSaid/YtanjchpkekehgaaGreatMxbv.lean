/-
  DecA: Held symbols that are lent: lent, theirs.
  DecB: Held symbols as the reference's; their rows, header by header.
  LayOr: What came in: held bodies, with their capacities.
-/
import Derived.Test.YtanjchpkekehgaaGreatMxbi
import Derived.Test.YtanjchpkekehgaaGreatMxbq
import Derived.Test.YtanjchpkekehgaaGreatMxbu
import Derived.Test.YtanjchpkekehgaaGreatMxbo
namespace Go.Proofs.YtanjchpkekehgaaGreat

section -- DecA
open Go.RowKit Go.Maps
set_option linter.unusedVariables false
set_option maxRecDepth 100000
set_option maxHeartbeats 8000000

/-- Append of one element of two cells, within a region. -/
theorem step_app2 {ops : Array Oper} {o : Oper} {a : Act} {W : World} {K : Act → World → Prop} {Q : Exit → Act → World → Prop} {E : Prop} (t e : TypeId) (bytes : Nat) (z : Value) (ht : Tryz.prog.underlying t = some (.slice e))
    (hinfo : (Tryz.prog.info? e).map (fun i => (i.zero, i.size, i.bytes)) = some (some z, 2, bytes)) (hzs : z.cells.size = 2) (hby : bytes ≤ 64)
    (hgd : o.guard = none) (s x : Operand) (ho : o.op = .call { callee := .builtin .append, args := #[s, x], argTypes := #[t, t] })
    (base n : Nat) (v : Value) (us : List Value) (hs : a.eval s = v) (hown : W.ownsRow base e 2 v n us) (g : Nat) (u1 u2 : Value) (h1 : u1.oneCell' = true) (h2 : u2.oneCell' = true)
    (hx : a.eval x = .slice (some ⟨g, 0, none⟩) 1 1) (hc1 : W.cell? ⟨g, 0, none⟩ = some u1) (hc2 : W.cell? ⟨g, 1, none⟩ = some u2) (hn : n < 1000000000000) (hbase : base ≤ W.heap.size)
    (h : ∀ g' c' w', w'.ownsRow base e 2 (.slice (some ⟨g', 0, none⟩) (n + 1) c') (n + 1) (us ++ [u1, u2]) → Kept (fun k => v.ownBlock = some k) W w' → (v.ownBlock = some g' ∨ W.heap.size ≤ g') →
      K (a.put o.dst (.slice (some ⟨g', 0, none⟩) (n + 1) c')) w') :
    if Region.wanted o (yielded ops a.tmps) = true then Oper.wp Tryz.prog o a W K Q else E := by
  have hw : Region.wanted o (yielded ops a.tmps) = true := by simp [Region.wanted, hgd]
  rw [if_pos hw]
  obtain ⟨i, hi, hz, hsize, hbytes⟩ := info_parts hinfo
  rw [← hsize] at hown
  obtain ⟨g', c', w', hr, h3, h4, h5⟩ := run_app (P := Tryz.prog) (w := W) base t o.type e i z ht hi hz (by rw [hzs, hsize]) v n us hown g 0 1 1 [u1, u2] (by simp [hsize]) (by omega) (fun j y hj => by
      rw [add_off]
      cases j with
      | zero => rw [← (by simpa using hj : u1 = y)]; simpa using hc1
      | succ j =>
        cases j with
        | zero => rw [← (by simpa using hj : u2 = y)]; simpa using hc2
        | succ j => simp at hj) (fun y hy => by
      rcases List.mem_cons.1 hy with rfl | hy
      · exact h1
      · rw [List.mem_singleton] at hy; subst hy; exact h2) (by omega) (by rw [hbytes]; have := Nat.mul_le_mul_left (n + 1) hby; omega) hbase
  rw [hsize] at h3
  have h6 := h g' c' w' h3 h4 h5
  unfold Oper.wp execOp
  simp only [ho, resolve, invoke, builtin, Sem.run_bind, Sem.run_pure, Result.andThen_ok, List.map_toArray, List.map_cons, List.map_nil, hs, hx, hr]
  exact h6

/-- Pairs of numbers and headers, cell by cell. -/
def PairsU (hs : List (Int × List B)) (ul us : List Value) : Prop := ul.length = hs.length ∧ ∀ i, i < hs.length → us[i * 2]? = some (.int .i64 (hs.getD i (0, [])).1) ∧ us[i * 2 + 1]? = ul[i]?
theorem PairsU.snoc {hs : List (Int × List B)} {ul us : List Value} {m : Nat} {ix : Int} {u : Value} (hm : m < hs.length) (h : PairsU (hs.take m) ul us) (hul : us.length = m * 2) (hix : (hs.getD m (0, [])).1 = ix) : PairsU (hs.take (m + 1)) (ul ++ [u]) (us ++ [.int .i64 ix, u]) := by
  obtain ⟨h1, h2⟩ := h
  have hl : (hs.take m).length = m := by rw [List.length_take]; omega
  rw [hl] at h1 h2
  refine ⟨by simp [h1]; omega, fun i hi => ?_⟩
  rw [List.length_take, Nat.min_eq_left (by omega)] at hi
  rw [getD_take (by omega)]
  by_cases e : i < m
  · have := h2 i e
    rw [getD_take e] at this
    rw [List.getElem?_append_left (by omega), List.getElem?_append_left (by omega), List.getElem?_append_left (by omega)]
    exact this
  · obtain rfl : i = m := by omega
    rw [List.getElem?_append_right (by omega), List.getElem?_append_right (by omega), List.getElem?_append_right (by omega), hul, h1, hix]
    simp

/-- Held symbols that are lent: rows apart. -/
def LentHeld (W : World) (base : Nat) (v : Value) (hs : List (Int × List B)) (ul : List Value) : Prop := (∃ us, W.ownsRow base 54 2 v hs.length us ∧ PairsU hs ul us) ∧ (∀ i u, ul[i]? = some u → LentAt W base u (hs.getD i (0, [])).2 ∧ ∀ b, u.ownBlock = some b → v.ownBlock ≠ some b) ∧ InjU ul
theorem LentHeld.snoc {wr w5 w8 : World} {B0 m g8 c8 : Nat} {hs : List (Int × List B)} {ul : List Value} {v u : Value} {l : List B} {x : Obj} (hrow : ∀ i u, ul[i]? = some u → LentAt wr B0 u ((hs.take m).getD i (0, [])).2 ∧ ∀ b, u.ownBlock = some b → v.ownBlock ≠ some b)
    (hinj : InjU ul) (hul : ul.length = m) (hvlt : ∀ b, v.ownBlock = some b → b < wr.heap.size) (h5 : LentAt w5 wr.heap.size u l) (hl : (hs.getD m (0, [])).2 = l) (hB5 : Below wr.heap.size wr w5)
    (hk8 : Kept (fun k => v.ownBlock = some k) (w5.alloc x) w8) (hg8 : v.ownBlock = some g8 ∨ (w5.alloc x).heap.size ≤ g8) (hb0 : B0 ≤ wr.heap.size) :
    (∀ i z, (ul ++ [u])[i]? = some z → LentAt w8 B0 z ((hs.take (m + 1)).getD i (0, [])).2 ∧ ∀ b, z.ownBlock = some b → (Value.slice (some ⟨g8, 0, none⟩) (m + 1) c8).ownBlock ≠ some b) ∧ InjU (ul ++ [u]) := by
  have hsz : (w5.alloc x).heap.size = w5.heap.size + 1 := by simp
  have hs5 := hB5.size
  refine ⟨fun i z hz => ?_, hinj.append (fun i j a b c hi hj _ _ => ?_) (fun a ha z hz b e1 e2 => ?_)⟩
  · by_cases e : i < m
    · rw [List.getElem?_append_left (by omega)] at hz
      obtain ⟨a1, a2⟩ := hrow i z hz
      rw [getD_take e] at a1
      rw [getD_take (by omega)]
      refine ⟨((a1.below hB5).kept (Kept.alloc (fun _ => False) w5 x) (fun _ _ h => h)).kept hk8 (fun b hb e => a2 b hb e), fun b hb e2 => ?_⟩
      have e3 := own_is e2
      have := (a1.blk b hb).2
      rcases hg8 with q | q
      · exact a2 b hb (by rw [q, e3])
      · omega
    · have hi : i = m := by
        have := (List.getElem?_eq_some_iff.1 hz).1
        simp at this; omega
      subst hi
      rw [List.getElem?_append_right (by omega), hul, Nat.sub_self] at hz
      have hz2 : z = u := by simpa using hz.symm
      subst hz2
      rw [getD_take (by omega), hl]
      refine ⟨((h5.kept (Kept.alloc (fun _ => False) w5 x) (fun _ _ h => h)).kept hk8 (fun b hb e => ?_)).weaken hb0, fun b hb e2 => ?_⟩
      · have := (h5.blk b hb).1
        have := hvlt b e
        omega
      · have e3 := own_is e2
        have g1 := h5.blk b hb
        rcases hg8 with q | q
        · have := hvlt g8 q; omega
        · omega
  · have h1 : i < 1 := by have := (List.getElem?_eq_some_iff.1 hi).1; simpa using this
    have h2 : j < 1 := by have := (List.getElem?_eq_some_iff.1 hj).1; simpa using this
    omega
  · rw [List.mem_singleton] at hz
    subst hz
    obtain ⟨i, hi, ea⟩ := List.mem_iff_getElem.1 ha
    have g1 := ((hrow i a (by rw [List.getElem?_eq_getElem hi, ea])).1.blk b e1).2
    have g2 := (h5.blk b e2).1
    omega
theorem infoH2 : (Tryz.prog.info? 54).map (fun i => (i.zero, i.size, i.bytes)) = some (some (.agg #[.int .i64 0, .slice none 0 0]), 2, 32) := by kernel_rfl
theorem infoH3 : (Tryz.prog.info? 73).map (fun i => (i.zero, i.size, i.bytes)) = some (some (.agg #[.int .i64 0, .slice none 0 0]), 2, 32) := by kernel_rfl

theorem lent_any (w : World) (v : Value) (hs : List (Int × List B)) (hv : HeldAt w v hs) (hl : hs.length ≤ 1000) (hw : ∀ i, i < hs.length → (hs.getD i (0, [])).2.length ≤ 1000) :
    Calls Tryz.prog 18 #[v] w fun e w' => ∃ v' ul, e = .returned v' ∧ LentHeld w' w.heap.size v' hs ul ∧ Below w.heap.size w w' := by
  obtain ⟨p, cap, rfl, hcap, hh⟩ := hv
  have HH := Lib.hid hh
  have HW := Lib.hid hw
  obtain ⟨L, hL⟩ : ∃ L, hs.length = L := ⟨_, rfl⟩
  rw [hL] at HH HW hl hcap ⊢
  have HL := Lib.hid hL
  clear hh hw hL
  go_enter Tryz.func18, Tryz.ntmps18
  go_wp2
  go_loopw [3, 4] (fun v i wr => ∃ (m : Nat) (ul : List Value), m ≤ L ∧ i = .int .i64 (m : Int) ∧ LentHeld wr w.heap.size v (hs.take m) ul ∧ Below w.heap.size w wr) (fun _ i _ => L - (intOf i).toNat)
  case atStart => exact ⟨0, [], Nat.zero_le _, rfl, ⟨⟨[], World.ownsRow_nil _ _ _ _, rfl, fun i h => absurd h (by simp)⟩, fun i u h => by simp at h, fun i j u z b h => by simp at h⟩, Below.refl _ _⟩
  case round =>
    obtain ⟨m, ul, hm, rfl, hLH, hB⟩ := hrel
    have HLH := Lib.hid hLH
    have HB := Lib.hid hB
    have hsr := hB.size
    by_cases hlt : m < L
    · obtain ⟨gh, oh, rfl, hc⟩ := HH.out (by omega)
      obtain ⟨x1, u, x2, x3⟩ := hc m hlt
      obtain ⟨pu, cu, rfl⟩ := x3.shape
      have lg := blt x1
      have y1 : wr.drew.cell? ⟨gh, oh + m * 2, none⟩ = some (.int .i64 (hs.getD m (0, [])).1) := (hB.cell (p := ⟨gh, oh + m * 2, none⟩) lg).trans x1
      have y2 : wr.drew.cell? ⟨gh, oh + m * 2 + 1, none⟩ = some (.slice pu (hs.getD m (0, [])).2.length cu) := (hB.cell (p := ⟨gh, oh + m * 2 + 1, none⟩) lg).trans x2
      have HBY := Lib.hid (show BytesAt wr.drew (.slice pu (hs.getD m (0, [])).2.length cu) (hs.getD m (0, [])).2 from x3.below (belowDrew hB))
      have hwm := HW.out m hlt
      obtain ⟨⟨us, ho, hp⟩, hrow, hinj⟩ := hLH
      have hml : (hs.take m).length = m := by rw [List.length_take, HL.out]; omega
      rw [hml] at ho
      have hul : us.length = m * 2 := ho.1
      have HO := Lib.hid ho
      obtain ⟨ix, hix⟩ : ∃ ix, (hs.getD m (0, [])).1 = ix := ⟨_, rfl⟩
      obtain ⟨l, hl'⟩ : ∃ l, (hs.getD m (0, [])).2 = l := ⟨_, rfl⟩
      have HPS := Lib.hid (fun u => hp.snoc (u := u) (by rw [HL.out]; exact hlt) hul hix)
      rw [hix] at y1
      rw [hl'] at y2 HBY hwm
      have HLQ := Lib.hid hl'
      have HULL := Lib.hid (show ul.length = m by have := hp.1; rw [hml] at this; exact this)
      have HROW := Lib.hid hrow
      have HINJ := Lib.hid hinj
      have lgw : gh < wr.drew.heap.size := Nat.lt_of_lt_of_le lg hsr
      have HBW := Lib.hid (belowDrew hB)
      clear hc x1 x2 x3 ho hp hrow hinj hix hl' hB
      go_wp2_with fail
      go_region_held3 (fun w' => w'.cell? ⟨gh, oh + m * 2, none⟩ = some (.int .i64 ix) ∧ w'.cell? ⟨gh, oh + m * 2 + 1, none⟩ = some (.slice pu l.length cu))
        (first | with_reducible exact ⟨y1, y2⟩ | with_reducible exact ⟨z1, z2⟩ | exact ⟨alloc_cell z1 _, alloc_cell z2 _⟩ | with_reducible exact ⟨t1, t2⟩)
        ((first
          | (go_at_call 25; refine (lentB_any wr.drew _ l (by exact HBY.out) (by omega)).mono ?_; rintro e w5 ⟨v5, rfl, hv5, hB5⟩; have hv5' := hv5; obtain ⟨g5, c5, e5, _⟩ := hv5'; subst e5; have HV5 := Lib.hid hv5; have z1 := (hB5.cell (p := ⟨gh, oh + m * 2, none⟩) lgw).trans y1; have z2 := (hB5.cell (p := ⟨gh, oh + m * 2 + 1, none⟩) lgw).trans y2; have HB5 := Lib.hid (show Below w.heap.size w w5 from below_more HBW.out hB5 HBW.out.size); have HBX := Lib.hid (show Below wr.heap.size wr w5 from ⟨hB5.os, hB5.tape, hB5.output, hB5.size, hB5.block⟩); have HO5 := Lib.hid (fun (x : Obj) => ownsRow_keptS (ownsRow_keptS HO.out (Kept.below HBX.out) (fun _ _ h => h)) (Kept.alloc (fun _ => False) w5 x) (fun _ _ h => h)); have lg5 : gh < w5.heap.size := Nat.lt_of_lt_of_le lgw hB5.size; clear hv5 hB5)
          | (refine step_app2 37 54 32 (.agg #[.int .i64 0, .slice none 0 0]) Tryz.underlying37 infoH2 rfl (by decide) rfl _ _ rfl w.heap.size m _ us rfl (HO5.out _) w5.heap.size (.int .i64 ix) (.slice (some ⟨g5, 0, none⟩) l.length c5) rfl rfl rfl (World.cell?_alloc_new w5 _ _ 0) (World.cell?_alloc_new w5 _ _ 1) (by omega) (by have := HB5.out.size; simp; omega) ?_
             intro g8 c8 w8 hR8 hk8 hg8
             have HR8 := Lib.hid hR8
             have HK8 := Lib.hid hk8
             have HG8 := Lib.hid hg8
             have t1 := (hk8.cell (p := ⟨gh, oh + m * 2, none⟩) (by have := blt z1; simp; omega) (fun hb => by have := (HO.out.lt gh hb).1; omega)).trans (alloc_cell z1 _)
             have t2 := (hk8.cell (p := ⟨gh, oh + m * 2 + 1, none⟩) (by have := blt z1; simp; omega) (fun hb => by have := (HO.out.lt gh hb).1; omega)).trans (alloc_cell z2 _)
             clear hR8 hk8 hg8)))
      have HFin := Lib.hid (LentHeld.snoc (c8 := c8) HROW.out HINJ.out HULL.out (fun b hb => (HO.out.lt b hb).2) HV5.out HLQ.out HBX.out HK8.out HG8.out hsr)
      have HB8 := Lib.hid (show Below w.heap.size w w8 from (HB5.out.trans (Kept.toBelow (Kept.alloc (fun _ => False) w5 _) HB5.out.size (fun _ h => h.elim))).trans (HK8.out.toBelow (by have := HB5.out.size; simp; omega) (fun i hi => (HO.out.lt i hi).1)))
      go_wp2
      go_roundw
      case rel =>
        refine ⟨m + 1, ul ++ [.slice (some ⟨g5, 0, none⟩) l.length c5], by omega, by go_num, ⟨⟨_, ?_, HPS.out _⟩, HFin.out.1, HFin.out.2⟩, HB8.out⟩
        rw [List.length_take, HL.out, Nat.min_eq_left (by omega)]
        exact HR8.out
      case measure => simp [intOf]; omega
    · obtain rfl : m = L := by omega
      have HTK := Lib.hid (show hs.take m = hs by rw [← HL.out, List.take_length])
      clear hLH hB
      go_wp2
      go_ret
      exact ⟨_, ul, rfl, by have := HLH.out; rw [HTK.out] at this; exact this, HB.out⟩
end -- DecA

section -- DecB
open Go.RowKit Go.Maps
set_option linter.unusedVariables false
set_option maxRecDepth 100000
set_option maxHeartbeats 8000000

theorem pair_cells {W : World} {base : Nat} {e : TypeId} {v : Value} {hs : List (Int × List B)} {us ul : List Value} (ho : W.ownsRow base e 2 v hs.length us) (hp : PairsU hs ul us) : ∃ p cap, v = .slice p hs.length cap ∧ hs.length ≤ cap ∧ (0 < hs.length → ∃ g, p = some ⟨g, 0, none⟩ ∧ ∀ i, i < hs.length →
    W.cell? ⟨g, 0 + i * 2, none⟩ = some (.int .i64 (hs.getD i (0, [])).1) ∧ ∃ u, ul[i]? = some u ∧ W.cell? ⟨g, 0 + i * 2 + 1, none⟩ = some u) := by
  obtain ⟨h0, h1⟩ := ho
  rcases h1 with ⟨rfl, hz⟩ | ⟨g, cap, cur, rfl, h2, h3, h4, h5, h6, h7⟩
  · exact ⟨none, 0, by rw [hz], by omega, fun h => by omega⟩
  · refine ⟨_, cap, rfl, h4, fun hl => ⟨g, rfl, fun i hi => ?_⟩⟩
    obtain ⟨a, b⟩ := hp.2 i hi
    have hlu : i < ul.length := by rw [hp.1]; exact hi
    have hu : ul[i]? = some ul[i] := List.getElem?_eq_getElem hlu
    refine ⟨?_, _, hu, ?_⟩
    · rw [← h7, List.getElem?_take, if_pos (by omega), Array.getElem?_toList] at a
      rw [Nat.zero_add, cell_of h3, a]
    · rw [hu, ← h7, List.getElem?_take, if_pos (by omega), Array.getElem?_toList] at b
      rw [Nat.zero_add, cell_of h3, b]
theorem held_of {W : World} {base : Nat} {e : TypeId} {v : Value} {hs : List (Int × List B)} {us ul : List Value} (ho : W.ownsRow base e 2 v hs.length us) (hp : PairsU hs ul us) (hb : ∀ i u, ul[i]? = some u → BytesAt W u (hs.getD i (0, [])).2) : HeldAt W v hs := by
  obtain ⟨p, cap, e1, e2, e3⟩ := pair_cells ho hp
  refine ⟨p, cap, e1, e2, fun h0 => ?_⟩
  obtain ⟨g, a, b⟩ := e3 h0
  refine ⟨g, 0, a, fun i hi => ?_⟩
  obtain ⟨x, u, y, z⟩ := b i hi
  exact ⟨x, u, z, hb i u y⟩
theorem LentHeld.held {W : World} {base : Nat} {v : Value} {hs : List (Int × List B)} {ul : List Value} (h : LentHeld W base v hs ul) : HeldAt W v hs := by
  obtain ⟨⟨us, ho, hp⟩, hr, _⟩ := h
  exact held_of ho hp (fun i u hu => (hr i u hu).1.own.bytes)
theorem LentHeld.below {W W' : World} {base : Nat} {v : Value} {hs : List (Int × List B)} {ul : List Value} (h : LentHeld W base v hs ul) (hb : Below W.heap.size W W') : LentHeld W' base v hs ul := by
  obtain ⟨⟨us, ho, hp⟩, hr, hi⟩ := h
  exact ⟨⟨us, ownsRow_keptS ho (Kept.below hb) (fun _ _ h => h), hp⟩, fun i u hu => ⟨(hr i u hu).1.below hb, (hr i u hu).2⟩, hi⟩

/-- Held symbols: each one's length is within its capacity. -/
def HeldCap (w : World) (v : Value) (k : Nat) : Prop := ∀ g o c, v = .slice (some ⟨g, o, none⟩) k c → ∀ i, i < k → ∀ p n c', w.cell? ⟨g, o + i * 2 + 1, none⟩ = some (.slice p n c') → n ≤ c'
theorem HeldCap.below {w w' : World} {v : Value} {hs : List (Int × List B)} (h : HeldCap w v hs.length) (hv : HeldAt w v hs) (hb : Below w.heap.size w w') : HeldCap w' v hs.length := by
  intro g o c e i hi p n c' hc
  obtain ⟨p0, cap, rfl, _, hh⟩ := hv
  obtain ⟨g2, o2, rfl, hx⟩ := hh (by omega)
  simp only [Value.slice.injEq, Option.some.injEq, Addr.mk.injEq, true_and, and_true] at e
  obtain ⟨⟨rfl, rfl⟩, rfl⟩ := e
  obtain ⟨_, u, hu, _⟩ := hx i hi
  have := (hb.cell (p := ⟨g2, o2 + i * 2 + 1, none⟩) (blt hu)).trans hu
  rw [this] at hc
  exact h g2 o2 cap rfl i hi p n c' (by rw [hu, hc])
theorem cap_of {W : World} {base : Nat} {e : TypeId} {v : Value} {hs : List (Int × List B)} {us ul : List Value} (ho : W.ownsRow base e 2 v hs.length us) (hp : PairsU hs ul us) (hb : ∀ (i : Nat) (u : Value), ul[i]? = some u → ∀ p n c, u = Value.slice p n c → n ≤ c) : HeldCap W v hs.length := by
  intro g o c e2 i hi p n c' hc
  obtain ⟨p0, cap, e1, _, e3⟩ := pair_cells ho hp
  obtain ⟨g2, rfl, hx⟩ := e3 (by omega)
  rw [e1] at e2
  simp only [Value.slice.injEq, Option.some.injEq, Addr.mk.injEq, true_and, and_true] at e2
  obtain ⟨⟨rfl, rfl⟩, rfl⟩ := e2
  obtain ⟨_, u, hu, hcu⟩ := hx i hi
  rw [hcu] at hc
  simp only [Option.some.injEq] at hc
  exact hb i u hu p n c' hc
theorem LentHeld.cap {W : World} {base : Nat} {v : Value} {hs : List (Int × List B)} {ul : List Value} (h : LentHeld W base v hs ul) : HeldCap W v hs.length := by
  obtain ⟨⟨us, ho, hp⟩, hr, _⟩ := h
  refine cap_of ho hp (fun i u hu p n c e => ?_)
  subst e
  rcases (hr i _ hu).1.own.2 with ⟨e, _⟩ | ⟨g, cap, cur, e, h2, h3, h4, h5⟩
  · simp only [Value.slice.injEq] at e
    omega
  · simp only [Value.slice.injEq] at e
    omega

theorem theirs_any (w : World) (v : Value) (hs : List (Int × List B)) (hv : HeldAt w v hs) (hcv : HeldCap w v hs.length) (hl : hs.length ≤ 1000) :
    Calls Tryz.prog 21 #[v] w fun e w' => ∃ v', e = .returned v' ∧ HeldAt w' v' hs ∧ HeldCap w' v' hs.length ∧ Below w.heap.size w w' := by
  obtain ⟨p, cap, rfl, hcap, hh⟩ := hv
  have HH := Lib.hid hh
  obtain ⟨L, hL⟩ : ∃ L, hs.length = L := ⟨_, rfl⟩
  have HCV := Lib.hid hcv
  rw [hL] at HH HCV hl hcap ⊢
  have HL := Lib.hid hL
  clear hh hL hcv
  go_enter Tryz.func21, Tryz.ntmps21
  go_wp2
  go_loopw [3, 4] (fun v i wr => ∃ (m : Nat) (ul us : List Value), m ≤ L ∧ i = .int .i64 (m : Int) ∧ wr.ownsRow w.heap.size 73 2 v m us ∧ PairsU (hs.take m) ul us ∧ (∀ i u, ul[i]? = some u → BytesAt w u (hs.getD i (0, [])).2 ∧ ∀ p n c, u = Value.slice p n c → n ≤ c) ∧ Below w.heap.size w wr) (fun _ i _ => L - (intOf i).toNat)
  case atStart => exact ⟨0, [], [], Nat.zero_le _, rfl, World.ownsRow_nil _ _ _ _, ⟨rfl, fun i h => absurd h (by simp)⟩, fun i u h => by simp at h, Below.refl _ _⟩
  case round =>
    obtain ⟨m, ul, us, hm, rfl, ho, hp, hr, hB⟩ := hrel
    have HO := Lib.hid ho
    have HP := Lib.hid hp
    have HR := Lib.hid hr
    have HB := Lib.hid hB
    have hsr := hB.size
    have hul : us.length = m * 2 := ho.1
    by_cases hlt : m < L
    · obtain ⟨gh, oh, rfl, hc⟩ := HH.out (by omega)
      obtain ⟨x1, u, x2, x3⟩ := hc m hlt
      obtain ⟨pu, cu, rfl⟩ := x3.shape
      have lg := blt x1
      have y1 : wr.drew.cell? ⟨gh, oh + m * 2, none⟩ = some (.int .i64 (hs.getD m (0, [])).1) := (hB.cell (p := ⟨gh, oh + m * 2, none⟩) lg).trans x1
      have y2 : wr.drew.cell? ⟨gh, oh + m * 2 + 1, none⟩ = some (.slice pu (hs.getD m (0, [])).2.length cu) := (hB.cell (p := ⟨gh, oh + m * 2 + 1, none⟩) lg).trans x2
      have hml : (hs.take m).length = m := by rw [List.length_take, HL.out]; omega
      obtain ⟨ix, hix⟩ : ∃ ix, (hs.getD m (0, [])).1 = ix := ⟨_, rfl⟩
      obtain ⟨l, hl'⟩ : ∃ l, (hs.getD m (0, [])).2 = l := ⟨_, rfl⟩
      have HPS := Lib.hid (fun u => hp.snoc (u := u) (by rw [HL.out]; exact hlt) hul hix)
      rw [hix] at y1
      rw [hl'] at y2 x3
      have HX3 := Lib.hid x3
      have HCU := Lib.hid (HCV.out gh oh cap rfl m hlt _ _ _ x2)
      rw [hl'] at HCU
      have HLQ := Lib.hid hl'
      have HULL := Lib.hid (show ul.length = m by have := hp.1; rw [hml] at this; exact this)
      have lgw : gh < wr.drew.heap.size := Nat.lt_of_lt_of_le lg hsr
      have HBW := Lib.hid (belowDrew hB)
      have HO5 := Lib.hid (fun (x : Obj) => (show (wr.drew.alloc x).ownsRow w.heap.size 73 2 u3 m us from ownsRow_keptS (w := wr) ho ((Kept.refl (fun _ => False) wr).drew.trans (Kept.alloc (fun _ => False) wr.drew x) (fun _ _ h => h)) (fun _ _ h => h)))
      clear hc x1 x2 x3 ho hp hr hix hl' hB
      go_wp2_with fail
      go_region_held3 (fun w' => w'.cell? ⟨gh, oh + m * 2, none⟩ = some (.int .i64 ix) ∧ w'.cell? ⟨gh, oh + m * 2 + 1, none⟩ = some (.slice pu l.length cu))
        (first | with_reducible exact ⟨y1, y2⟩ | exact ⟨alloc_cell y1 _, alloc_cell y2 _⟩ | with_reducible exact ⟨t1, t2⟩)
        ((refine step_app2 43 73 32 (.agg #[.int .i64 0, .slice none 0 0]) Tryz.underlying43 infoH3 rfl (by decide) rfl _ _ rfl w.heap.size m _ us rfl (HO5.out _) wr.heap.size (.int .i64 ix) (.slice pu l.length cu) rfl rfl rfl (World.cell?_alloc_new wr.drew _ _ 0) (World.cell?_alloc_new wr.drew _ _ 1) (by omega) (Nat.le_trans hsr (Kept.alloc (fun _ => False) wr.drew _).size) ?_
          intro g8 c8 w8 hR8 hk8 hg8
          have HR8 := Lib.hid hR8
          have HK8 := Lib.hid hk8
          have t1 := (hk8.cell (p := ⟨gh, oh + m * 2, none⟩) (blt (alloc_cell y1 _)) (fun hb => by have := (HO.out.lt gh hb).1; omega)).trans (alloc_cell y1 _)
          have t2 := (hk8.cell (p := ⟨gh, oh + m * 2 + 1, none⟩) (blt (alloc_cell y1 _)) (fun hb => by have := (HO.out.lt gh hb).1; omega)).trans (alloc_cell y2 _)
          clear hR8 hk8 hg8))
      have HB8 := Lib.hid (show Below w.heap.size w w8 from (HBW.out.trans (Kept.toBelow (Kept.alloc (fun _ => False) wr.drew _) HBW.out.size (fun _ h => h.elim))).trans (HK8.out.toBelow (Nat.le_trans hsr (Kept.alloc (fun _ => False) wr.drew _).size) (fun i hi => (HO.out.lt i hi).1)))
      go_wp2
      go_roundw
      case rel =>
        refine ⟨m + 1, ul ++ [.slice pu l.length cu], _, by omega, by go_num, HR8.out, HPS.out _, fun i z hz => ?_, HB8.out⟩
        by_cases e : i < m
        · rw [List.getElem?_append_left (by rw [HULL.out]; exact e)] at hz
          exact HR.out i z hz
        · have hi : i = m := by
            have := (List.getElem?_eq_some_iff.1 hz).1
            simp [HULL.out] at this; omega
          subst hi
          rw [List.getElem?_append_right (by rw [HULL.out]; exact Nat.le_refl _), HULL.out, Nat.sub_self] at hz
          have hz2 : z = .slice pu l.length cu := by simpa using hz.symm
          rw [hz2, HLQ.out]
          exact ⟨HX3.out, fun p n c e => by
            simp only [Value.slice.injEq] at e
            have := HCU.out
            omega⟩
      case measure => simp [intOf]; omega
    · obtain rfl : m = L := by omega
      have HTK := Lib.hid (show hs.take m = hs by rw [← HL.out, List.take_length])
      have HF := Lib.hid (show HeldAt wr u3 hs ∧ HeldCap wr u3 m from by
        have h2 := HP.out
        rw [HTK.out] at h2
        refine ⟨held_of (by rw [HL.out]; exact HO.out) h2 (fun i u hu => (HR.out i u hu).1.below hB), ?_⟩
        have := cap_of (by rw [HL.out]; exact HO.out) h2 (fun i u hu => (HR.out i u hu).2)
        rw [HL.out] at this
        exact this)
      clear ho hp hr hB
      go_wp2
      go_ret
      exact ⟨_, rfl, HF.out.1, HF.out.2, HB.out⟩

theorem bytesOf_exact (w : World) (p : Option Addr) (n cap : Nat) (ul : List Value) (hul : ul.length = n) (hn : n ≤ 1000) (hh : 0 < n → ∃ g off, p = some ⟨g, off, none⟩ ∧ ∀ i, i < n → ∃ q k c, ul[i]? = some (.slice q k c) ∧ w.cell? ⟨g, off + i * 2 + 1, none⟩ = some (.slice q k c)) :
    Calls Tryz.prog 16 #[.slice p n cap] w fun e w' => ∃ v, e = .returned v ∧ w'.ownsRow w.heap.size 50 1 v n ul ∧ Below w.heap.size w w' := by
  have HH := Lib.hid hh
  have HUL := Lib.hid hul
  clear hh hul
  go_enter Tryz.func16, Tryz.ntmps16
  go_wp2
  go_loopw [3, 4] (fun v i wr => ∃ m : Nat, m ≤ n ∧ i = .int .i64 (m : Int) ∧ wr.ownsRow w.heap.size 50 1 v m (ul.take m) ∧ Below w.heap.size w wr) (fun _ i _ => n - (intOf i).toNat)
  case atStart => exact ⟨0, Nat.zero_le _, rfl, World.ownsRow_nil _ _ _ _, Below.refl _ _⟩
  case round =>
    obtain ⟨m, hm, rfl, ho, hB⟩ := hrel
    have HO := Lib.hid ho
    have HB := Lib.hid hB
    have hsr := hB.size
    by_cases hlt : m < n
    · obtain ⟨gh, oh, rfl, hhc⟩ := HH.out (by omega)
      obtain ⟨q, k, c, hu, x2⟩ := hhc m hlt
      have y2 := (hB.cell (p := ⟨gh, oh + m * 2 + 1, none⟩) (blt x2)).trans x2
      have HS := Lib.hid (show ul.take m ++ [.slice q k c] = ul.take (m + 1) by
        have h : m < ul.length := by rw [HUL.out]; exact hlt
        rw [List.take_succ_eq_append_getElem h]
        congr 1
        rw [List.getElem?_eq_getElem h] at hu
        simpa using hu.symm)
      clear hhc x2 hu ho hB
      go_wp2_with (at_builtin; refine app_head rfl _ _ rfl w.heap.size m u3 _ rfl HO.out _ rfl rfl (by omega) hsr ?_; intro g' c' w6 hR6 hk6 hs6 hg6)
      go_roundw
      case rel => exact ⟨m + 1, by omega, by go_num, by rw [← HS.out]; exact hR6, HB.out.trans (hk6.toBelow hsr (fun i h => (HO.out.lt i h).1))⟩
      case measure => simp [intOf]; omega
    · obtain rfl : m = n := by omega
      have HTK := Lib.hid (show ul.take m = ul by rw [← HUL.out, List.take_length])
      clear ho hB
      go_wp2
      go_ret
      exact ⟨_, rfl, by have := HO.out; rw [HTK.out] at this; exact this, HB.out⟩
end -- DecB

section -- LayOr
open Go.ChangeShapes Go.WideShapes Go.ChangeAt Go.RowKit Go.Deep
set_option linter.unusedVariables false

section
variable {H : Type} {enc : TypeId × Value → H} {P : Program} {w : World}
theorem open_cap {t e : TypeId} {fuel : Nat} {v : Value} {x : DataW H × List MemPlace} (ht : P.underlying t = some (.slice e)) (ce : P.cellsOf e = 1)
    (h : DataW.trod enc P w 0 (fun _ => true) true fuel t [v] = some x) : ∀ p n c, v = Value.slice p n c → n ≤ c := by
  intro p n c hv
  rcases open_slice1 ht ce h with ⟨hc, _⟩ | ⟨a, len, cap, m, n', V, D, Pl, hc, _, hl, hm, hmm, _, hx⟩
  · obtain rfl : v = .slice none 0 0 := by simpa using hc
    simp only [Value.slice.injEq] at hv
    omega
  · obtain rfl : v = .slice (some a) len cap := by simpa using hc
    have hmm' : m = cap := by simpa using hmm
    simp only [Value.slice.injEq] at hv
    omega

theorem open_heldC {t e : TypeId} {f0 f1 : Field} {q : TypeId} {fuel : Nat} {v : Value} {x : DataW H × List MemPlace} (ht : P.underlying t = some (.slice e)) (he : P.underlying e = some (.struct #[f0, f1]))
    (ce : P.cellsOf e = 2) (o0 : f0.offset = 0) (o1 : f1.offset = 1) (c0 : P.cellsOf f0.type = 1) (c1 : P.cellsOf f1.type = 1) (u0 : P.underlying f0.type = some (.int .i64)) (u1 : P.underlying f1.type = some (.slice q)) (hq : P.underlying q = some (.int .u8)) (cq : P.cellsOf q = 1) (be : P.bytesOf e = 32) (bq : P.bytesOf q = 1)
    (h : DataW.trod enc P w 0 (fun _ => true) true fuel t [v] = some x) (hf : Fits P t x.1) : ∃ hs, HeldAt w v hs ∧ HeldCap w v hs.length ∧ hs.length ≤ 4500000000000 ∧ ∀ i, i < hs.length → (hs.getD i (0, [])).2.length ≤ 140737488355328 := by
  obtain ⟨hs, h1, h2, h3⟩ := open_held ht he ce o0 o1 c0 c1 u0 u1 hq cq be bq h hf
  refine ⟨hs, h1, ?_, h2, h3⟩
  intro g o c hv i hi p n c' hc
  rcases open_slice_pairs ht he ce o0 o1 c0 c1 h with ⟨hc, _⟩ | ⟨a, len, cap, m, nn, V0, V1, D0, D1, P0, P1, hc2, _, hl, hm, hmm, rfl, hx⟩
  · obtain rfl : v = .slice none 0 0 := by simpa using hc
    simp at hv
  · obtain rfl : v = .slice (some a) len cap := by simpa using hc2
    have hmm' : m = cap := by simpa using hmm
    simp only [Value.slice.injEq, Option.some.injEq] at hv
    obtain ⟨rfl, rfl, rfl⟩ := hv
    obtain ⟨z0, z1, _, z2⟩ := hx i (by omega)
    rw [add_plain, ← Nat.add_assoc] at z1
    exact open_cap u1 cq z2 p n c' (Option.some.inj (z1.symm.trans hc))
end
end -- LayOr

end Go.Proofs.YtanjchpkekehgaaGreat
