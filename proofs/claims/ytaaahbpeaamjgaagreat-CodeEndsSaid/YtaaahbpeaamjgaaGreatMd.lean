/-
  CodeDecodes: the walk.
-/
import Derived.Test.YtaaahbpeaamjgaaGreatMa
import Derived.Test.YtaaahbpeaamjgaaGreatMb
import Derived.Test.YtaaahbpeaamjgaaGreatMc
namespace Go.Proofs.YtaaahbpeaamjgaaGreat

section -- DecA
open Go.RowKit Go.Maps
set_option linter.unusedVariables false
set_option maxRecDepth 100000
set_option maxHeartbeats 8000000

/-- Append of one element of two cells, within a region. -/
theorem step_app2 {ops : Array Oper} {o : Oper} {a : Act} {W : World} {K : Act → World → Prop} {Q : Exit → Act → World → Prop} {E : Prop} (t e : TypeId) (bytes : Nat) (z : Value) (ht : Tryz.prog.underlying t = some (.slice e))
    (hinfo : (Tryz.prog.info? e).map (fun i => (i.zero, i.size, i.bytes)) = some (some z, 2, bytes)) (hzs : z.cells.size = 2) (hby : bytes ≤ 64)
    (hgd : o.guard = none) (s x : Operand) (ho : o.op = .call { callee := .builtin .append, args := #[s, x], argTypes := #[t, t] })
    (base n : Nat) (v : Value) (us : List Value) (hs : a.eval s = v) (hown : W.ownsRow base e 2 v n us) (g : Nat) (u1 u2 : Value) (h1 : u1.oneCell' = true) (h2 : u2.oneCell' = true)
    (hx : a.eval x = .slice (some ⟨g, 0, none⟩) 1 1) (hc1 : W.cell? ⟨g, 0, none⟩ = some u1) (hc2 : W.cell? ⟨g, 1, none⟩ = some u2) (hn : n < 1000000000000) (hbase : base ≤ W.heap.size)
    (h : ∀ g' c' w', w'.ownsRow base e 2 (.slice (some ⟨g', 0, none⟩) (n + 1) c') (n + 1) (us ++ [u1, u2]) → Kept (fun k => v.ownBlock = some k) W w' → (v.ownBlock = some g' ∨ W.heap.size ≤ g') →
      K (a.put o.dst (.slice (some ⟨g', 0, none⟩) (n + 1) c')) w') :
    if Region.wanted o (yielded ops a.tmps) = true then Oper.wp Tryz.prog o a W K Q else E := by
  have hw : Region.wanted o (yielded ops a.tmps) = true := by simp [Region.wanted, hgd]
  rw [if_pos hw]
  obtain ⟨i, hi, hz, hsize, hbytes⟩ := info_parts hinfo
  rw [← hsize] at hown
  obtain ⟨g', c', w', hr, h3, h4, h5⟩ := run_app (P := Tryz.prog) (w := W) base t o.type e i z ht hi hz (by rw [hzs, hsize]) v n us hown g 0 1 1 [u1, u2] (by simp [hsize]) (by omega) (fun j y hj => by
      rw [add_off]
      cases j with
      | zero => rw [← (by simpa using hj : u1 = y)]; simpa using hc1
      | succ j =>
        cases j with
        | zero => rw [← (by simpa using hj : u2 = y)]; simpa using hc2
        | succ j => simp at hj) (fun y hy => by
      rcases List.mem_cons.1 hy with rfl | hy
      · exact h1
      · rw [List.mem_singleton] at hy; subst hy; exact h2) (by omega) (by rw [hbytes]; have := Nat.mul_le_mul_left (n + 1) hby; omega) hbase
  rw [hsize] at h3
  have h6 := h g' c' w' h3 h4 h5
  unfold Oper.wp execOp
  simp only [ho, resolve, invoke, builtin, Sem.run_bind, Sem.run_pure, Result.andThen_ok, List.map_toArray, List.map_cons, List.map_nil, hs, hx, hr]
  exact h6

/-- Pairs of numbers and headers, cell by cell. -/
def PairsU (hs : List (Int × List B)) (ul us : List Value) : Prop := ul.length = hs.length ∧ ∀ i, i < hs.length → us[i * 2]? = some (.int .i64 (hs.getD i (0, [])).1) ∧ us[i * 2 + 1]? = ul[i]?
theorem PairsU.snoc {hs : List (Int × List B)} {ul us : List Value} {m : Nat} {ix : Int} {u : Value} (hm : m < hs.length) (h : PairsU (hs.take m) ul us) (hul : us.length = m * 2) (hix : (hs.getD m (0, [])).1 = ix) : PairsU (hs.take (m + 1)) (ul ++ [u]) (us ++ [.int .i64 ix, u]) := by
  obtain ⟨h1, h2⟩ := h
  have hl : (hs.take m).length = m := by rw [List.length_take]; omega
  rw [hl] at h1 h2
  refine ⟨by simp [h1]; omega, fun i hi => ?_⟩
  rw [List.length_take, Nat.min_eq_left (by omega)] at hi
  rw [getD_take (by omega)]
  by_cases e : i < m
  · have := h2 i e
    rw [getD_take e] at this
    rw [List.getElem?_append_left (by omega), List.getElem?_append_left (by omega), List.getElem?_append_left (by omega)]
    exact this
  · obtain rfl : i = m := by omega
    rw [List.getElem?_append_right (by omega), List.getElem?_append_right (by omega), List.getElem?_append_right (by omega), hul, h1, hix]
    simp

/-- Held symbols that are lent: rows apart. -/
def LentHeld (W : World) (base : Nat) (v : Value) (hs : List (Int × List B)) (ul : List Value) : Prop := (∃ us, W.ownsRow base 57 2 v hs.length us ∧ PairsU hs ul us) ∧ (∀ i u, ul[i]? = some u → LentAt W base u (hs.getD i (0, [])).2 ∧ ∀ b, u.ownBlock = some b → v.ownBlock ≠ some b) ∧ InjU ul
theorem LentHeld.snoc {wr w5 w8 : World} {B0 m g8 c8 : Nat} {hs : List (Int × List B)} {ul : List Value} {v u : Value} {l : List B} {x : Obj} (hrow : ∀ i u, ul[i]? = some u → LentAt wr B0 u ((hs.take m).getD i (0, [])).2 ∧ ∀ b, u.ownBlock = some b → v.ownBlock ≠ some b)
    (hinj : InjU ul) (hul : ul.length = m) (hvlt : ∀ b, v.ownBlock = some b → b < wr.heap.size) (h5 : LentAt w5 wr.heap.size u l) (hl : (hs.getD m (0, [])).2 = l) (hB5 : Below wr.heap.size wr w5)
    (hk8 : Kept (fun k => v.ownBlock = some k) (w5.alloc x) w8) (hg8 : v.ownBlock = some g8 ∨ (w5.alloc x).heap.size ≤ g8) (hb0 : B0 ≤ wr.heap.size) :
    (∀ i z, (ul ++ [u])[i]? = some z → LentAt w8 B0 z ((hs.take (m + 1)).getD i (0, [])).2 ∧ ∀ b, z.ownBlock = some b → (Value.slice (some ⟨g8, 0, none⟩) (m + 1) c8).ownBlock ≠ some b) ∧ InjU (ul ++ [u]) := by
  have hsz : (w5.alloc x).heap.size = w5.heap.size + 1 := by simp
  have hs5 := hB5.size
  refine ⟨fun i z hz => ?_, hinj.append (fun i j a b c hi hj _ _ => ?_) (fun a ha z hz b e1 e2 => ?_)⟩
  · by_cases e : i < m
    · rw [List.getElem?_append_left (by omega)] at hz
      obtain ⟨a1, a2⟩ := hrow i z hz
      rw [getD_take e] at a1
      rw [getD_take (by omega)]
      refine ⟨((a1.below hB5).kept (Kept.alloc (fun _ => False) w5 x) (fun _ _ h => h)).kept hk8 (fun b hb e => a2 b hb e), fun b hb e2 => ?_⟩
      have e3 := own_is e2
      have := (a1.blk b hb).2
      rcases hg8 with q | q
      · exact a2 b hb (by rw [q, e3])
      · omega
    · have hi : i = m := by
        have := (List.getElem?_eq_some_iff.1 hz).1
        simp at this; omega
      subst hi
      rw [List.getElem?_append_right (by omega), hul, Nat.sub_self] at hz
      have hz2 : z = u := by simpa using hz.symm
      subst hz2
      rw [getD_take (by omega), hl]
      refine ⟨((h5.kept (Kept.alloc (fun _ => False) w5 x) (fun _ _ h => h)).kept hk8 (fun b hb e => ?_)).weaken hb0, fun b hb e2 => ?_⟩
      · have := (h5.blk b hb).1
        have := hvlt b e
        omega
      · have e3 := own_is e2
        have g1 := h5.blk b hb
        rcases hg8 with q | q
        · have := hvlt g8 q; omega
        · omega
  · have h1 : i < 1 := by have := (List.getElem?_eq_some_iff.1 hi).1; simpa using this
    have h2 : j < 1 := by have := (List.getElem?_eq_some_iff.1 hj).1; simpa using this
    omega
  · rw [List.mem_singleton] at hz
    subst hz
    obtain ⟨i, hi, ea⟩ := List.mem_iff_getElem.1 ha
    have g1 := ((hrow i a (by rw [List.getElem?_eq_getElem hi, ea])).1.blk b e1).2
    have g2 := (h5.blk b e2).1
    omega
theorem infoH2 : (Tryz.prog.info? 57).map (fun i => (i.zero, i.size, i.bytes)) = some (some (.agg #[.int .i64 0, .slice none 0 0]), 2, 32) := by kernel_rfl
theorem infoH3 : (Tryz.prog.info? 68).map (fun i => (i.zero, i.size, i.bytes)) = some (some (.agg #[.int .i64 0, .slice none 0 0]), 2, 32) := by kernel_rfl

theorem lent_any (w : World) (v : Value) (hs : List (Int × List B)) (hv : HeldAt w v hs) (hl : hs.length ≤ 1000) (hw : ∀ i, i < hs.length → (hs.getD i (0, [])).2.length ≤ 1000) :
    Calls Tryz.prog 11 #[v] w fun e w' => ∃ v' ul, e = .returned v' ∧ LentHeld w' w.heap.size v' hs ul ∧ Below w.heap.size w w' := by
  obtain ⟨p, cap, rfl, hcap, hh⟩ := hv
  have HH := Lib.hid hh
  have HW := Lib.hid hw
  obtain ⟨L, hL⟩ : ∃ L, hs.length = L := ⟨_, rfl⟩
  rw [hL] at HH HW hl hcap ⊢
  have HL := Lib.hid hL
  clear hh hw hL
  go_enter Tryz.func11, Tryz.ntmps11
  go_wp2
  go_loopw [3, 4] (fun v i wr => ∃ (m : Nat) (ul : List Value), m ≤ L ∧ i = .int .i64 (m : Int) ∧ LentHeld wr w.heap.size v (hs.take m) ul ∧ Below w.heap.size w wr) (fun _ i _ => L - (intOf i).toNat)
  case atStart => exact ⟨0, [], Nat.zero_le _, rfl, ⟨⟨[], World.ownsRow_nil _ _ _ _, rfl, fun i h => absurd h (by simp)⟩, fun i u h => by simp at h, fun i j u z b h => by simp at h⟩, Below.refl _ _⟩
  case round =>
    obtain ⟨m, ul, hm, rfl, hLH, hB⟩ := hrel
    have HLH := Lib.hid hLH
    have HB := Lib.hid hB
    have hsr := hB.size
    by_cases hlt : m < L
    · obtain ⟨gh, oh, rfl, hc⟩ := HH.out (by omega)
      obtain ⟨x1, u, x2, x3⟩ := hc m hlt
      obtain ⟨pu, cu, rfl⟩ := x3.shape
      have lg := blt x1
      have y1 : wr.drew.cell? ⟨gh, oh + m * 2, none⟩ = some (.int .i64 (hs.getD m (0, [])).1) := (hB.cell (p := ⟨gh, oh + m * 2, none⟩) lg).trans x1
      have y2 : wr.drew.cell? ⟨gh, oh + m * 2 + 1, none⟩ = some (.slice pu (hs.getD m (0, [])).2.length cu) := (hB.cell (p := ⟨gh, oh + m * 2 + 1, none⟩) lg).trans x2
      have HBY := Lib.hid (show BytesAt wr.drew (.slice pu (hs.getD m (0, [])).2.length cu) (hs.getD m (0, [])).2 from x3.below (belowDrew hB))
      have hwm := HW.out m hlt
      obtain ⟨⟨us, ho, hp⟩, hrow, hinj⟩ := hLH
      have hml : (hs.take m).length = m := by rw [List.length_take, HL.out]; omega
      rw [hml] at ho
      have hul : us.length = m * 2 := ho.1
      have HO := Lib.hid ho
      obtain ⟨ix, hix⟩ : ∃ ix, (hs.getD m (0, [])).1 = ix := ⟨_, rfl⟩
      obtain ⟨l, hl'⟩ : ∃ l, (hs.getD m (0, [])).2 = l := ⟨_, rfl⟩
      have HPS := Lib.hid (fun u => hp.snoc (u := u) (by rw [HL.out]; exact hlt) hul hix)
      rw [hix] at y1
      rw [hl'] at y2 HBY hwm
      have HLQ := Lib.hid hl'
      have HULL := Lib.hid (show ul.length = m by have := hp.1; rw [hml] at this; exact this)
      have HROW := Lib.hid hrow
      have HINJ := Lib.hid hinj
      have lgw : gh < wr.drew.heap.size := Nat.lt_of_lt_of_le lg hsr
      have HBW := Lib.hid (belowDrew hB)
      clear hc x1 x2 x3 ho hp hrow hinj hix hl' hB
      go_wp2_with fail
      go_region_held3 (fun w' => w'.cell? ⟨gh, oh + m * 2, none⟩ = some (.int .i64 ix) ∧ w'.cell? ⟨gh, oh + m * 2 + 1, none⟩ = some (.slice pu l.length cu))
        (first | with_reducible exact ⟨y1, y2⟩ | with_reducible exact ⟨z1, z2⟩ | exact ⟨alloc_cell z1 _, alloc_cell z2 _⟩ | with_reducible exact ⟨t1, t2⟩)
        ((first
          | (go_at_call 31; refine (lentB_any wr.drew _ l (by exact HBY.out) (by omega)).mono ?_; rintro e w5 ⟨v5, rfl, hv5, hB5⟩; have hv5' := hv5; obtain ⟨g5, c5, e5, _⟩ := hv5'; subst e5; have HV5 := Lib.hid hv5; have z1 := (hB5.cell (p := ⟨gh, oh + m * 2, none⟩) lgw).trans y1; have z2 := (hB5.cell (p := ⟨gh, oh + m * 2 + 1, none⟩) lgw).trans y2; have HB5 := Lib.hid (show Below w.heap.size w w5 from below_more HBW.out hB5 HBW.out.size); have HBX := Lib.hid (show Below wr.heap.size wr w5 from ⟨hB5.os, hB5.tape, hB5.output, hB5.size, hB5.block⟩); have HO5 := Lib.hid (fun (x : Obj) => ownsRow_keptS (ownsRow_keptS HO.out (Kept.below HBX.out) (fun _ _ h => h)) (Kept.alloc (fun _ => False) w5 x) (fun _ _ h => h)); have lg5 : gh < w5.heap.size := Nat.lt_of_lt_of_le lgw hB5.size; clear hv5 hB5)
          | (refine step_app2 22 57 32 (.agg #[.int .i64 0, .slice none 0 0]) Tryz.underlying22 infoH2 rfl (by decide) rfl _ _ rfl w.heap.size m _ us rfl (HO5.out _) w5.heap.size (.int .i64 ix) (.slice (some ⟨g5, 0, none⟩) l.length c5) rfl rfl rfl (World.cell?_alloc_new w5 _ _ 0) (World.cell?_alloc_new w5 _ _ 1) (by omega) (by have := HB5.out.size; simp; omega) ?_
             intro g8 c8 w8 hR8 hk8 hg8
             have HR8 := Lib.hid hR8
             have HK8 := Lib.hid hk8
             have HG8 := Lib.hid hg8
             have t1 := (hk8.cell (p := ⟨gh, oh + m * 2, none⟩) (by have := blt z1; simp; omega) (fun hb => by have := (HO.out.lt gh hb).1; omega)).trans (alloc_cell z1 _)
             have t2 := (hk8.cell (p := ⟨gh, oh + m * 2 + 1, none⟩) (by have := blt z1; simp; omega) (fun hb => by have := (HO.out.lt gh hb).1; omega)).trans (alloc_cell z2 _)
             clear hR8 hk8 hg8)))
      have HFin := Lib.hid (LentHeld.snoc (c8 := c8) HROW.out HINJ.out HULL.out (fun b hb => (HO.out.lt b hb).2) HV5.out HLQ.out HBX.out HK8.out HG8.out hsr)
      have HB8 := Lib.hid (show Below w.heap.size w w8 from (HB5.out.trans (Kept.toBelow (Kept.alloc (fun _ => False) w5 _) HB5.out.size (fun _ h => h.elim))).trans (HK8.out.toBelow (by have := HB5.out.size; simp; omega) (fun i hi => (HO.out.lt i hi).1)))
      go_wp2
      go_roundw
      case rel =>
        refine ⟨m + 1, ul ++ [.slice (some ⟨g5, 0, none⟩) l.length c5], by omega, by go_num, ⟨⟨_, ?_, HPS.out _⟩, HFin.out.1, HFin.out.2⟩, HB8.out⟩
        rw [List.length_take, HL.out, Nat.min_eq_left (by omega)]
        exact HR8.out
      case measure => simp [intOf]; omega
    · obtain rfl : m = L := by omega
      have HTK := Lib.hid (show hs.take m = hs by rw [← HL.out, List.take_length])
      clear hLH hB
      go_wp2
      go_ret
      exact ⟨_, ul, rfl, by have := HLH.out; rw [HTK.out] at this; exact this, HB.out⟩
end -- DecA

section -- DecB
open Go.RowKit Go.Maps
set_option linter.unusedVariables false
set_option maxRecDepth 100000
set_option maxHeartbeats 8000000

theorem pair_cells {W : World} {base : Nat} {e : TypeId} {v : Value} {hs : List (Int × List B)} {us ul : List Value} (ho : W.ownsRow base e 2 v hs.length us) (hp : PairsU hs ul us) : ∃ p cap, v = .slice p hs.length cap ∧ hs.length ≤ cap ∧ (0 < hs.length → ∃ g, p = some ⟨g, 0, none⟩ ∧ ∀ i, i < hs.length →
    W.cell? ⟨g, 0 + i * 2, none⟩ = some (.int .i64 (hs.getD i (0, [])).1) ∧ ∃ u, ul[i]? = some u ∧ W.cell? ⟨g, 0 + i * 2 + 1, none⟩ = some u) := by
  obtain ⟨h0, h1⟩ := ho
  rcases h1 with ⟨rfl, hz⟩ | ⟨g, cap, cur, rfl, h2, h3, h4, h5, h6, h7⟩
  · exact ⟨none, 0, by rw [hz], by omega, fun h => by omega⟩
  · refine ⟨_, cap, rfl, h4, fun hl => ⟨g, rfl, fun i hi => ?_⟩⟩
    obtain ⟨a, b⟩ := hp.2 i hi
    have hlu : i < ul.length := by rw [hp.1]; exact hi
    have hu : ul[i]? = some ul[i] := List.getElem?_eq_getElem hlu
    refine ⟨?_, _, hu, ?_⟩
    · rw [← h7, List.getElem?_take, if_pos (by omega), Array.getElem?_toList] at a
      rw [Nat.zero_add, cell_of h3, a]
    · rw [hu, ← h7, List.getElem?_take, if_pos (by omega), Array.getElem?_toList] at b
      rw [Nat.zero_add, cell_of h3, b]
theorem held_of {W : World} {base : Nat} {e : TypeId} {v : Value} {hs : List (Int × List B)} {us ul : List Value} (ho : W.ownsRow base e 2 v hs.length us) (hp : PairsU hs ul us) (hb : ∀ i u, ul[i]? = some u → BytesAt W u (hs.getD i (0, [])).2) : HeldAt W v hs := by
  obtain ⟨p, cap, e1, e2, e3⟩ := pair_cells ho hp
  refine ⟨p, cap, e1, e2, fun h0 => ?_⟩
  obtain ⟨g, a, b⟩ := e3 h0
  refine ⟨g, 0, a, fun i hi => ?_⟩
  obtain ⟨x, u, y, z⟩ := b i hi
  exact ⟨x, u, z, hb i u y⟩
theorem LentHeld.held {W : World} {base : Nat} {v : Value} {hs : List (Int × List B)} {ul : List Value} (h : LentHeld W base v hs ul) : HeldAt W v hs := by
  obtain ⟨⟨us, ho, hp⟩, hr, _⟩ := h
  exact held_of ho hp (fun i u hu => (hr i u hu).1.own.bytes)
theorem LentHeld.below {W W' : World} {base : Nat} {v : Value} {hs : List (Int × List B)} {ul : List Value} (h : LentHeld W base v hs ul) (hb : Below W.heap.size W W') : LentHeld W' base v hs ul := by
  obtain ⟨⟨us, ho, hp⟩, hr, hi⟩ := h
  exact ⟨⟨us, ownsRow_keptS ho (Kept.below hb) (fun _ _ h => h), hp⟩, fun i u hu => ⟨(hr i u hu).1.below hb, (hr i u hu).2⟩, hi⟩

theorem theirs_any (w : World) (v : Value) (hs : List (Int × List B)) (hv : HeldAt w v hs) (hl : hs.length ≤ 1000) :
    Calls Tryz.prog 15 #[v] w fun e w' => ∃ v', e = .returned v' ∧ HeldAt w' v' hs ∧ Below w.heap.size w w' := by
  obtain ⟨p, cap, rfl, hcap, hh⟩ := hv
  have HH := Lib.hid hh
  obtain ⟨L, hL⟩ : ∃ L, hs.length = L := ⟨_, rfl⟩
  rw [hL] at HH hl hcap ⊢
  have HL := Lib.hid hL
  clear hh hL
  go_enter Tryz.func15, Tryz.ntmps15
  go_wp2
  go_loopw [3, 4] (fun v i wr => ∃ (m : Nat) (ul us : List Value), m ≤ L ∧ i = .int .i64 (m : Int) ∧ wr.ownsRow w.heap.size 68 2 v m us ∧ PairsU (hs.take m) ul us ∧ (∀ i u, ul[i]? = some u → BytesAt w u (hs.getD i (0, [])).2) ∧ Below w.heap.size w wr) (fun _ i _ => L - (intOf i).toNat)
  case atStart => exact ⟨0, [], [], Nat.zero_le _, rfl, World.ownsRow_nil _ _ _ _, ⟨rfl, fun i h => absurd h (by simp)⟩, fun i u h => by simp at h, Below.refl _ _⟩
  case round =>
    obtain ⟨m, ul, us, hm, rfl, ho, hp, hr, hB⟩ := hrel
    have HO := Lib.hid ho
    have HP := Lib.hid hp
    have HR := Lib.hid hr
    have HB := Lib.hid hB
    have hsr := hB.size
    have hul : us.length = m * 2 := ho.1
    by_cases hlt : m < L
    · obtain ⟨gh, oh, rfl, hc⟩ := HH.out (by omega)
      obtain ⟨x1, u, x2, x3⟩ := hc m hlt
      obtain ⟨pu, cu, rfl⟩ := x3.shape
      have lg := blt x1
      have y1 : wr.drew.cell? ⟨gh, oh + m * 2, none⟩ = some (.int .i64 (hs.getD m (0, [])).1) := (hB.cell (p := ⟨gh, oh + m * 2, none⟩) lg).trans x1
      have y2 : wr.drew.cell? ⟨gh, oh + m * 2 + 1, none⟩ = some (.slice pu (hs.getD m (0, [])).2.length cu) := (hB.cell (p := ⟨gh, oh + m * 2 + 1, none⟩) lg).trans x2
      have hml : (hs.take m).length = m := by rw [List.length_take, HL.out]; omega
      obtain ⟨ix, hix⟩ : ∃ ix, (hs.getD m (0, [])).1 = ix := ⟨_, rfl⟩
      obtain ⟨l, hl'⟩ : ∃ l, (hs.getD m (0, [])).2 = l := ⟨_, rfl⟩
      have HPS := Lib.hid (fun u => hp.snoc (u := u) (by rw [HL.out]; exact hlt) hul hix)
      rw [hix] at y1
      rw [hl'] at y2 x3
      have HX3 := Lib.hid x3
      have HLQ := Lib.hid hl'
      have HULL := Lib.hid (show ul.length = m by have := hp.1; rw [hml] at this; exact this)
      have lgw : gh < wr.drew.heap.size := Nat.lt_of_lt_of_le lg hsr
      have HBW := Lib.hid (belowDrew hB)
      have HO5 := Lib.hid (fun (x : Obj) => (show (wr.drew.alloc x).ownsRow w.heap.size 68 2 u3 m us from ownsRow_keptS (w := wr) ho ((Kept.refl (fun _ => False) wr).drew.trans (Kept.alloc (fun _ => False) wr.drew x) (fun _ _ h => h)) (fun _ _ h => h)))
      clear hc x1 x2 x3 ho hp hr hix hl' hB
      go_wp2_with fail
      go_region_held3 (fun w' => w'.cell? ⟨gh, oh + m * 2, none⟩ = some (.int .i64 ix) ∧ w'.cell? ⟨gh, oh + m * 2 + 1, none⟩ = some (.slice pu l.length cu))
        (first | with_reducible exact ⟨y1, y2⟩ | exact ⟨alloc_cell y1 _, alloc_cell y2 _⟩ | with_reducible exact ⟨t1, t2⟩)
        ((refine step_app2 40 68 32 (.agg #[.int .i64 0, .slice none 0 0]) Tryz.underlying40 infoH3 rfl (by decide) rfl _ _ rfl w.heap.size m _ us rfl (HO5.out _) wr.heap.size (.int .i64 ix) (.slice pu l.length cu) rfl rfl rfl (World.cell?_alloc_new wr.drew _ _ 0) (World.cell?_alloc_new wr.drew _ _ 1) (by omega) (Nat.le_trans hsr (Kept.alloc (fun _ => False) wr.drew _).size) ?_
          intro g8 c8 w8 hR8 hk8 hg8
          have HR8 := Lib.hid hR8
          have HK8 := Lib.hid hk8
          have t1 := (hk8.cell (p := ⟨gh, oh + m * 2, none⟩) (blt (alloc_cell y1 _)) (fun hb => by have := (HO.out.lt gh hb).1; omega)).trans (alloc_cell y1 _)
          have t2 := (hk8.cell (p := ⟨gh, oh + m * 2 + 1, none⟩) (blt (alloc_cell y1 _)) (fun hb => by have := (HO.out.lt gh hb).1; omega)).trans (alloc_cell y2 _)
          clear hR8 hk8 hg8))
      have HB8 := Lib.hid (show Below w.heap.size w w8 from (HBW.out.trans (Kept.toBelow (Kept.alloc (fun _ => False) wr.drew _) HBW.out.size (fun _ h => h.elim))).trans (HK8.out.toBelow (Nat.le_trans hsr (Kept.alloc (fun _ => False) wr.drew _).size) (fun i hi => (HO.out.lt i hi).1)))
      go_wp2
      go_roundw
      case rel =>
        refine ⟨m + 1, ul ++ [.slice pu l.length cu], _, by omega, by go_num, HR8.out, HPS.out _, fun i z hz => ?_, HB8.out⟩
        by_cases e : i < m
        · rw [List.getElem?_append_left (by rw [HULL.out]; exact e)] at hz
          exact HR.out i z hz
        · have hi : i = m := by
            have := (List.getElem?_eq_some_iff.1 hz).1
            simp [HULL.out] at this; omega
          subst hi
          rw [List.getElem?_append_right (by rw [HULL.out]; exact Nat.le_refl _), HULL.out, Nat.sub_self] at hz
          have hz2 : z = .slice pu l.length cu := by simpa using hz.symm
          rw [hz2, HLQ.out]
          exact HX3.out
      case measure => simp [intOf]; omega
    · obtain rfl : m = L := by omega
      have HTK := Lib.hid (show hs.take m = hs by rw [← HL.out, List.take_length])
      have HF := Lib.hid (show HeldAt wr u3 hs from by
        have h2 := HP.out
        rw [HTK.out] at h2
        exact held_of (by rw [HL.out]; exact HO.out) h2 (fun i u hu => (HR.out i u hu).below hB))
      clear ho hp hr hB
      go_wp2
      go_ret
      exact ⟨_, rfl, HF.out, HB.out⟩

theorem bytesOf_exact (w : World) (p : Option Addr) (n cap : Nat) (ul : List Value) (hul : ul.length = n) (hn : n ≤ 1000) (hh : 0 < n → ∃ g off, p = some ⟨g, off, none⟩ ∧ ∀ i, i < n → ∃ q k c, ul[i]? = some (.slice q k c) ∧ w.cell? ⟨g, off + i * 2 + 1, none⟩ = some (.slice q k c)) :
    Calls Tryz.prog 7 #[.slice p n cap] w fun e w' => ∃ v, e = .returned v ∧ w'.ownsRow w.heap.size 51 1 v n ul ∧ Below w.heap.size w w' := by
  have HH := Lib.hid hh
  have HUL := Lib.hid hul
  clear hh hul
  go_enter Tryz.func7, Tryz.ntmps7
  go_wp2
  go_loopw [3, 4] (fun v i wr => ∃ m : Nat, m ≤ n ∧ i = .int .i64 (m : Int) ∧ wr.ownsRow w.heap.size 51 1 v m (ul.take m) ∧ Below w.heap.size w wr) (fun _ i _ => n - (intOf i).toNat)
  case atStart => exact ⟨0, Nat.zero_le _, rfl, World.ownsRow_nil _ _ _ _, Below.refl _ _⟩
  case round =>
    obtain ⟨m, hm, rfl, ho, hB⟩ := hrel
    have HO := Lib.hid ho
    have HB := Lib.hid hB
    have hsr := hB.size
    by_cases hlt : m < n
    · obtain ⟨gh, oh, rfl, hhc⟩ := HH.out (by omega)
      obtain ⟨q, k, c, hu, x2⟩ := hhc m hlt
      have y2 := (hB.cell (p := ⟨gh, oh + m * 2 + 1, none⟩) (blt x2)).trans x2
      have HS := Lib.hid (show ul.take m ++ [.slice q k c] = ul.take (m + 1) by
        have h : m < ul.length := by rw [HUL.out]; exact hlt
        rw [List.take_succ_eq_append_getElem h]
        congr 1
        rw [List.getElem?_eq_getElem h] at hu
        simpa using hu.symm)
      clear hhc x2 hu ho hB
      go_wp2_with (at_builtin; refine app_head rfl _ _ rfl w.heap.size m u3 _ rfl HO.out _ rfl rfl (by omega) hsr ?_; intro g' c' w6 hR6 hk6 hs6 hg6)
      go_roundw
      case rel => exact ⟨m + 1, by omega, by go_num, by rw [← HS.out]; exact hR6, HB.out.trans (hk6.toBelow hsr (fun i h => (HO.out.lt i h).1))⟩
      case measure => simp [intOf]; omega
    · obtain rfl : m = n := by omega
      have HTK := Lib.hid (show ul.take m = ul by rw [← HUL.out, List.take_length])
      clear ho hB
      go_wp2
      go_ret
      exact ⟨_, rfl, by have := HO.out; rw [HTK.out] at this; exact this, HB.out⟩
end -- DecB

section -- DecC
open Go.RowKit Go.Maps
set_option linter.unusedVariables false
set_option maxRecDepth 100000
set_option maxHeartbeats 8000000

theorem matW_lone {w : World} {base gm k : Nat} {U : Nat → Nat × Nat} {ys : List B} (h : MatW w gm k k U (fun r s => lag ys s (ofB r))) (hy : ys.length = k) (hk : k ≤ 255) (hb : ∀ i, matB gm k U i → base ≤ i) : RowsLone w base (.slice (some ⟨gm, 0, none⟩) k k) (turnL k ys) := by
  obtain ⟨C, h1, h2, h3⟩ := h.outer
  have hrow : ∀ r, r < k → Own w base (.slice (some ⟨(U r).1, 0, none⟩) k (U r).2) (wtsL ys (ofB r)) := fun r hr => by
    have := (h.row r hr).own (hb _ (.inr ⟨r, hr, rfl⟩))
    rw [rowL_len] at this
    have e : wtsL ys (ofB r) = rowL k (fun s => lag ys s (ofB r)) := by unfold wtsL rowL; rw [hy]
    rw [e]; exact this
  have get : ∀ i u, ((List.range k).map fun r => Value.slice (some ⟨(U r).1, 0, none⟩) k (U r).2)[i]? = some u → i < k ∧ u = .slice (some ⟨(U i).1, 0, none⟩) k (U i).2 := fun i u hu => by
    have hi : i < k := by
      have := (List.getElem?_eq_some_iff.1 hu).1
      simpa using this
    refine ⟨hi, ?_⟩
    simpa [hi] using hu.symm
  refine ⟨(List.range k).map fun r => .slice (some ⟨(U r).1, 0, none⟩) k (U r).2, ⟨by simp [turnL_len], .inr ⟨gm, k, C, by rw [turnL_len], hb gm (.inl rfl), h1, by rw [turnL_len]; exact Nat.le_refl _, by unfold maxLen; omega, by omega, ?_⟩⟩, fun i u hu => ?_, fun i j u z b hi hj e1 e2 => ?_⟩
  · rw [turnL_len]
    apply List.ext_getElem?
    intro i
    by_cases e : i < k
    · rw [List.getElem?_take, if_pos (by omega), Array.getElem?_toList, h3 i e]
      simp [e]
    · rw [List.getElem?_eq_none (by simp; omega), List.getElem?_eq_none (by simp; omega)]
  · obtain ⟨hi, rfl⟩ := get i u hu
    have e : (turnL k ys).getD i [] = wtsL ys (ofB i) := getD_range _ _ hi
    rw [e]
    refine ⟨hrow i hi, fun b hb' e2 => h.ne i hi ?_⟩
    rw [own_is hb', own_is e2]
  · obtain ⟨hi', rfl⟩ := get i u hi
    obtain ⟨hj', rfl⟩ := get j z hj
    exact h.inj i j hi' hj' (by rw [own_is e1, own_is e2])

def decR (n k : Nat) (hs : List (Int × List B)) : List (List B) := if decE n k hs = 0 then decL k (idxB ((hIdx hs).take k)) (hRow hs) (hs.getD 0 (0, [])).2.length else []
def turnR (n k : Nat) (xs : List Int) : List (List B) := if askE n k xs = 0 then turnL k (idxB (xs.take k)) else []
theorem decR_len {n k : Nat} {hs : List (Int × List B)} : (decR n k hs).length ≤ k := by
  unfold decR
  split
  · rw [decL_eq, decP_len]; exact Nat.le_refl _
  · simp
theorem decR_wide {n k m : Nat} {hs : List (Int × List B)} (h : (hs.getD 0 (0, [])).2.length ≤ m) : ∀ i, i < (decR n k hs).length → ((decR n k hs).getD i []).length ≤ m := by
  unfold decR
  by_cases h0 : decE n k hs = 0
  · rw [if_pos h0, decL_eq]
    intro i hi
    rw [decP_len] at hi
    have : (decP (idxB ((hIdx hs).take k)) (hRow hs) (hs.getD 0 (0, [])).2.length k).getD i [] = mixL (wtsL (idxB ((hIdx hs).take k)) (ofB i)) (hRow hs) (hs.getD 0 (0, [])).2.length := getD_range _ _ hi
    rw [this, mixL_len]; exact h
  · rw [if_neg h0]
    intro i hi
    simp at hi
theorem turnR_len {n k : Nat} {xs : List Int} : (turnR n k xs).length ≤ k := by
  unfold turnR
  split
  · rw [turnL_len]; exact Nat.le_refl _
  · simp
theorem turnR_wide {n k : Nat} {xs : List Int} : ∀ i, i < (turnR n k xs).length → ((turnR n k xs).getD i []).length ≤ k := by
  unfold turnR
  by_cases h0 : askE n k xs = 0
  · rw [if_pos h0]
    intro i hi
    rw [turnL_len] at hi
    have : (turnL k (idxB (xs.take k))).getD i [] = wtsL (idxB (xs.take k)) (ofB i) := getD_range _ _ hi
    rw [this, wtsL_len, idxB_len, List.length_take]; omega
  · rw [if_neg h0]
    intro i hi
    simp at hi

theorem decode_all (w : World) {bc n k bf : Nat} {vt : Value} (hc : CoderAt w bc n k bf vt) (v : Value) (hs : List (Int × List B)) (hv : HeldAt w v hs) (hl : hs.length ≤ 1000) (hwb : (hs.getD 0 (0, [])).2.length ≤ 1000) :
    Calls Tryz.prog 13 #[.pointer (some ⟨bc, 0, none⟩), v] w fun e w' => ∃ v, e = .returned (.tuple #[v, .int .i64 (decE n k hs)]) ∧ RowsLone w' w.heap.size v (decR n k hs) ∧ Below w.heap.size w w' := by
  refine (decode_any w hc v hs _ hv (by omega) rfl (by omega)).mono ?_
  rintro e w' ⟨v', rfl, h1, h2, hB⟩
  refine ⟨v', rfl, ?_, hB⟩
  unfold decR
  by_cases h0 : decE n k hs = 0
  · rw [if_pos h0]; exact h1 h0
  · rw [if_neg h0, h2 h0]; exact RowsLone.nil _ _
theorem rdecode_all (w : World) {b n k : Nat} (hc : RCoderAt w b n k) (hk : 1 ≤ k) (hkn : k ≤ n) (hn : n ≤ 255) (v : Value) (hs : List (Int × List B)) (hv : HeldAt w v hs) (hl : hs.length ≤ 1000) (hwb : (hs.getD 0 (0, [])).2.length ≤ 1000) :
    Calls Tryz.prog 14 #[.pointer (some ⟨b, 0, none⟩), v] w fun e w' => ∃ v, e = .returned (.tuple #[v, .int .i64 (decE n k hs)]) ∧ RowsAt w' v (decR n k hs) ∧ Below w.heap.size w w' := by
  refine (rdecode_any w hc hk hkn hn v hs _ hv (by omega) rfl (by omega)).mono ?_
  rintro e w' ⟨v', rfl, h1, h2, hB⟩
  refine ⟨v', rfl, ?_, hB⟩
  unfold decR
  by_cases h0 : decE n k hs = 0
  · rw [if_pos h0]; exact h1 h0
  · rw [if_neg h0, h2 h0]; exact RowsAt.nil _
theorem turn_all (w : World) {bc n k bf : Nat} {vt : Value} (hc : CoderAt w bc n k bf vt) (v : Value) (xs : List Int) (hv : IntsAt w v xs) (hl : xs.length ≤ 1000) :
    Calls Tryz.prog 16 #[.pointer (some ⟨bc, 0, none⟩), v] w fun e w' => ∃ v, e = .returned (.tuple #[v, .int .i64 (askE n k xs)]) ∧ RowsLone w' w.heap.size v (turnR n k xs) ∧ Below w.heap.size w w' := by
  by_cases h0 : askE n k xs = 0
  · have hok := askE_zero h0
    refine (turn_any w hc v xs hv (by omega) hok).mono ?_
    rintro e w' ⟨gm, U, rfl, hM, hU, hB⟩
    refine ⟨_, by rw [h0], ?_, hB⟩
    unfold turnR
    rw [if_pos h0]
    exact matW_lone hM (by rw [idxB_len, List.length_take]; have := hok.len; omega) (by have := hc.kn; have := hc.n255; omega) hU
  · refine (turn_bad w hc v xs hv (by omega) h0).mono ?_
    rintro e w' ⟨rfl, hB⟩
    refine ⟨_, rfl, ?_, hB⟩
    unfold turnR
    rw [if_neg h0]
    exact RowsLone.nil _ _
theorem rturn_all (w : World) {b n k : Nat} (hc : RCoderAt w b n k) (hk : 1 ≤ k) (hkn : k ≤ n) (hn : n ≤ 255) (v : Value) (xs : List Int) (hv : IntsAt w v xs) (hl : xs.length ≤ 1000) :
    Calls Tryz.prog 17 #[.pointer (some ⟨b, 0, none⟩), v] w fun e w' => ∃ v, e = .returned (.tuple #[v, .int .i64 (askE n k xs)]) ∧ RowsAt w' v (turnR n k xs) ∧ Below w.heap.size w w' := by
  refine (rturn_any w hc hk hkn hn v xs hv (by omega)).mono ?_
  rintro e w' ⟨v', rfl, h1, h2, hB⟩
  refine ⟨v', rfl, ?_, hB⟩
  unfold turnR
  by_cases h0 : askE n k xs = 0
  · rw [if_pos h0]; exact h1 h0
  · rw [if_neg h0, h2 h0]; exact RowsAt.nil _

/-- The headers of rows that are lent, in a slice of their own. -/
theorem LentHeld.rowsU {w W : World} {base : Nat} {v v2 : Value} {hs : List (Int × List B)} {ul : List Value} (h : LentHeld W base v hs ul) (hl : hs.length ≤ 300) (hw : ∀ i, i < hs.length → (hs.getD i (0, [])).2.length ≤ 1000) (ho : W.ownsRow w.heap.size 51 1 v2 hs.length ul) (hb : base ≤ w.heap.size) (hsz : ∀ (i : Nat) (u : Value), ul[i]? = some u → ∀ b, u.ownBlock = some b → b < w.heap.size) : LentRowsAt W base v2 (hRow hs) ∧ GroupAt W base v2 ul := by
  obtain ⟨⟨us, ho2, hp⟩, hr, hi⟩ := h
  have mem : ∀ u ∈ ul, ∃ i, i < hs.length ∧ ul[i]? = some u := fun u hu => by
    obtain ⟨i, hi, e⟩ := List.mem_iff_getElem.1 hu
    exact ⟨i, by rw [← hp.1]; exact hi, by rw [List.getElem?_eq_getElem hi, e]⟩
  refine ⟨LentRowsAt.of_owns (us := ul) (b2 := w.heap.size) (by rw [hRow_len]; exact ho) (fun i u hu => ?_), ⟨by rw [hp.1]; exact ownsRow_weaken ho (Nat.zero_le _), fun u hu => ?_, hi, fun u hu b hb' e => ?_, fun b e => Nat.le_trans hb (ho.lt b e).1, fun u hu b e => ?_⟩⟩
  · have hlt : i < hs.length := by
      have := (List.getElem?_eq_some_iff.1 hu).1
      rw [hp.1] at this; exact this
    rw [hRow_get hlt]
    exact (hr i u hu).1
  · obtain ⟨i, hlt, e⟩ := mem u hu
    exact ⟨_, by have := hw i hlt; omega, (hr i u e).1.own.weaken (Nat.zero_le _)⟩
  · obtain ⟨i, hlt, e2⟩ := mem u hu
    have := hsz i u e2 b hb'
    have := (ho.lt b e).1
    omega
  · obtain ⟨i, hlt, e2⟩ := mem u hu
    exact ((hr i u e2).1.blk b e).1

theorem LentHeld.exact {W : World} {base n c : Nat} {p : Option Addr} {hs : List (Int × List B)} {ul : List Value} (h : LentHeld W base (.slice p n c) hs ul) (hn : hs.length = n) : ul.length = n ∧ (0 < n → ∃ g off, p = some ⟨g, off, none⟩ ∧ ∀ i, i < n → ∃ q k c, ul[i]? = some (.slice q k c) ∧ W.cell? ⟨g, off + i * 2 + 1, none⟩ = some (.slice q k c)) := by
  obtain ⟨⟨us, ho, hp⟩, hr, hi⟩ := h
  refine ⟨by rw [← hn]; exact hp.1, fun h0 => ?_⟩
  obtain ⟨p', cap, e1, e2, e3⟩ := pair_cells ho hp
  obtain ⟨g, a, b⟩ := e3 (by omega)
  simp only [Value.slice.injEq] at e1
  refine ⟨g, 0, e1.1.trans a, fun i hi => ?_⟩
  obtain ⟨x, u, y, z⟩ := b i (by omega)
  obtain ⟨g', c', rfl, _⟩ := (hr i u y).1
  exact ⟨_, _, _, y, z⟩

theorem codeDec_far (w : World) (n k : Int) (v v2 : Value) (h1 : 16 < n) :
    Calls Tryz.prog 3 #[.int .i64 n, .int .i64 k, v, v2] w fun e w' => e = .returned (.bool true) ∧ Below w.heap.size w w' := by
  go_enter Tryz.func3, Tryz.ntmps3
  go_wp2_with fail
  refine (awake_any w).mono ?_
  rintro e w' ⟨rfl, hB⟩
  go_wp2
  go_ret
  exact ⟨rfl, hB⟩

theorem codeDec_low (w : World) (n k : Int) (v v2 : Value) (hs : List (Int × List B)) (xs : List Int) (hv : HeldAt w v hs) (hv2 : IntsAt w v2 xs) (hl : hs.length ≤ 4500000000000) (hr : ∀ i, i < hs.length → (hs.getD i (0, [])).2.length ≤ 140737488355328) (hn0 : n ≤ 16) :
    Calls Tryz.prog 3 #[.int .i64 n, .int .i64 k, v, v2] w fun e w' => e = .returned (.bool true) ∧ Below w.heap.size w w' := by
  have HV := Lib.hid hv
  have HX := Lib.hid hv2
  have HR := Lib.hid hr
  obtain ⟨pv, cv, rfl, _⟩ := hv
  obtain ⟨px, cx, rfl, hcx, _⟩ := hv2
  clear hr
  go_enter Tryz.func3, Tryz.ntmps3
  go_wp2_with fail
  refine (bytesOf_any w _ hs HV.out hl).mono ?_
  rintro e w0 ⟨vq, rfl, hq, hB0⟩
  have HQ := Lib.hid (hq.rows hB0)
  have HB0 := Lib.hid hB0
  clear hq hB0
  go_wp2_with fail
  refine (size_any w0 _ (hRow hs) HQ.out (by rw [hRow_len]; omega) (fun i hi => by rw [hRow_len] at hi; rw [hRow_get hi]; exact HR.out i hi)).mono ?_
  rintro e w' ⟨z, rfl, hzb, hz9, rfl⟩
  by_cases hz : z ≤ 160
  rotate_left
  · have hz' : ¬ (z : Int) ≤ 160 := by omega
    have hz2 : (160 : Int) < z := by omega
    clear hzb
    go_wp2_with fail
    refine (awake_any w0).mono ?_
    rintro e w' ⟨rfl, hB⟩
    have HB9 := Lib.hid (bb HB0.out hB)
    clear hB
    go_wp2
    go_ret
    exact ⟨rfl, HB9.out⟩
  obtain ⟨hll, hlr⟩ := hzb hz
  have hz' : (z : Int) ≤ 160 := by omega
  rw [hRow_len] at hll hlr
  have HLR := Lib.hid (show ∀ i, i < hs.length → (hs.getD i (0, [])).2.length ≤ 1000 from fun i hi => by have := hlr i hi; rw [hRow_get hi] at this; omega)
  clear hzb hlr
  by_cases hxl : xs.length ≤ 160
  rotate_left
  · have hx' : ¬ (xs.length : Int) ≤ 160 := by omega
    have hx2 : (160 : Int) < xs.length := by omega
    go_wp2_with fail
    refine (awake_any w0).mono ?_
    rintro e w' ⟨rfl, hB⟩
    have HB9 := Lib.hid (bb HB0.out hB)
    clear hB
    go_wp2
    go_ret
    exact ⟨rfl, HB9.out⟩
  have hx' : (xs.length : Int) ≤ 160 := by omega
  by_cases hbad : k < 1 ∨ n < k ∨ 255 < n
  · have HBAD := Lib.hid hbad
    clear hbad
    go_wp2_with fail
    refine (cnew_bad w0 n k HBAD.out).mono ?_
    rintro e w' ⟨rfl, rfl⟩
    go_wp2_with fail
    refine (rnew_bad w0 n k HBAD.out).mono ?_
    rintro e w' ⟨rfl, rfl⟩
    go_wp2_with fail
    refine (awake_any w0).mono ?_
    rintro e w' ⟨rfl, hB⟩
    have HB9 := Lib.hid (bb HB0.out hB)
    clear hB
    go_wp2
    go_ret
    exact ⟨rfl, HB9.out⟩
  have hk1 : 1 ≤ k := by omega
  have hkn : k ≤ n := by omega
  obtain ⟨n, rfl⟩ := Int.eq_ofNat_of_zero_le (show 0 ≤ n by omega)
  obtain ⟨k, rfl⟩ := Int.eq_ofNat_of_zero_le (show 0 ≤ k by omega)
  clear hbad
  have hk1' : 1 ≤ k := by omega
  have hkn' : k ≤ n := by omega
  have hn' : n ≤ 255 := by omega
  have hn16 : n ≤ 16 := by omega
  have HW0 := Lib.hid (show (hs.getD 0 (0, [])).2.length ≤ 1000 from by
    by_cases e : 0 < hs.length
    · exact HLR.out 0 e
    · obtain rfl : hs = [] := List.eq_nil_of_length_eq_zero (by omega)
      simp)
  go_wp2_with fail
  refine (cnew_any w0 n k hk1' hkn' hn').mono ?_
  rintro e w1 ⟨bc, bf, vt, rfl, hc, hB1⟩
  have HC := Lib.hid hc
  have HB1 := Lib.hid (bb HB0.out hB1)
  clear hc hB1
  go_wp2_with fail
  refine (rnew_any w1 n k hk1' hkn' hn').mono ?_
  rintro e w2 ⟨br, rfl, hrc, hB2⟩
  have HRC := Lib.hid hrc
  have HC2 := Lib.hid (HC.out.below hB2)
  have HB2 := Lib.hid (bb HB1.out hB2)
  have HV2 := Lib.hid (HV.out.below HB2.out)
  have HX2 := Lib.hid (HX.out.kept (Kept.below HB2.out) (fun _ _ h => h))
  clear hrc hB2
  go_wp2_with fail
  refine (lent_any w2 _ hs HV2.out (by omega) HLR.out).mono ?_
  rintro e w3 ⟨vin, ul, rfl, hin, hB3⟩
  have HIN := Lib.hid hin
  have HB3 := Lib.hid hB3
  obtain ⟨pin, cin, rfl, _⟩ := hin.held
  have HULB := Lib.hid (show ∀ i u, ul[i]? = some u → ∀ b, u.ownBlock = some b → w2.heap.size ≤ b ∧ b < w3.heap.size from fun i u hu b hb => ((hin.2.1 i u hu).1.blk b hb))
  have HC3 := Lib.hid (HC2.out.below hB3)
  have HRC3 := Lib.hid (HRC.out.below hB3)
  have HX3 := Lib.hid (HX2.out.kept (Kept.below hB3) (fun _ _ h => h))
  clear hin hB3
  go_wp2_with fail
  refine (lentI_any w3 _ xs HX3.out (by omega)).mono ?_
  rintro e w4 ⟨vi, rfl, hi4, hB4⟩
  have HI := Lib.hid hi4
  have HB4 := Lib.hid hB4
  obtain ⟨gi, ci, rfl, _⟩ := hi4.cells
  have HC4 := Lib.hid (HC3.out.below hB4)
  have HRC4 := Lib.hid (HRC3.out.below hB4)
  have HIN4 := Lib.hid (HIN.out.below hB4)
  clear hi4 hB4
  go_wp2_with fail
  refine (decode_all w4 HC4.out _ hs HIN4.out.held (by omega) HW0.out).mono ?_
  rintro e w5 ⟨va, rfl, ha, hB5⟩
  obtain ⟨us1, hu1, hg1⟩ := ha.group (fun i hi => by have := decR_wide HW0.out i hi; omega)
  have HA := Lib.hid ha
  have HG1 := Lib.hid hg1
  have HU1 := Lib.hid hu1
  have HB5 := Lib.hid hB5
  obtain ⟨pa, ca, rfl⟩ := ha.rows.shape
  have HC5 := Lib.hid (HC4.out.below hB5)
  have HRC5 := Lib.hid (HRC4.out.below hB5)
  have HV5 := Lib.hid (HV2.out.below (bb (bb HB3.out HB4.out) hB5))
  clear ha hg1 hu1 hB5
  obtain ⟨E, hE⟩ : ∃ E, decE n k hs = E := ⟨_, rfl⟩
  rw [hE]
  have HE := Lib.hid hE
  clear hE
  go_wp2_with fail
  refine (theirs_any w5 _ hs HV5.out (by omega)).mono ?_
  rintro e w6 ⟨vt6, rfl, ht6, hB6⟩
  have HT6 := Lib.hid ht6
  have HB6 := Lib.hid hB6
  obtain ⟨pt6, ct6, rfl, _⟩ := ht6
  have HRC6 := Lib.hid (HRC5.out.below hB6)
  clear hB6
  go_wp2_with fail
  refine (rdecode_all w6 HRC6.out hk1' hkn' hn' _ hs HT6.out (by omega) HW0.out).mono ?_
  rintro e w7 ⟨vb, rfl, hb, hB7⟩
  have HBV := Lib.hid hb
  have HB57 := Lib.hid (bb HB6.out hB7)
  obtain ⟨pb, cb, rfl⟩ := hb.shape
  have HC7 := Lib.hid (HC5.out.below HB57.out)
  have HRC7 := Lib.hid (HRC6.out.below hB7)
  have HI7 := Lib.hid (HI.out.below (bb HB5.out HB57.out))
  have HX7 := Lib.hid (HX3.out.kept (Kept.below (bb (bb HB4.out HB5.out) HB57.out)) (fun _ _ h => h))
  clear hb hB7
  rw [HE.out]
  go_wp2_with fail
  refine (turn_all w7 HC7.out _ xs HI7.out.ints (by omega)).mono ?_
  rintro e w8 ⟨vx, rfl, hx, hB8⟩
  obtain ⟨us2, hu2, hg2⟩ := hx.group (fun i hi => by have := turnR_wide i hi; omega)
  have HXX := Lib.hid hx
  have HG2 := Lib.hid hg2
  have HU2 := Lib.hid hu2
  have HB8 := Lib.hid hB8
  obtain ⟨pxx, cxx, rfl⟩ := hx.rows.shape
  have HRC8 := Lib.hid (HRC7.out.below hB8)
  have HX8 := Lib.hid (HX7.out.kept (Kept.below hB8) (fun _ _ h => h))
  clear hx hg2 hu2 hB8
  obtain ⟨I, hI⟩ : ∃ I, askE n k xs = I := ⟨_, rfl⟩
  rw [hI]
  have HII := Lib.hid hI
  clear hI
  go_wp2_with fail
  refine (rturn_all w8 HRC8.out hk1' hkn' hn' _ xs HX8.out (by omega)).mono ?_
  rintro e w9 ⟨vy, rfl, hy, hB9⟩
  have HY := Lib.hid hy
  have HB9 := Lib.hid hB9
  obtain ⟨py, cy, rfl⟩ := hy.shape
  clear hy hB9
  rw [HII.out]
  have HB79 := Lib.hid (bb HB8.out HB9.out)
  have HB59 := Lib.hid (bb HB57.out HB79.out)
  go_wp2_with fail
  refine (sameRows_any w9 _ _ (decR n k hs) (HA.out.rows.below HB59.out) (HBV.out.below HB79.out) (by have := decR_len (n := n) (k := k) (hs := hs); omega) (fun i hi => by have := decR_wide HW0.out i hi; omega)).mono ?_
  rintro e wz ⟨rfl, q8, rfl⟩
  have HXX8 := Lib.hid (show RowsAt (w9.drewN q8) (.slice pxx (turnR n k xs).length cxx) (turnR n k xs) from HXX.out.rows.below (belowDr HB9.out q8))
  have HY8 := Lib.hid (show RowsAt (w9.drewN q8) (.slice py (turnR n k xs).length cy) (turnR n k xs) from HY.out)
  have HW := Lib.hid (show Below w9.heap.size w9 (w9.drewN q8) from belowDr (Below.refl _ _) q8)
  go_wp2_with fail
  generalize w9.drewN q8 = wa at *
  refine (sameRows_any wa _ _ (turnR n k xs) HXX8.out HY8.out (by have := turnR_len (n := n) (k := k) (xs := xs); omega) (fun i hi => by have := turnR_wide i hi; omega)).mono ?_
  rintro e wz ⟨rfl, q9, rfl⟩
  have HWb := Lib.hid (show Below w9.heap.size w9 (wa.drewN q9) from belowDr HW.out q9)
  go_wp2_with fail
  generalize wa.drewN q9 = wb at *
  have HB3b := Lib.hid (show Below w3.heap.size w3 wb from bb (bb HB4.out HB5.out) (bb HB59.out HWb.out))
  have HINb := Lib.hid (HIN.out.below HB3b.out)
  have HIb := Lib.hid (HI.out.below (bb HB5.out (bb HB59.out HWb.out)))
  have HXb := Lib.hid (HX8.out.kept (Kept.below (bb HB9.out HWb.out)) (fun _ _ h => h))
  have HVb := Lib.hid (HV5.out.below (bb HB59.out HWb.out))
  have HG1b := Lib.hid (HG1.out.below (bb HB59.out HWb.out))
  have HG2b := Lib.hid (HG2.out.below (bb HB9.out HWb.out))
  have HBb := Lib.hid (show Below w.heap.size w wb from bb HB2.out (bb HB3.out HB3b.out))
  have HSb := Lib.hid (show w2.heap.size ≤ w3.heap.size ∧ w3.heap.size ≤ w4.heap.size ∧ w4.heap.size ≤ w5.heap.size ∧ w5.heap.size ≤ w7.heap.size ∧ w7.heap.size ≤ w8.heap.size ∧ w8.heap.size ≤ wb.heap.size from ⟨HB3.out.size, HB4.out.size, HB5.out.size, HB57.out.size, HB8.out.size, (bb HB9.out HWb.out).size⟩)
  have HEX := HINb.out.exact rfl
  refine (bytesOf_exact wb pin hs.length cin ul HEX.1 (by omega) HEX.2).mono ?_
  rintro e wc ⟨v1, rfl, hv1, hBc⟩
  have HV1 := Lib.hid hv1
  have HBc := Lib.hid hBc
  have HINc := Lib.hid (HINb.out.below hBc)
  have HVc := Lib.hid (HVb.out.below hBc)
  clear hv1 hBc HEX
  go_wp2_with fail
  refine (bytesOf_any wc _ hs HVc.out (by omega)).mono ?_
  rintro e wd ⟨v2, rfl, hv2, hBd⟩
  have HV2 := Lib.hid (hv2.rows hBd)
  have HBd := Lib.hid hBd
  have HLR1 := Lib.hid ((HINc.out.below hBd).rowsU (w := wb) (v2 := v1) (by omega) HLR.out (ownsRow_keptS HV1.out (Kept.below hBd) (fun _ _ h => h)) (by have := HSb.out; omega) (fun i u hu b hb => by have := (HULB.out i u hu b hb).2; have := HSb.out; omega)).1
  have HINd := Lib.hid (HINc.out.below hBd)
  have HBbd := Lib.hid (bb HBc.out hBd)
  clear hv2 hBd
  go_wp2_with fail
  refine (keptR_any wd _ _ (hRow hs) w2.heap.size HLR1.out HV2.out (by rw [hRow_len]; omega) (fun i hi => by rw [hRow_len] at hi; rw [hRow_get hi]; have := HLR.out i hi; omega)).mono ?_
  rintro e wz ⟨rfl, q10, rfl⟩
  have HBbe := Lib.hid (show Below wb.heap.size wb (wd.drewN q10) from belowDr HBbd.out q10)
  go_wp2_with fail
  generalize wd.drewN q10 = we at *
  refine (keptI_any we _ _ xs w3.heap.size (HIb.out.below HBbe.out) (HXb.out.kept (Kept.below HBbe.out) (fun _ _ h => h)) (by omega)).mono ?_
  rintro e wz ⟨rfl, q11, rfl⟩
  have HBbf := Lib.hid (show Below wb.heap.size wb (we.drewN q11) from belowDr HBbe.out q11)
  go_wp2_with fail
  generalize we.drewN q11 = wf at *
  have HINf := Lib.hid (HINb.out.below HBbf.out)
  have HEX := HINf.out.exact rfl
  refine (bytesOf_exact wf pin hs.length cin ul HEX.1 (by omega) HEX.2).mono ?_
  rintro e wg ⟨v3, rfl, hv3, hBg⟩
  have HV3 := Lib.hid hv3
  have HBg := Lib.hid hBg
  have HBbg := Lib.hid (bb HBbf.out hBg)
  have HLB3 := Lib.hid ((HINf.out.below hBg).rowsU (w := wf) (v2 := v3) (by omega) HLR.out hv3 (by have := HSb.out; have := HBbf.out.size; omega) (fun i u hu b hb => by have := (HULB.out i u hu b hb).2; have := HSb.out; have := HBbf.out.size; omega)).2
  have HG1g := Lib.hid (HG1b.out.below HBbg.out)
  have HG2g := Lib.hid (HG2b.out.below HBbg.out)
  obtain ⟨p3, c3, rfl⟩ : ∃ p c, v3 = .slice p hs.length c := by
    rcases hv3.2 with ⟨rfl, hz⟩ | ⟨g, cap, cur, rfl, _⟩
    · exact ⟨none, 0, by rw [hz]⟩
    · exact ⟨_, cap, rfl⟩
  have HIV := Lib.hid (show ∀ b, ((Value.slice p3 hs.length c3).ownBlock = some b ∨ ∃ u ∈ ul, u.ownBlock = some b) → (w2.heap.size ≤ b ∧ b < w3.heap.size) ∨ (wb.heap.size ≤ b ∧ b < wg.heap.size) from by
    rintro b (e | ⟨u, hu, e⟩)
    · exact .inr ⟨Nat.le_trans HBbf.out.size (HV3.out.lt b e).1, (HV3.out.lt b e).2⟩
    · obtain ⟨i, hi, e2⟩ := List.mem_iff_getElem.1 hu
      exact .inl (HULB.out i u (by rw [List.getElem?_eq_getElem hi, e2]) b e))
  have HULN := Lib.hid HEX.1
  clear hv3 hBg HEX
  go_wp2_with fail
  refine (apart3_any wg w2.heap.size w4.heap.size w7.heap.size w2.heap.size wg.heap.size _ _ _ ul us1 us2 HLB3.out HG1g.out HG2g.out
    (fun b h1 h2 => by
      have g1 := HIV.out b h1
      have g2 := HG1.out.top b h2
      have := HSb.out
      omega)
    (fun b h1 h2 => by
      have g1 := HIV.out b h1
      have g2 := HG2.out.top b h2
      have := HSb.out
      omega)
    (fun b h1 h2 => by
      have g1 := HG1.out.top b h1
      have g2 := HG2.out.top b h2
      have := HSb.out
      omega)
    (Nat.le_refl _) (by have := HSb.out; omega) (by have := HSb.out; omega) (by have := HSb.out; have := HBbg.out.size; omega) (by rw [HULN.out]; omega) (by rw [HU1.out]; have := decR_len (n := n) (k := k) (hs := hs); omega) (by rw [HU2.out]; have := turnR_len (n := n) (k := k) (xs := xs); omega) rfl).mono ?_
  rintro e wh ⟨rfl, hBh⟩
  have HBh := Lib.hid (show Below w.heap.size w wh from (HBb.out.trans (show Below w.heap.size wb wg from ⟨HBbg.out.os, HBbg.out.tape, HBbg.out.output, HBbg.out.size, fun i hi => HBbg.out.block i (by have := HBb.out.size; omega)⟩)).trans ⟨hBh.os, hBh.tape, hBh.output, hBh.size, fun i hi => hBh.block i (by have := HB2.out.size; omega)⟩)
  clear hBh
  go_wp2_with fail
  refine (awake_any wh).mono ?_
  rintro e wk ⟨rfl, hBk⟩
  have HBk := Lib.hid (bb HBh.out hBk)
  clear hBk
  go_wp2
  go_ret
  exact ⟨rfl, HBk.out⟩

theorem codeDec_any (w : World) (n k : Int) (v v2 : Value) (hs : List (Int × List B)) (xs : List Int) (hv : HeldAt w v hs) (hv2 : IntsAt w v2 xs) (hl : hs.length ≤ 4500000000000) (hr : ∀ i, i < hs.length → (hs.getD i (0, [])).2.length ≤ 140737488355328) :
    Calls Tryz.prog 3 #[.int .i64 n, .int .i64 k, v, v2] w fun e w' => e = .returned (.bool true) ∧ Below w.heap.size w w' := by
  by_cases h1 : n ≤ 16
  · exact codeDec_low w n k v v2 hs xs hv hv2 hl hr h1
  · exact codeDec_far w n k v v2 (by omega)
end -- DecC

end Go.Proofs.YtaaahbpeaamjgaaGreat
