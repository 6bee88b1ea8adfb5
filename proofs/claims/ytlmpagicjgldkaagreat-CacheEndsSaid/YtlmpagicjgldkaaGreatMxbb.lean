/-
  DecA: Held symbols that are lent: lent, theirs.
  DecB: Held symbols as the reference's; their rows, header by header.
-/
import Derived.Test.YtlmpagicjgldkaaGreatRefO
import Derived.Test.YtlmpagicjgldkaaGreatMxam
namespace Go.Proofs.YtlmpagicjgldkaaGreat

section -- DecA
open Go.RowKit Go.Maps
set_option linter.unusedVariables false
set_option maxRecDepth 100000
set_option maxHeartbeats 8000000

/-- Append of one element of two cells, within a region. -/
theorem step_app2 {ops : Array Oper} {o : Oper} {a : Act} {W : World} {K : Act → World → Prop} {Q : Exit → Act → World → Prop} {E : Prop} (t e : TypeId) (bytes : Nat) (z : Value) (ht : Tryz.prog.underlying t = some (.slice e))
    (hinfo : (Tryz.prog.info? e).map (fun i => (i.zero, i.size, i.bytes)) = some (some z, 2, bytes)) (hzs : z.cells.size = 2) (hby : bytes ≤ 64)
    (hgd : o.guard = none) (s x : Operand) (ho : o.op = .call { callee := .builtin .append, args := #[s, x], argTypes := #[t, t] })
    (base n : Nat) (v : Value) (us : List Value) (hs : a.eval s = v) (hown : W.ownsRow base e 2 v n us) (g : Nat) (u1 u2 : Value) (h1 : u1.oneCell' = true) (h2 : u2.oneCell' = true)
    (hx : a.eval x = .slice (some ⟨g, 0, none⟩) 1 1) (hc1 : W.cell? ⟨g, 0, none⟩ = some u1) (hc2 : W.cell? ⟨g, 1, none⟩ = some u2) (hn : n < 1000000000000) (hbase : base ≤ W.heap.size)
    (h : ∀ g' c' w', w'.ownsRow base e 2 (.slice (some ⟨g', 0, none⟩) (n + 1) c') (n + 1) (us ++ [u1, u2]) → Kept (fun k => v.ownBlock = some k) W w' → (v.ownBlock = some g' ∨ W.heap.size ≤ g') →
      K (a.put o.dst (.slice (some ⟨g', 0, none⟩) (n + 1) c')) w') :
    if Region.wanted o (yielded ops a.tmps) = true then Oper.wp Tryz.prog o a W K Q else E := by
  have hw : Region.wanted o (yielded ops a.tmps) = true := by simp [Region.wanted, hgd]
  rw [if_pos hw]
  obtain ⟨i, hi, hz, hsize, hbytes⟩ := info_parts hinfo
  rw [← hsize] at hown
  obtain ⟨g', c', w', hr, h3, h4, h5⟩ := run_app (P := Tryz.prog) (w := W) base t o.type e i z ht hi hz (by rw [hzs, hsize]) v n us hown g 0 1 1 [u1, u2] (by simp [hsize]) (by omega) (fun j y hj => by
      rw [add_off]
      cases j with
      | zero => rw [← (by simpa using hj : u1 = y)]; simpa using hc1
      | succ j =>
        cases j with
        | zero => rw [← (by simpa using hj : u2 = y)]; simpa using hc2
        | succ j => simp at hj) (fun y hy => by
      rcases List.mem_cons.1 hy with rfl | hy
      · exact h1
      · rw [List.mem_singleton] at hy; subst hy; exact h2) (by omega) (by rw [hbytes]; have := Nat.mul_le_mul_left (n + 1) hby; omega) hbase
  rw [hsize] at h3
  have h6 := h g' c' w' h3 h4 h5
  unfold Oper.wp execOp
  simp only [ho, resolve, invoke, builtin, Sem.run_bind, Sem.run_pure, Result.andThen_ok, List.map_toArray, List.map_cons, List.map_nil, hs, hx, hr]
  exact h6

/-- Pairs of numbers and headers, cell by cell. -/
def PairsU (hs : List (Int × List B)) (ul us : List Value) : Prop := ul.length = hs.length ∧ ∀ i, i < hs.length → us[i * 2]? = some (.int .i64 (hs.getD i (0, [])).1) ∧ us[i * 2 + 1]? = ul[i]?
theorem PairsU.snoc {hs : List (Int × List B)} {ul us : List Value} {m : Nat} {ix : Int} {u : Value} (hm : m < hs.length) (h : PairsU (hs.take m) ul us) (hul : us.length = m * 2) (hix : (hs.getD m (0, [])).1 = ix) : PairsU (hs.take (m + 1)) (ul ++ [u]) (us ++ [.int .i64 ix, u]) := by
  obtain ⟨h1, h2⟩ := h
  have hl : (hs.take m).length = m := by rw [List.length_take]; omega
  rw [hl] at h1 h2
  refine ⟨by simp [h1]; omega, fun i hi => ?_⟩
  rw [List.length_take, Nat.min_eq_left (by omega)] at hi
  rw [getD_take (by omega)]
  by_cases e : i < m
  · have := h2 i e
    rw [getD_take e] at this
    rw [List.getElem?_append_left (by omega), List.getElem?_append_left (by omega), List.getElem?_append_left (by omega)]
    exact this
  · obtain rfl : i = m := by omega
    rw [List.getElem?_append_right (by omega), List.getElem?_append_right (by omega), List.getElem?_append_right (by omega), hul, h1, hix]
    simp

theorem infoH2 : (Tryz.prog.info? 78).map (fun i => (i.zero, i.size, i.bytes)) = some (some (.agg #[.int .i64 0, .slice none 0 0]), 2, 32) := by kernel_rfl
theorem infoH3 : (Tryz.prog.info? 83).map (fun i => (i.zero, i.size, i.bytes)) = some (some (.agg #[.int .i64 0, .slice none 0 0]), 2, 32) := by kernel_rfl
end -- DecA

section -- DecB
open Go.RowKit Go.Maps
set_option linter.unusedVariables false
set_option maxRecDepth 100000
set_option maxHeartbeats 8000000

theorem pair_cells {W : World} {base : Nat} {e : TypeId} {v : Value} {hs : List (Int × List B)} {us ul : List Value} (ho : W.ownsRow base e 2 v hs.length us) (hp : PairsU hs ul us) : ∃ p cap, v = .slice p hs.length cap ∧ hs.length ≤ cap ∧ (0 < hs.length → ∃ g, p = some ⟨g, 0, none⟩ ∧ ∀ i, i < hs.length →
    W.cell? ⟨g, 0 + i * 2, none⟩ = some (.int .i64 (hs.getD i (0, [])).1) ∧ ∃ u, ul[i]? = some u ∧ W.cell? ⟨g, 0 + i * 2 + 1, none⟩ = some u) := by
  obtain ⟨h0, h1⟩ := ho
  rcases h1 with ⟨rfl, hz⟩ | ⟨g, cap, cur, rfl, h2, h3, h4, h5, h6, h7⟩
  · exact ⟨none, 0, by rw [hz], by omega, fun h => by omega⟩
  · refine ⟨_, cap, rfl, h4, fun hl => ⟨g, rfl, fun i hi => ?_⟩⟩
    obtain ⟨a, b⟩ := hp.2 i hi
    have hlu : i < ul.length := by rw [hp.1]; exact hi
    have hu : ul[i]? = some ul[i] := List.getElem?_eq_getElem hlu
    refine ⟨?_, _, hu, ?_⟩
    · rw [← h7, List.getElem?_take, if_pos (by omega), Array.getElem?_toList] at a
      rw [Nat.zero_add, cell_of h3, a]
    · rw [hu, ← h7, List.getElem?_take, if_pos (by omega), Array.getElem?_toList] at b
      rw [Nat.zero_add, cell_of h3, b]
theorem held_of {W : World} {base : Nat} {e : TypeId} {v : Value} {hs : List (Int × List B)} {us ul : List Value} (ho : W.ownsRow base e 2 v hs.length us) (hp : PairsU hs ul us) (hb : ∀ i u, ul[i]? = some u → BytesAt W u (hs.getD i (0, [])).2) : HeldAt W v hs := by
  obtain ⟨p, cap, e1, e2, e3⟩ := pair_cells ho hp
  refine ⟨p, cap, e1, e2, fun h0 => ?_⟩
  obtain ⟨g, a, b⟩ := e3 h0
  refine ⟨g, 0, a, fun i hi => ?_⟩
  obtain ⟨x, u, y, z⟩ := b i hi
  exact ⟨x, u, z, hb i u y⟩
theorem theirs_any (w : World) (v : Value) (hs : List (Int × List B)) (hv : HeldAt w v hs) (hl : hs.length ≤ 1000) :
    Calls Tryz.prog 18 #[v] w fun e w' => ∃ v', e = .returned v' ∧ HeldAt w' v' hs ∧ Below w.heap.size w w' := by
  obtain ⟨p, cap, rfl, hcap, hh⟩ := hv
  have HH := Lib.hid hh
  obtain ⟨L, hL⟩ : ∃ L, hs.length = L := ⟨_, rfl⟩
  rw [hL] at HH hl hcap ⊢
  have HL := Lib.hid hL
  clear hh hL
  go_enter Tryz.func18, Tryz.ntmps18
  go_wp2
  go_loopw [3, 4] (fun v i wr => ∃ (m : Nat) (ul us : List Value), m ≤ L ∧ i = .int .i64 (m : Int) ∧ wr.ownsRow w.heap.size 83 2 v m us ∧ PairsU (hs.take m) ul us ∧ (∀ i u, ul[i]? = some u → BytesAt w u (hs.getD i (0, [])).2) ∧ Below w.heap.size w wr) (fun _ i _ => L - (intOf i).toNat)
  case atStart => exact ⟨0, [], [], Nat.zero_le _, rfl, World.ownsRow_nil _ _ _ _, ⟨rfl, fun i h => absurd h (by simp)⟩, fun i u h => by simp at h, Below.refl _ _⟩
  case round =>
    obtain ⟨m, ul, us, hm, rfl, ho, hp, hr, hB⟩ := hrel
    have HO := Lib.hid ho
    have HP := Lib.hid hp
    have HR := Lib.hid hr
    have HB := Lib.hid hB
    have hsr := hB.size
    have hul : us.length = m * 2 := ho.1
    by_cases hlt : m < L
    · obtain ⟨gh, oh, rfl, hc⟩ := HH.out (by omega)
      obtain ⟨x1, u, x2, x3⟩ := hc m hlt
      obtain ⟨pu, cu, rfl⟩ := x3.shape
      have lg := blt x1
      have y1 : wr.drew.cell? ⟨gh, oh + m * 2, none⟩ = some (.int .i64 (hs.getD m (0, [])).1) := (hB.cell (p := ⟨gh, oh + m * 2, none⟩) lg).trans x1
      have y2 : wr.drew.cell? ⟨gh, oh + m * 2 + 1, none⟩ = some (.slice pu (hs.getD m (0, [])).2.length cu) := (hB.cell (p := ⟨gh, oh + m * 2 + 1, none⟩) lg).trans x2
      have hml : (hs.take m).length = m := by rw [List.length_take, HL.out]; omega
      obtain ⟨ix, hix⟩ : ∃ ix, (hs.getD m (0, [])).1 = ix := ⟨_, rfl⟩
      obtain ⟨l, hl'⟩ : ∃ l, (hs.getD m (0, [])).2 = l := ⟨_, rfl⟩
      have HPS := Lib.hid (fun u => hp.snoc (u := u) (by rw [HL.out]; exact hlt) hul hix)
      rw [hix] at y1
      rw [hl'] at y2 x3
      have HX3 := Lib.hid x3
      have HLQ := Lib.hid hl'
      have HULL := Lib.hid (show ul.length = m by have := hp.1; rw [hml] at this; exact this)
      have lgw : gh < wr.drew.heap.size := Nat.lt_of_lt_of_le lg hsr
      have HBW := Lib.hid (belowDrew hB)
      have HO5 := Lib.hid (fun (x : Obj) => (show (wr.drew.alloc x).ownsRow w.heap.size 83 2 u3 m us from ownsRow_keptS (w := wr) ho ((Kept.refl (fun _ => False) wr).drew.trans (Kept.alloc (fun _ => False) wr.drew x) (fun _ _ h => h)) (fun _ _ h => h)))
      clear hc x1 x2 x3 ho hp hr hix hl' hB
      go_wp2_with fail
      go_region_held3 (fun w' => w'.cell? ⟨gh, oh + m * 2, none⟩ = some (.int .i64 ix) ∧ w'.cell? ⟨gh, oh + m * 2 + 1, none⟩ = some (.slice pu l.length cu))
        (first | with_reducible exact ⟨y1, y2⟩ | exact ⟨alloc_cell y1 _, alloc_cell y2 _⟩ | with_reducible exact ⟨t1, t2⟩)
        ((refine step_app2 48 83 32 (.agg #[.int .i64 0, .slice none 0 0]) Tryz.underlying48 infoH3 rfl (by decide) rfl _ _ rfl w.heap.size m _ us rfl (HO5.out _) wr.heap.size (.int .i64 ix) (.slice pu l.length cu) rfl rfl rfl (World.cell?_alloc_new wr.drew _ _ 0) (World.cell?_alloc_new wr.drew _ _ 1) (by omega) (Nat.le_trans hsr (Kept.alloc (fun _ => False) wr.drew _).size) ?_
          intro g8 c8 w8 hR8 hk8 hg8
          have HR8 := Lib.hid hR8
          have HK8 := Lib.hid hk8
          have t1 := (hk8.cell (p := ⟨gh, oh + m * 2, none⟩) (blt (alloc_cell y1 _)) (fun hb => by have := (HO.out.lt gh hb).1; omega)).trans (alloc_cell y1 _)
          have t2 := (hk8.cell (p := ⟨gh, oh + m * 2 + 1, none⟩) (blt (alloc_cell y1 _)) (fun hb => by have := (HO.out.lt gh hb).1; omega)).trans (alloc_cell y2 _)
          clear hR8 hk8 hg8))
      have HB8 := Lib.hid (show Below w.heap.size w w8 from (HBW.out.trans (Kept.toBelow (Kept.alloc (fun _ => False) wr.drew _) HBW.out.size (fun _ h => h.elim))).trans (HK8.out.toBelow (Nat.le_trans hsr (Kept.alloc (fun _ => False) wr.drew _).size) (fun i hi => (HO.out.lt i hi).1)))
      go_wp2
      go_roundw
      case rel =>
        refine ⟨m + 1, ul ++ [.slice pu l.length cu], _, by omega, by go_num, HR8.out, HPS.out _, fun i z hz => ?_, HB8.out⟩
        by_cases e : i < m
        · rw [List.getElem?_append_left (by rw [HULL.out]; exact e)] at hz
          exact HR.out i z hz
        · have hi : i = m := by
            have := (List.getElem?_eq_some_iff.1 hz).1
            simp [HULL.out] at this; omega
          subst hi
          rw [List.getElem?_append_right (by rw [HULL.out]; exact Nat.le_refl _), HULL.out, Nat.sub_self] at hz
          have hz2 : z = .slice pu l.length cu := by simpa using hz.symm
          rw [hz2, HLQ.out]
          exact HX3.out
      case measure => simp [intOf]; omega
    · obtain rfl : m = L := by omega
      have HTK := Lib.hid (show hs.take m = hs by rw [← HL.out, List.take_length])
      have HF := Lib.hid (show HeldAt wr u3 hs from by
        have h2 := HP.out
        rw [HTK.out] at h2
        exact held_of (by rw [HL.out]; exact HO.out) h2 (fun i u hu => (HR.out i u hu).below hB))
      clear ho hp hr hB
      go_wp2
      go_ret
      exact ⟨_, rfl, HF.out, HB.out⟩
end -- DecB

end Go.Proofs.YtlmpagicjgldkaaGreat
