/-
  GpH: Walks of layer 17: a group in memory; made, New.
  LayF: Layer 10, walks: the reference's Right.
-/
import Derived.Test.YtojbbmfndlcgkaaGreatMxbl
import Derived.Test.YtojbbmfndlcgkaaGreatMxax
namespace Go.Proofs.YtojbbmfndlcgkaaGreat

section -- GpH
open Go.RowKit Go.Maps
set_option linter.unusedVariables false
set_option linter.unusedSimpArgs false
set_option maxRecDepth 100000
set_option maxHeartbeats 4000000

/-- A group: its block b, its map's bm, its header, its rows' value, what it holds, the values of these. -/
structure GrpAt (w : World) (base b bm : Nat) (H : HeadV) (vr : Value) (hs : List (Int × List B)) (V : Int → Value) : Prop where
  blk : w.heap[b]? = some (.cells #[.map (some bm), .int .i64 H.stream, .int .i64 H.frame, .int .i64 0, .int .i64 H.n, .int .i64 H.deadline, vr, .int .i64 ((atT H.rows H.rows.length : Nat) : Int)] 56 (0, 0))
  ok : TableOk H.n H.rows
  tab : TableAt w vr H.rows
  map : MapI w bm (esV (hs.map (·.1)) V)
  rises : Rises hs
  rng : ∀ p ∈ hs, 0 ≤ p.1 ∧ p.1 < H.n
  wide : ∀ p ∈ hs, p.2.length = atT H.rows H.rows.length
  vals : ∀ p ∈ hs, Own w base (V p.1) p.2
  nb : b ≠ bm
  nr : vr.ownBlock ≠ some b ∧ vr.ownBlock ≠ some bm
  nv : ∀ p ∈ hs, ∀ k, (V p.1).ownBlock = some k → k ≠ b ∧ k ≠ bm
  lo : base ≤ b ∧ base ≤ bm ∧ ∀ k, vr.ownBlock = some k → base ≤ k
section
variable {w w' : World} {base b bm : Nat} {H : HeadV} {vr : Value} {hs : List (Int × List B)} {V : Int → Value}
theorem GrpAt.lt (h : GrpAt w base b bm H vr hs V) : b < w.heap.size := (Array.getElem?_eq_some_iff.1 h.blk).1
theorem GrpAt.below (h : GrpAt w base b bm H vr hs V) (hB : Below w.heap.size w w') : GrpAt w' base b bm H vr hs V :=
  ⟨(hB.block b h.lt).trans h.blk, h.ok, h.tab.below hB, h.map.below hB, h.rises, h.rng, h.wide, fun p hp => (h.vals p hp).below hB, h.nb, h.nr, h.nv, h.lo⟩
theorem GrpAt.c0 (h : GrpAt w base b bm H vr hs V) : w.cell? ⟨b, 0, none⟩ = some (.map (some bm)) := by rw [cell_of h.blk]; rfl
theorem GrpAt.c1 (h : GrpAt w base b bm H vr hs V) : w.cell? ⟨b, 1, none⟩ = some (.int .i64 H.stream) := by rw [cell_of h.blk]; rfl
theorem GrpAt.c2 (h : GrpAt w base b bm H vr hs V) : w.cell? ⟨b, 2, none⟩ = some (.int .i64 H.frame) := by rw [cell_of h.blk]; rfl
theorem GrpAt.c3 (h : GrpAt w base b bm H vr hs V) : w.cell? ⟨b, 3, none⟩ = some (.int .i64 0) := by rw [cell_of h.blk]; rfl
theorem GrpAt.c4 (h : GrpAt w base b bm H vr hs V) : w.cell? ⟨b, 4, none⟩ = some (.int .i64 H.n) := by rw [cell_of h.blk]; rfl
theorem GrpAt.c5 (h : GrpAt w base b bm H vr hs V) : w.cell? ⟨b, 5, none⟩ = some (.int .i64 H.deadline) := by rw [cell_of h.blk]; rfl
theorem GrpAt.c6 (h : GrpAt w base b bm H vr hs V) : w.cell? ⟨b, 6, none⟩ = some vr := by rw [cell_of h.blk]; rfl
theorem GrpAt.c7 (h : GrpAt w base b bm H vr hs V) : w.cell? ⟨b, 7, none⟩ = some (.int .i64 ((atT H.rows H.rows.length : Nat) : Int)) := by rw [cell_of h.blk]; rfl

/-- made. -/
theorem gmade_any (h : GrpAt w base b bm H vr hs V) :
    Calls Tryz.prog 22 #[.pointer (some ⟨b, 0, none⟩)] w fun e w' => e = .returned (.bool true) ∧ w = w' := by
  have c0 := h.c0
  clear h
  have e1 := fun (w : World) (m) => run_neq_map_nil (P := Tryz.prog) w 54 3 39 m Tryz.underlying54
  go_enter Tryz.func22, Tryz.ntmps22
  go_wp2
  go_ret
  exact ⟨rfl, rfl⟩
end

theorem gnew_bad (w : World) (h : HeadV) (v : Value) (hv : TableAt w v h.rows) (hd : ¬ HeadOk h) :
    Calls Tryz.prog 8 #[headVal h v] w fun e w' => e = .returned (.tuple #[.pointer none, .int .i64 2]) ∧ Below w.heap.size w w' := by
  have HV := Lib.hid hv
  have HB1 := Lib.hid (balI w (.cells #[.int .i64 h.stream, .int .i64 h.frame, .int .i64 h.index, .int .i64 h.n, .int .i64 h.deadline, v] 31))
  have hR := hright_any (w.alloc (.cells #[.int .i64 h.stream, .int .i64 h.frame, .int .i64 h.index, .int .i64 h.n, .int .i64 h.deadline, v] 31)) h v (hv.below HB1.out)
  rw [decide_eq_false hd] at hR
  have HR := Lib.hid hR
  clear hR hv
  obtain ⟨stream, frame, index, n, deadline, rows⟩ := h
  dsimp only at HR HB1
  go_enter Tryz.func8, Tryz.ntmps8
  go_wp2_with fail
  refine HR.out.mono ?_
  rintro e w2 ⟨rfl, hB2⟩
  have HB2 := Lib.hid (below_more HB1.out hB2 HB1.out.size)
  go_wp2
  go_ret2
  exact ⟨rfl, HB2.out⟩

theorem gnew_ok (w : World) (h : HeadV) (v : Value) (hv : TableAt w v h.rows) (hd : HeadOk h) :
    Calls Tryz.prog 8 #[headVal h v] w fun e w' => ∃ b bm vr, e = .returned (.tuple #[.pointer (some ⟨b, 0, none⟩), .int .i64 0]) ∧ GrpAt w' w.heap.size b bm h vr [] (fun _ => undef) ∧ Below w.heap.size w w' := by
  have HV := Lib.hid hv
  have HT := Lib.hid hd.1
  have HB1 := Lib.hid (balI w (.cells #[.int .i64 h.stream, .int .i64 h.frame, .int .i64 h.index, .int .i64 h.n, .int .i64 h.deadline, v] 31))
  have hR := hright_any (w.alloc (.cells #[.int .i64 h.stream, .int .i64 h.frame, .int .i64 h.index, .int .i64 h.n, .int .i64 h.deadline, v] 31)) h v (hv.below HB1.out)
  rw [decide_eq_true hd] at hR
  have HR := Lib.hid hR
  have HX := Lib.hid (HeadBox.new w h v)
  clear hR hv hd
  obtain ⟨stream, frame, index, n, deadline, rows⟩ := h
  dsimp only at HR HB1 HT HV HX
  go_enter Tryz.func8, Tryz.ntmps8
  go_wp2_with fail
  refine HR.out.mono ?_
  rintro e w2 ⟨rfl, hB2⟩
  have HB2 := Lib.hid (below_more HB1.out hB2 HB1.out.size)
  have HX2 := Lib.hid (HX.out.below hB2)
  clear hB2 HX
  have c3 := HX2.out.c3
  have c5 := HX2.out.c5
  dsimp only at c3 c5
  go_wp2_with fail
  refine (long_ok w2 n v rows (HV.out.below HB2.out) HT.out).mono ?_
  rintro e w3 ⟨rfl, hB3⟩
  have HB3 := Lib.hid (below_more HB2.out hB3 HB2.out.size)
  have HX3 := Lib.hid (HX2.out.below hB3)
  clear hB3 c3 c5
  have c5 := HX3.out.c5
  go_wp2_with fail
  refine (cloneT_any w3 v rows (HV.out.below HB3.out) (by have := HT.out.2.2.1; omega) (by have := HT.out.2.2.2.1; omega)).mono ?_
  rintro e w4 ⟨vr, rfl, hO, hB4⟩
  obtain ⟨pr, cr, rfl⟩ : ∃ p c, vr = .slice p rows.length c := by
    rcases hO.2 with ⟨e, hz⟩ | ⟨g, cap, cur, e, _⟩
    · exact ⟨none, 0, by rw [e, hz]⟩
    · exact ⟨_, cap, e⟩
  obtain ⟨M, hM⟩ : ∃ M, rows.length = M := ⟨_, rfl⟩
  have HM := Lib.hid hM
  obtain ⟨long, hlong⟩ : ∃ x, atT rows M = x := ⟨_, rfl⟩
  have HLONG := Lib.hid hlong
  rw [hM] at hO ⊢
  rw [hlong]
  clear hM hlong
  have HO4 := Lib.hid hO
  have HS3 := Lib.hid (show w.heap.size < w3.heap.size from by have := HX3.out.lt; exact this)
  have HB4 := Lib.hid (below_more HB3.out hB4 HB3.out.size)
  have HX4 := Lib.hid (HX3.out.below hB4)
  clear hB4 c5 hO
  have c0 := HX4.out.c0
  have c1 := HX4.out.c1
  have c2 := HX4.out.c2
  have c3 := HX4.out.c3
  have c4 := HX4.out.c4
  have c5 := HX4.out.c5
  have hfz : ∀ o, w4.frozen? ⟨w.heap.size, o, none⟩ = false := fun o => fz_of HX4.out o
  dsimp only at c0 c1 c2 c3 c4 c5
  have HX5 := Lib.hid (show HeadBox ((w4.setCell ⟨w.heap.size, 2, none⟩ (.int .i64 0)).setCell ⟨w.heap.size, 5, none⟩ (.slice pr M cr)) w.heap.size ⟨stream, frame, 0, n, deadline, rows⟩ (.slice pr M cr) from by
    have h1 := heap_set (i := 2) HX4.out (.int .i64 0)
    have h2 := heap_set (i := 5) h1 (.slice pr M cr)
    exact h2)
  obtain ⟨w5, hw5⟩ : ∃ x, (w4.setCell ⟨w.heap.size, 2, none⟩ (.int .i64 0)).setCell ⟨w.heap.size, 5, none⟩ (.slice pr M cr) = x := ⟨_, rfl⟩
  have HK5 := Lib.hid (show Kept (fun k => k = w.heap.size) w4 w5 from by
    rw [← hw5]
    exact (Kept.set1 _ _ _ _).trans (Kept.set1 _ _ _ _) (fun _ _ h => h))
  have HS5 := Lib.hid (show w5.heap.size = w4.heap.size from by rw [← hw5]; simp)
  rw [hw5] at HX5
  have hmm := @run_makeMap Tryz.prog
  have HX6 := Lib.hid (HX5.out.below (balI w5 (.map #[] 0)))
  have d0 := HX6.out.c0
  have d1 := HX6.out.c1
  have d2 := HX6.out.c2
  have d3 := HX6.out.c3
  have d4 := HX6.out.c4
  have d5 := HX6.out.c5
  dsimp only at d0 d1 d2 d3 d4 d5
  have HS45 := Lib.hid (show w.heap.size < w4.heap.size from HX4.out.lt)
  have HM7 := Lib.hid (MapI.made w5)
  have HB7 := Lib.hid (balI (w5.alloc (.map #[] 0)) (.cells #[.map (some w5.heap.size), .int .i64 stream, .int .i64 frame, .int .i64 0, .int .i64 n, .int .i64 deadline, .slice pr M cr, .int .i64 (long : Int)] 56))
  have HB67 := Lib.hid (below_more (balI w5 (.map #[] 0)) HB7.out (balI w5 (.map #[] 0)).size)
  have HB57 := Lib.hid (show Below w.heap.size w w5 from HB4.out.trans (HK5.out.toBelow HB4.out.size (fun k e => by omega)))
  have HTV := Lib.hid (show TableAt w4 (.slice pr M cr) rows from TableAt.of_owns (by rw [HM.out]; exact HO4.out))
  have HOB := Lib.hid (show ∀ k, (Value.slice pr M cr).ownBlock = some k → w3.heap.size ≤ k ∧ k < w4.heap.size from fun k hk => HO4.out.lt k hk)
  go_wp2
  go_ret2
  refine ⟨w5.heap.size + 1, w5.heap.size, .slice pr M cr, rfl, ⟨?_, HT.out, ?_, HM7.out.below HB7.out, List.Pairwise.nil, fun p hp => (by simp at hp), fun p hp => (by simp at hp), fun p hp => (by simp at hp), by omega, ?_, fun p hp => (by simp at hp), ?_⟩, below_more HB57.out HB67.out HB57.out.size⟩
  · have := heap_alloc_new (w5.alloc (.map #[] 0)) (.cells #[.map (some w5.heap.size), .int .i64 stream, .int .i64 frame, .int .i64 0, .int .i64 n, .int .i64 deadline, .slice pr M cr, .int .i64 (long : Int)] 56)
    rw [World.size_alloc] at this
    rw [HM.out, HLONG.out]
    exact this
  · refine TableAt.below (w := w5) ?_ HB67.out
    exact HTV.out.keptB HK5.out (fun k hk e => by
      have h1 := (HOB.out k hk).1
      have h2 := HS3.out
      omega)
  · have h5 := HS5.out
    exact ⟨fun e => by have := (HOB.out _ e).2; omega, fun e => by have := (HOB.out _ e).2; omega⟩
  · have h5 := HS5.out
    have h6 := HS45.out
    have h7 := HS3.out
    exact ⟨by omega, by omega, fun k hk => by have := (HOB.out k hk).1; omega⟩
end -- GpH

section -- LayF
open Go.RowKit Go.Maps
set_option linter.unusedVariables false
set_option linter.unusedSimpArgs false
set_option maxRecDepth 100000
set_option maxHeartbeats 4000000

theorem balD (w : World) (q : Nat) : Below w.heap.size w (w.drewN q) := (Kept.refl (fun _ => False) w).drewN q |>.toBelow (Nat.le_refl _) (fun _ h => h.elim)
end -- LayF

end Go.Proofs.YtojbbmfndlcgkaaGreat
