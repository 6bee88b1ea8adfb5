/-
  Walks of the reference of layer 22: Tick.
-/
import Derived.Test.YtacbmpffpfaciaaTellH
namespace Go.Proofs.Ytacbmpffpfaciaa
open Go.RowKit Go.Maps Go.Shelf Go.Sort

set_option maxRecDepth 100000
set_option maxHeartbeats 2000000

section
variable {t r n : Nat} {stream every seq : Int} {f : Int → Int}

theorem rtick_no (w : World) (h : RTellerAt w t r n stream every seq f) (now : Int) (ht : tickB now every seq n f = false) :
    Calls Try.prog 21 #[.pointer (some ⟨t, 0, none⟩), .int .i64 now] w fun e w' => e = .returned (.tuple #[.agg #[.int .i64 0, .int .i64 0, .int .i64 0, .slice none 0 0], .bool false]) ∧ Kept (fun _ => False) w w' := by
  have k0 : Kept (fun _ => False) w (w.alloc (.cells #[.int .i64 0, .int .i64 0, .int .i64 0, .slice none 0 0] 48)) := Kept.alloc (fun _ => False) _ _
  have hA : RTellerAt (w.alloc (.cells #[.int .i64 0, .int .i64 0, .int .i64 0, .slice none 0 0] 48)) t r n stream every seq f := h.kept k0 (fun i h => h.elim)
  have d2 := hA.c2
  have d3 := hA.c3
  have d4 := hA.c4
  obtain ⟨x0, x1, x2, x3, xf⟩ := noteBox (World.alloc_heap_new w (.cells #[.int .i64 0, .int .i64 0, .int .i64 0, .slice none 0 0] 48))
  have HF := Lib.hid (rframes_any _ r n f hA.hist)
  have hfb := framesOf_bound hA.hist.good
  have e1 := h.ev1
  have e2 := h.ev2
  have HT := Lib.hid ht
  have hne : (every == 0) = false := by simp; omega
  clear h hA ht
  have HK := Lib.hid k0
  clear k0
  by_cases c1 : now < 1
  · go_enter Try.func21, Try.ntmps21
    go_wp2
    refine bodyPost_ret (v := .tuple #[.agg #[.int .i64 0, .int .i64 0, .int .i64 0, .slice none 0 0], .bool false]) ?_ rfl ⟨rfl, ?_⟩
    · simp [results, Try.f21, go_sem]
    · exact Kept.alloc _ _ _
  · have p0 : 0 ≤ now := by omega
    by_cases c2 : now % every = 0
    · by_cases c3 : framesOf n f = 0
      · go_enter Try.func21, Try.ntmps21
        go_wp2_with fail
        refine HF.out.mono ?_
        rintro e w1 ⟨rfl, rfl⟩
        go_wp2
        refine bodyPost_ret (v := .tuple #[.agg #[.int .i64 0, .int .i64 0, .int .i64 0, .slice none 0 0], .bool false]) ?_ rfl ⟨rfl, ?_⟩
        · simp [results, Try.f21, go_sem]
        · exact Kept.alloc _ _ _
      · have c4 : 2147483647 ≤ seq := by
          have := HT.out
          have hd : dueB now every = true := by simp [dueB, c2]; omega
          have hf : decide (0 < framesOf n f) = true := by simp; omega
          unfold tickB at this
          rw [hd, hf] at this
          simp at this
          exact this
        go_enter Try.func21, Try.ntmps21
        go_wp2_with fail
        refine HF.out.mono ?_
        rintro e w1 ⟨rfl, rfl⟩
        go_wp2
        refine bodyPost_ret (v := .tuple #[.agg #[.int .i64 0, .int .i64 0, .int .i64 0, .slice none 0 0], .bool false]) ?_ rfl ⟨rfl, ?_⟩
        · simp [results, Try.f21, go_sem]
        · exact Kept.alloc _ _ _
    · go_enter Try.func21, Try.ntmps21
      go_wp2
      refine bodyPost_ret (v := .tuple #[.agg #[.int .i64 0, .int .i64 0, .int .i64 0, .slice none 0 0], .bool false]) ?_ rfl ⟨rfl, ?_⟩
      · simp [results, Try.f21, go_sem]
      · exact Kept.alloc _ _ _

theorem rtick_yes (w : World) (h : RTellerAt w t r n stream every seq f) (now : Int) (ht : tickB now every seq n f = true) :
    Calls Try.prog 21 #[.pointer (some ⟨t, 0, none⟩), .int .i64 now] w fun e w' => ∃ v, e = .returned (.tuple #[.agg #[.int .i64 stream, .int .i64 (seq + 1), .int .i64 (n : Int), v], .bool true]) ∧
      w'.ownsRow w.heap.size 32 2 v (countsOf n f).length (flat (countsOf n f)) ∧ RTellerAt w' t r n stream every (seq + 1) emptyF ∧ Kept (fun i => i = t ∨ i = r) w w' := by
  have htt := ht
  unfold tickB dueB at htt
  simp only [Bool.and_eq_true, decide_eq_true_eq, beq_iff_eq] at htt
  obtain ⟨⟨⟨c1, c2⟩, c3⟩, hsq⟩ := htt
  have c1' : ¬ now < 1 := by omega
  have p0 : 0 ≤ now := by omega
  have c3' : (framesOf n f == 0) = false := by simp; omega
  have c4 : ¬ 2147483647 ≤ seq := by omega
  have k0 : Kept (fun _ => False) w (w.alloc (.cells #[.int .i64 0, .int .i64 0, .int .i64 0, .slice none 0 0] 48)) := Kept.alloc (fun _ => False) _ _
  have hA : RTellerAt (w.alloc (.cells #[.int .i64 0, .int .i64 0, .int .i64 0, .slice none 0 0] 48)) t r n stream every seq f := h.kept k0 (fun i h => h.elim)
  have hbt : t < w.heap.size := h.lt
  have hbr : r < w.heap.size := h.hist.lt
  have d2 := hA.c2
  have d3 := hA.c3
  have d4 := hA.c4
  have df := hA.fz 3
  have hs0 := h.sq1
  have HF := Lib.hid (rframes_any _ r n f hA.hist)
  have ev1 := h.ev1
  have ev2 := h.ev2
  have hne : (every == 0) = false := by simp; omega
  have HA := Lib.hid hA
  have HH := Lib.hid h
  have HBK := Lib.hid (World.alloc_heap_new w (.cells #[.int .i64 0, .int .i64 0, .int .i64 0, .slice none 0 0] 48))
  clear h hA ht c1
  have HK := Lib.hid k0
  clear k0
  go_enter Try.func21, Try.ntmps21
  go_wp2_with fail
  refine HF.out.mono ?_
  rintro e w1 ⟨rfl, rfl⟩
  go_wp2_with fail
  have hA1 := HH.out.setSeq (seq + 1) (by omega) (by omega)
  have k1 : Kept (fun i => i = t ∨ i = r) w (w.setCell ⟨t, 3, none⟩ (.int .i64 (seq + 1))) := (Kept.refl (fun i => i = t ∨ i = r) w).setCell' (p := ⟨t, 3, none⟩) (.inl rfl) _
  have e1 : (w.setCell ⟨t, 3, none⟩ (.int .i64 (seq + 1))).heap.size = w.heap.size := by simp [World.setCell]
  have hA2 := hA1.kept (Kept.alloc (fun _ => False) _ (.cells #[.int .i64 0, .int .i64 0, .int .i64 0, .slice none 0 0] 48)) (fun i h => h.elim)
  have k2 := k1.trans (Kept.alloc (fun _ => False) _ (.cells #[.int .i64 0, .int .i64 0, .int .i64 0, .slice none 0 0] 48)) (fun _ _ h => h.elim)
  have hblk2 := World.alloc_heap_new (w.setCell ⟨t, 3, none⟩ (.int .i64 (seq + 1))) (.cells #[.int .i64 0, .int .i64 0, .int .i64 0, .slice none 0 0] 48)
  rw [e1] at hblk2
  have hs2 : w.heap.size < ((w.setCell ⟨t, 3, none⟩ (.int .i64 (seq + 1))).alloc (.cells #[.int .i64 0, .int .i64 0, .int .i64 0, .slice none 0 0] 48)).heap.size := (Array.getElem?_eq_some_iff.1 hblk2).1
  clear hA1 k1 e1
  clear d2 d3 d4 df HF HA HBK HK HH
  generalize (w.setCell ⟨t, 3, none⟩ (.int .i64 (seq + 1))).alloc (.cells #[.int .i64 0, .int .i64 0, .int .i64 0, .slice none 0 0] 48) = W2 at *
  have x0 := hA2.c0
  have x1 := hA2.c1
  have x3 := hA2.c3
  have x4 := hA2.c4
  have y0 : W2.drew.cell? ⟨t, 0, none⟩ = _ := x0
  have y1 : W2.drew.cell? ⟨t, 1, none⟩ = _ := x1
  have y3 : W2.drew.cell? ⟨t, 3, none⟩ = _ := x3
  have y4 : W2.drew.cell? ⟨t, 4, none⟩ = _ := x4
  have hlt := hA2.lt
  have hnm : ¬ t = r := fun e => hA2.ne e.symm
  have hbt' : t ≠ w.heap.size := by omega
  have K2 := Lib.hid k2
  clear k2
  have HA2 := Lib.hid hA2
  have HB2 := Lib.hid hblk2
  have hblk3 : ∀ w3, Kept (fun i => i = r) W2.drew w3 → w3.heap[w.heap.size]? = some (.cells #[.int .i64 0, .int .i64 0, .int .i64 0, .slice none 0 0] 48 (0, 0)) := fun w3 hk =>
    (hk.block _ hs2 (by omega)).trans HB2.out
  clear hA2 hblk2 c1' c2 c3 c3' c4 p0 hne hsq hs0 ev1 ev2
  go_region_held3 (fun w' => w'.cell? ⟨t, 0, none⟩ = some (.int .i64 stream) ∧ w'.cell? ⟨t, 1, none⟩ = some (.int .i64 (n : Int)) ∧ w'.cell? ⟨t, 3, none⟩ = some (.int .i64 (seq + 1)) ∧ w'.cell? ⟨t, 4, none⟩ = some (.pointer (some ⟨r, 0, none⟩)))
    (first | with_reducible exact ⟨x0, x1, x3, x4⟩ | with_reducible exact ⟨y0, y1, y3, y4⟩ | with_reducible exact ⟨z0, z1, z3, z4⟩ | with_reducible exact ⟨setNote_cell hbt' z0, setNote_cell hbt' z1, setNote_cell hbt' z3, setNote_cell hbt' z4⟩)
    ((go_at_call 45; refine (rtake_any _ r n f (by first | exact HA2.out.hist | exact HA2.out.hist.drewK)).mono ?_; rintro e w3 ⟨v, rfl, hr, hh, hk⟩; obtain ⟨p, cp, rfl⟩ := (countsAt_of_row hr).shape; have HR := Lib.hid hr; have H3 := Lib.hid hh; clear hr hh; obtain ⟨u0, u1, u2, u3, uf⟩ := noteBox (hblk3 w3 hk); have z0 := (hk.cell (p := ⟨t, 0, none⟩) hlt hnm).trans x0; have z1 := (hk.cell (p := ⟨t, 1, none⟩) hlt hnm).trans x1; have z3 := (hk.cell (p := ⟨t, 3, none⟩) hlt hnm).trans x3; have z4 := (hk.cell (p := ⟨t, 4, none⟩) hlt hnm).trans x4))
  have hz := hk.size
  go_wp2
  have q4 : Kept (fun i => i = w.heap.size) w3 ((((w3.setCell ⟨w.heap.size, 0, none⟩ (.int .i64 stream)).setCell ⟨w.heap.size, 1, none⟩ (.int .i64 (seq + 1))).setCell ⟨w.heap.size, 2, none⟩ (.int .i64 (n : Int))).setCell ⟨w.heap.size, 3, none⟩ (.slice p (countsOf n f).length cp)) :=
    (((((Kept.refl (fun i => i = w.heap.size) w3).setCell' (S := fun i => i = w.heap.size) (p := ⟨w.heap.size, 0, none⟩) rfl _).setCell' (S := fun i => i = w.heap.size) (p := ⟨w.heap.size, 1, none⟩) rfl _).setCell' (S := fun i => i = w.heap.size) (p := ⟨w.heap.size, 2, none⟩) rfl _).setCell' (S := fun i => i = w.heap.size) (p := ⟨w.heap.size, 3, none⟩) rfl _)
  have hT3 : RTellerAt w3 t r n stream every (seq + 1) emptyF := (HA2.out.kept (S := fun _ => False) ((Kept.refl _ W2).drew) (fun i h => h.elim)).tally hk H3.out
  refine bodyPost_ret (v := .tuple #[.agg #[.int .i64 stream, .int .i64 (seq + 1), .int .i64 (n : Int), .slice p (countsOf n f).length cp], .bool true]) ?_ rfl ⟨_, rfl, ?_, ?_, ?_⟩
  · simp [results, Try.f21, go_sem, u0, u1, u2, u3]
  · refine ownsRow_weaken (ownsRow_keptS HR.out q4 ?_) (Nat.le_of_lt hs2)
    intro g hg
    rcases HR.out.2 with ⟨e, _⟩ | ⟨g', cap, cur, e, hb, _⟩
    · rw [e] at hg; simp [Value.ownBlock] at hg
    · rw [e] at hg
      have : g' = g := by simpa [Value.ownBlock] using hg
      have hb' : W2.heap.size ≤ g' := hb
      omega
  · exact hT3.kept q4 (fun i (e : i = _) => by omega)
  · exact (K2.out.trans ((Kept.refl (fun i => i = t ∨ i = r) W2).drew.trans hk (fun i _ e => .inr e)) (fun _ _ h => h)).trans q4 (fun i h (e : i = _) => by omega)

end
end Go.Proofs.Ytacbmpffpfaciaa
