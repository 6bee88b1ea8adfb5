/-
  No cache: what it answers.
-/
import Derived.Test.YtlmpagicjgldkaaGreatRcK
namespace Go.Proofs.YtlmpagicjgldkaaGreat
open Go.RowKit Go.Maps
set_option linter.unusedVariables false
set_option linter.unusedSimpArgs false
set_option maxRecDepth 100000
set_option maxHeartbeats 4000000

/-- No cache: none, or one of nothing. -/
def NoCache (w : World) (v : Value) : Prop := v = .pointer none ∨ ∃ b, v = .pointer (some ⟨b, 0, none⟩) ∧ w.cell? ⟨b, 0, none⟩ = some (.map none)
theorem NoCache.below {w w' : World} {v : Value} (h : NoCache w v) (hb : Below w.heap.size w w') : NoCache w' v := by
  rcases h with e | ⟨b, e, hc⟩
  · exact .inl e
  · exact .inr ⟨b, e, (hb.cell (p := ⟨b, 0, none⟩) (blt hc)).trans hc⟩
theorem there_noc (w : World) (v : Value) (h : NoCache w v) :
    Calls Tryz.prog 26 #[v] w fun e w' => e = .returned (.bool false) ∧ w = w' := by
  rcases h with rfl | ⟨b, rfl, c0⟩
  · go_enter Tryz.func26, Tryz.ntmps26
    go_wp2
    go_ret
    exact ⟨rfl, rfl⟩
  · have hl := blt c0
    have hq := fun w => run_neq_map_nil (P := Tryz.prog) w 60 86 90 none Tryz.underlying60
    go_enter Tryz.func26, Tryz.ntmps26
    go_wp2
    go_ret
    exact ⟨rfl, rfl⟩
theorem turn_noc (w : World) (v v2 : Value) (x : Int) (h : NoCache w v) :
    Calls Tryz.prog 11 #[v, .int .i64 x, v2] w fun e w' => e = .returned (.tuple #[.slice none 0 0, .int .i64 1]) ∧ w = w' := by
  go_enter Tryz.func11, Tryz.ntmps11
  go_wp2_with fail
  refine (there_noc w v h).mono ?_
  rintro e w' ⟨rfl, rfl⟩
  go_wp2
  go_ret2
  exact ⟨rfl, rfl⟩
theorem decode_noc (w : World) (v v2 : Value) (x : Int) (h : NoCache w v) :
    Calls Tryz.prog 15 #[v, .int .i64 x, v2] w fun e w' => e = .returned (.tuple #[.slice none 0 0, .int .i64 1]) ∧ w = w' := by
  go_enter Tryz.func15, Tryz.ntmps15
  go_wp2_with fail
  refine (there_noc w v h).mono ?_
  rintro e w' ⟨rfl, rfl⟩
  go_wp2
  go_ret2
  exact ⟨rfl, rfl⟩
theorem has_noc (w : World) (v v2 : Value) (x : Int) (h : NoCache w v) :
    Calls Tryz.prog 19 #[v, .int .i64 x, v2] w fun e w' => e = .returned (.bool false) ∧ w = w' := by
  go_enter Tryz.func19, Tryz.ntmps19
  go_wp2_with fail
  refine (there_noc w v h).mono ?_
  rintro e w' ⟨rfl, rfl⟩
  go_wp2
  go_ret
  exact ⟨rfl, rfl⟩
theorem stat_noc (w : World) (v : Value) (h : NoCache w v) :
    Calls Tryz.prog 24 #[v] w fun e w' => e = .returned (.agg #[.int .i64 0, .int .i64 0, .int .i64 0, .int .i64 0]) ∧ Below w.heap.size w w' := by
  have HT := Lib.hid (there_noc (w.alloc (.cells #[.int .i64 0, .int .i64 0, .int .i64 0, .int .i64 0] 58)) v (h.below (balC w _)))
  have hb := balC w (.cells #[.int .i64 0, .int .i64 0, .int .i64 0, .int .i64 0] 58)
  have HB0 := Lib.hid hb
  clear h hb
  go_enter Tryz.func24, Tryz.ntmps24
  go_wp2_with fail
  refine HT.out.mono ?_
  rintro e w' ⟨rfl, rfl⟩
  go_wp2_with fail
  refine bodyPost_ret (v := .agg #[.int .i64 0, .int .i64 0, .int .i64 0, .int .i64 0]) (by simp [results, Tryz.results24, go_sem]) rfl ⟨rfl, ?_⟩
  exact (Kept.alloc (fun _ => False) w _).toBelow (Nat.le_refl _) (fun _ h => h.elim)

theorem cnone_any (w : World) :
    Calls Tryz.prog 23 #[] w fun e w' => e = .returned (.bool true) ∧ Below w.heap.size w w' := by
  have hz : (w.alloc (.cells #[.map none, .int .i64 0, .int .i64 0, .int .i64 0, .int .i64 0, .int .i64 0, .int .i64 0, .int .i64 0] 64)).heap.size = w.heap.size + 1 := by simp
  have e0 : ((w.alloc (.cells #[.map none, .int .i64 0, .int .i64 0, .int .i64 0, .int .i64 0, .int .i64 0, .int .i64 0, .int .i64 0] 64)).alloc (.cells #[.pointer none, .pointer (some ⟨w.heap.size, 0, none⟩)] 25)).cell? ⟨w.heap.size + 1, 0, none⟩ = some (.pointer none) := by
    have := World.cell?_alloc_new (w.alloc (.cells #[.map none, .int .i64 0, .int .i64 0, .int .i64 0, .int .i64 0, .int .i64 0, .int .i64 0, .int .i64 0] 64)) #[.pointer none, .pointer (some ⟨w.heap.size, 0, none⟩)] 25 0
    rw [hz] at this
    exact this
  have e1 : ((w.alloc (.cells #[.map none, .int .i64 0, .int .i64 0, .int .i64 0, .int .i64 0, .int .i64 0, .int .i64 0, .int .i64 0] 64)).alloc (.cells #[.pointer none, .pointer (some ⟨w.heap.size, 0, none⟩)] 25)).cell? ⟨w.heap.size + 1, 1, none⟩ = some (.pointer (some ⟨w.heap.size, 0, none⟩)) := by
    have := World.cell?_alloc_new (w.alloc (.cells #[.map none, .int .i64 0, .int .i64 0, .int .i64 0, .int .i64 0, .int .i64 0, .int .i64 0, .int .i64 0] 64)) #[.pointer none, .pointer (some ⟨w.heap.size, 0, none⟩)] 25 1
    rw [hz] at this
    exact this
  have e2 : ((w.alloc (.cells #[.map none, .int .i64 0, .int .i64 0, .int .i64 0, .int .i64 0, .int .i64 0, .int .i64 0, .int .i64 0] 64)).alloc (.cells #[.pointer none, .pointer (some ⟨w.heap.size, 0, none⟩)] 25)).cell? ⟨w.heap.size, 0, none⟩ = some (.map none) := ((balC _ _).cell (p := ⟨w.heap.size, 0, none⟩) (by show w.heap.size < _; rw [hz]; omega)).trans (World.cell?_alloc_new w _ _ 0)
  have HB0 := Lib.hid (show Below w.heap.size w ((w.alloc (.cells #[.map none, .int .i64 0, .int .i64 0, .int .i64 0, .int .i64 0, .int .i64 0, .int .i64 0, .int .i64 0] 64)).alloc (.cells #[.pointer none, .pointer (some ⟨w.heap.size, 0, none⟩)] 25)) from below_more (balC w _) (balC _ _) (by simp))
  have HN := Lib.hid (show ∀ m : Nat, m < 2 → ∃ p, ((w.alloc (.cells #[.map none, .int .i64 0, .int .i64 0, .int .i64 0, .int .i64 0, .int .i64 0, .int .i64 0, .int .i64 0] 64)).alloc (.cells #[.pointer none, .pointer (some ⟨w.heap.size, 0, none⟩)] 25)).cell? ⟨w.heap.size + 1, m, none⟩ = some (.pointer p) ∧ NoCache ((w.alloc (.cells #[.map none, .int .i64 0, .int .i64 0, .int .i64 0, .int .i64 0, .int .i64 0, .int .i64 0, .int .i64 0] 64)).alloc (.cells #[.pointer none, .pointer (some ⟨w.heap.size, 0, none⟩)] 25)) (.pointer p) from by
    intro m hm
    obtain rfl | rfl : m = 0 ∨ m = 1 := by omega
    · exact ⟨none, e0, .inl rfl⟩
    · exact ⟨_, e1, .inr ⟨_, rfl, e2⟩⟩)
  clear e0 e1 e2 hz
  go_enter Tryz.func23, Tryz.ntmps23
  go_wp2
  obtain ⟨g, hg⟩ : ∃ g, g = w.heap.size + 1 := ⟨_, rfl⟩
  rw [← hg] at HN ⊢
  clear hg
  generalize ((w.alloc (.cells #[.map none, .int .i64 0, .int .i64 0, .int .i64 0, .int .i64 0, .int .i64 0, .int .i64 0, .int .i64 0] 64)).alloc (.cells #[.pointer none, .pointer (some ⟨w.heap.size, 0, none⟩)] 25)) = w1 at *
  go_loopw [2] (fun i wr => ∃ m : Nat, m ≤ 2 ∧ i = .int .i64 (m : Int) ∧ Below w1.heap.size w1 wr) (fun i _ => 2 - (intOf i).toNat)
  case atStart => exact ⟨0, Nat.zero_le _, rfl, Below.refl _ _⟩
  case round =>
    obtain ⟨m, hm, rfl, hB⟩ := hrel
    have HB := Lib.hid hB
    by_cases hlt : m < 2
    · obtain ⟨p, y0, hn⟩ := HN.out m hlt
      have y1 := (hB.cell (p := ⟨g, m, none⟩) (blt y0)).trans y0
      have HNO := Lib.hid (hn.below hB)
      clear hn hB y0
      go_wp2_with fail
      have hba := balC wr (.cells #[.int .i64 0] 3)
      have y2 := (hba.cell (p := ⟨g, m, none⟩) (blt y1)).trans y1
      have HNO2 := Lib.hid (HNO.out.below hba)
      have HB2 := Lib.hid (below_more HB.out hba HB.out.size)
      clear hba y1
      generalize wr.alloc (.cells #[.int .i64 0] 3) = wa at *
      refine (turn_noc wa _ _ _ HNO2.out).mono ?_
      rintro e w' ⟨rfl, rfl⟩
      go_wp2_with fail
      have hba := balC wa (.cells #[.int .i64 0, .slice none 0 0] 78)
      have y3 := (hba.cell (p := ⟨g, m, none⟩) (blt y2)).trans y2
      have HNO3 := Lib.hid (HNO2.out.below hba)
      have HB3 := Lib.hid (below_more HB2.out hba HB2.out.size)
      clear hba y2
      generalize wa.alloc (.cells #[.int .i64 0, .slice none 0 0] 78) = wb at *
      refine (decode_noc wb _ _ _ HNO3.out).mono ?_
      rintro e w' ⟨rfl, rfl⟩
      go_wp2_with fail
      have hba := balC wb (.cells #[.int .i64 0] 3)
      have y4 := (hba.cell (p := ⟨g, m, none⟩) (blt y3)).trans y3
      have HNO4 := Lib.hid (HNO3.out.below hba)
      have HB4 := Lib.hid (below_more HB3.out hba HB3.out.size)
      clear hba y3
      generalize wb.alloc (.cells #[.int .i64 0] 3) = wc at *
      refine (has_noc wc _ _ _ HNO4.out).mono ?_
      rintro e w' ⟨rfl, rfl⟩
      go_wp2_with fail
      refine (stat_noc wc _ HNO4.out).mono ?_
      rintro e wd ⟨rfl, hbd⟩
      have HB5 := Lib.hid (below_more HB4.out hbd HB4.out.size)
      clear hbd
      go_wp2
      go_roundw
      case rel => exact ⟨m + 1, by omega, by go_num, HB5.out⟩
      case measure => simp [intOf]; omega
    · obtain rfl : m = 2 := by omega
      go_wp2
      go_ret
      exact ⟨rfl, below_more HB0.out HB.out HB0.out.size⟩
end Go.Proofs.YtlmpagicjgldkaaGreat
