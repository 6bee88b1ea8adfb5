/-
  Walks of layer 21 (hist): Take; and SameCounts.
-/
import Derived.Test.YtacbmpffpfaciaaHistG
namespace Go.Proofs.Ytacbmpffpfaciaa
open Go.RowKit Go.Maps Go.Shelf Go.Sort

set_option maxRecDepth 100000

theorem clear_map {w : World} {bm k : Nat} {D : DataW Unit} (h : w.ownsMap Try.prog 3 (plainElem Try.prog 3) bm k D) :
    ∃ w', (∀ ty, (Builtin.clear_ #[67] ty #[.map (some bm)]).run Try.prog w = .ok (.tuple #[]) w') ∧ w'.ownsMap Try.prog 3 (plainElem Try.prog 3) bm 0 (DataW.map [] : DataW Unit) ∧ w.grownBy w' (some bm) := by
  obtain ⟨es, ck, hh, F, hs, hD⟩ := h
  refine ⟨{ w with heap := w.heap.setIfInBounds bm (.map #[] ck) }, fun ty => ?_, ?_, ?_⟩
  · simp [Builtin.clear_, run_underlying Try.underlying67, go_sem, getObj, setObj, Sem.run, hh]
  · have hlt := (Array.getElem?_eq_some_iff.1 hh).1
    exact ⟨#[], ck, by simp [hlt], ⟨by simp, MapKept.stamped_empty ck, by simp⟩, Nat.le_refl _, rfl⟩
  · exact ⟨rfl, rfl, rfl, by simp, fun k hk hn => by
      have : bm ≠ k := fun e => hn (by rw [e])
      simp [this]⟩

/-- Take. -/
theorem take_any (w : World) (b bm n : Nat) (f : Int → Int) (h : HistAt w b bm n f) :
    Calls Try.prog 15 #[.pointer (some ⟨b, 0, none⟩)] w fun e w' => ∃ v, e = .returned v ∧ w'.ownsRow w.heap.size 32 2 v (countsOf n f).length (flat (countsOf n f)) ∧ (v = .slice none 0 0 ↔ countsOf n f = []) ∧ HistAt w' b bm n emptyF ∧ Kept (fun i => i = bm) w w' := by
  have HH := Lib.hid h
  have hne := h.ne
  have HC := Lib.hid (counts_any w b bm n f h)
  clear h
  go_enter Try.func15, Try.ntmps15
  go_wp2_with fail
  refine HC.out.mono ?_
  rintro e W ⟨v, rfl, hrow, hnil, hB⟩
  have hA : HistAt W b bm n f := HH.out.kept (Kept.below hB) (fun h => h) (fun h => h)
  obtain ⟨w2, hrun, hm2, hg2⟩ := clear_map hA.map
  have hA0 := hA.c0
  have HA := Lib.hid hA
  have hm' := HH.out.ltm
  have HR := Lib.hid hrow
  have HN := Lib.hid hnil
  clear hA hrow hnil
  go_wp2_with (go_at_call 31; refine (made_yes _ b bm n f HA.out).mono ?_; rintro e w' ⟨rfl, rfl⟩)
  go_ret
  have hk : Kept (fun i => i = bm) w w2 := ((Kept.below hB).mono (fun _ _ h => h.elim)).trans (Kept.grown hg2) (fun i _ h => by simpa using h)
  refine ⟨v, rfl, HR.out.kept hg2 ?_, HN.out, ⟨?_, ?_, Good.empty HA.out.good.n1 HA.out.good.n255⟩, hk⟩
  · rcases HR.out.2 with ⟨rfl, _⟩ | ⟨g, cap, cur, rfl, hb, hgb, _⟩
    · exact .inl rfl
    · refine .inr fun e => ?_
      have : g = bm := by simpa [Value.ownBlock] using e
      omega
  · exact (hg2.block b HA.out.lt (by simpa using hne)).trans HA.out.cells
  · rw [tallyD_empty]; exact hm2.mono (by omega)

theorem run_neq_count (w : World) (a b c d : Int) : (binOp .neq 32 (.agg #[.int .i64 a, .int .i64 b]) (.agg #[.int .i64 c, .int .i64 d])).run Try.prog w = .ok (.bool (!(a == c && b == d))) w := by
  have u3 := Try.underlying3
  have a3 := Try.isAgg3
  have z3 := Try.sizeOf3
  have hS : Try.prog.underlying 32 = some (.struct (Try.prog.fieldsOf 32)) := by kernel_rfl
  have hp : Try.prog.stoodInHeld 32 = false := by kernel_rfl
  rw [run_neq_struct, show (10000 : Nat) = 9999 + 1 from rfl, run_equalIn_agg w 9999 32 _ _ hS hp]
  simp only [Program.fieldsOf, Try.underlying32]
  go_simp
  by_cases h1 : a = c <;> by_cases h2 : b = d <;> simp [h1, h2]

theorem neq_count_same (a : Int × Int) (w : World) : (binOp .neq 32 (.agg #[.int .i64 a.1, .int .i64 a.2]) (.agg #[.int .i64 a.1, .int .i64 a.2])).run Try.prog w = .ok (.bool false) w := by
  rw [run_neq_count]; simp
theorem neq_count_other (a b : Int × Int) (h : a ≠ b) (w : World) : (binOp .neq 32 (.agg #[.int .i64 a.1, .int .i64 a.2]) (.agg #[.int .i64 b.1, .int .i64 b.2])).run Try.prog w = .ok (.bool true) w := by
  rw [run_neq_count]
  have : (a.1 == b.1 && a.2 == b.2) = false := by
    rw [Bool.and_eq_false_iff]
    by_cases h1 : a.1 = b.1
    · right; simp; intro h2; exact h (Prod.ext h1 h2)
    · left; simpa using h1
  rw [this]; rfl

/-- Are two lists of counts the same? -/
theorem sameCounts_loop (w : World) (g1 o1 k1 g2 o2 k2 : Nat) (c1 c2 : List (Int × Int)) (hg1 : g1 < w.heap.size) (hg2 : g2 < w.heap.size)
    (h1 : ∀ j c, c1[j]? = some c → w.cell? ⟨g1, o1 + j * 2, none⟩ = some (.int .i64 c.1) ∧ w.cell? ⟨g1, o1 + j * 2 + 1, none⟩ = some (.int .i64 c.2))
    (h2 : ∀ j c, c2[j]? = some c → w.cell? ⟨g2, o2 + j * 2, none⟩ = some (.int .i64 c.1) ∧ w.cell? ⟨g2, o2 + j * 2 + 1, none⟩ = some (.int .i64 c.2))
    (hl1 : c1.length ≤ 140737488355328) (hl : c1.length = c2.length) :
    Calls Try.prog 14 #[.slice (some ⟨g1, o1, none⟩) c1.length k1, .slice (some ⟨g2, o2, none⟩) c1.length k2] w (BoolPost (decide (c1 = c2)) w) := by
  have H1 := Lib.hid h1
  have H2 := Lib.hid h2
  have HL := Lib.hid hl
  clear h1 h2 hl
  go_enter Try.func14, Try.ntmps14
  go_wp2_with fail
  go_loopw [5] (fun i wr => ∃ k : Nat, k ≤ c1.length ∧ i = .int .i64 k ∧ c1.take k = c2.take k ∧ Below w.heap.size w wr) (fun i _ => c1.length - (intOf i).toNat)
  case atStart => exact ⟨0, Nat.zero_le _, rfl, by simp, Below.refl _ _⟩
  case round =>
    obtain ⟨k, hk, rfl, htk, hB⟩ := hrel
    have HT := Lib.hid htk
    clear htk
    by_cases hlt : k < c1.length
    · obtain ⟨a, ha⟩ : ∃ c, c1[k]? = some c := ⟨_, List.getElem?_eq_getElem hlt⟩
      obtain ⟨b, hb⟩ : ∃ c, c2[k]? = some c := ⟨_, List.getElem?_eq_getElem (by have := HL.out; omega)⟩
      have d1 := (hB.cell (p := ⟨g1, o1 + k * 2, none⟩) hg1).trans (H1.out k a ha).1
      have d2 := (hB.cell (p := ⟨g1, o1 + k * 2 + 1, none⟩) hg1).trans (H1.out k a ha).2
      have d3 := (hB.cell (p := ⟨g2, o2 + k * 2, none⟩) hg2).trans (H2.out k b hb).1
      have d4 := (hB.cell (p := ⟨g2, o2 + k * 2 + 1, none⟩) hg2).trans (H2.out k b hb).2
      have HA := Lib.hid ha
      have HB := Lib.hid hb
      clear ha hb
      by_cases hab : a = b
      · subst hab
        have hq := neq_count_same a
        go_wp2_with fail
        go_quiet (fail)
        go_wp2
        go_roundw
        case rel => exact ⟨k + 1, by omega, by go_num, by rw [List.take_add_one, List.take_add_one, HA.out, HB.out, HT.out], ⟨hB.os, hB.tape, hB.output, hB.size, hB.block⟩⟩
        case measure => simp [intOf]; omega
      · have hq := neq_count_other a b hab
        have HAB := Lib.hid hab
        clear hab
        go_wp2_with fail
        go_quiet (fail)
        go_wp2
        go_ret
        refine ⟨?_, ?_⟩
        · rw [decide_eq_false (fun e => HAB.out (by have := HA.out; rw [e, HB.out] at this; exact (Option.some.inj this).symm))]; rfl
        · exact Kept.below ⟨hB.os, hB.tape, hB.output, hB.size, hB.block⟩
    · go_wp2
      go_ret
      have e : c1 = c2 := by
        have := HT.out
        rw [List.take_of_length_le (by omega), List.take_of_length_le (by have := HL.out; omega)] at this
        exact this
      exact ⟨by rw [decide_eq_true e]; rfl, Kept.below hB⟩

theorem sameCounts_len (w : World) (p1 p2 : Option Addr) (n1 n2 k1 k2 : Nat) (h : n1 ≠ n2) :
    Calls Try.prog 14 #[.slice p1 n1 k1, .slice p2 n2 k2] w fun e w' => e = .returned (.bool false) ∧ w = w' := by
  have hne : ((n1 : Int) != (n2 : Int)) = true := by rw [bne_iff_ne]; omega
  go_enter Try.func14, Try.ntmps14
  go_wp2
  go_ret
  exact ⟨rfl, rfl⟩

theorem sameCounts_zero (w : World) (p1 p2 : Option Addr) (k1 k2 : Nat) :
    Calls Try.prog 14 #[.slice p1 0 k1, .slice p2 0 k2] w fun e w' => e = .returned (.bool true) ∧ w = w' := by
  go_enter Try.func14, Try.ntmps14
  go_wp2
  refine wp_loop_rounds 1 ?_
  rw [rounds_succ]
  go_wp2
  go_ret
  exact ⟨rfl, rfl⟩

theorem CountsAt.shape {w : World} {v : Value} {cs : List (Int × Int)} (h : CountsAt w v cs) : ∃ p cap, v = .slice p cs.length cap := by
  rcases h with ⟨rfl, rfl⟩ | ⟨g, off, cap, rfl, _⟩
  · exact ⟨none, 0, rfl⟩
  · exact ⟨_, cap, rfl⟩

theorem sameCounts_any (w : World) (v1 v2 : Value) (c1 c2 : List (Int × Int)) (h1 : CountsAt w v1 c1) (h2 : CountsAt w v2 c2) (hl1 : c1.length ≤ 140737488355328) :
    Calls Try.prog 14 #[v1, v2] w (BoolPost (decide (c1 = c2)) w) := by
  by_cases hl : c1.length = c2.length
  · by_cases hz : c1.length = 0
    · obtain ⟨p1, k1, rfl⟩ := h1.shape
      obtain ⟨p2, k2, rfl⟩ := h2.shape
      rw [← hl, hz]
      refine (sameCounts_zero w p1 p2 k1 k2).mono fun e w' ⟨he, hw⟩ => ?_
      subst hw
      have e1 : c1 = [] := List.eq_nil_of_length_eq_zero hz
      have e2 : c2 = [] := List.eq_nil_of_length_eq_zero (by omega)
      exact ⟨by rw [he, e1, e2]; rfl, Kept.refl _ _⟩
    · rcases h1 with ⟨rfl, rfl⟩ | ⟨g1, o1, k1, rfl, hg1, hh1⟩
      · exact absurd rfl hz
      · rcases h2 with ⟨rfl, rfl⟩ | ⟨g2, o2, k2, rfl, hg2, hh2⟩
        · exact absurd hl hz
        · have := sameCounts_loop w g1 o1 k1 g2 o2 k2 c1 c2 hg1 hg2 hh1 hh2 hl1 hl
          rw [← hl]
          exact this
  · obtain ⟨p1, k1, rfl⟩ := h1.shape
    obtain ⟨p2, k2, rfl⟩ := h2.shape
    refine (sameCounts_len w p1 p2 _ _ k1 k2 hl).mono fun e w' ⟨he, hw⟩ => ?_
    subst hw
    exact ⟨by rw [he, decide_eq_false (fun e => hl (by rw [e]))], Kept.refl _ _⟩

end Go.Proofs.Ytacbmpffpfaciaa
