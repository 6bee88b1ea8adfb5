/-
  Walks of layer 22 (tell): the rules, hold, Closed, Open, Seq.
-/
import Derived.Test.YtacbmpffpfaciaaTellA
namespace Go.Proofs.Ytacbmpffpfaciaa
open Go.RowKit Go.Maps Go.Shelf Go.Sort

set_option maxRecDepth 100000
set_option maxHeartbeats 2000000

/-- Is a tick one of 'every'? -/
def dueB (now every : Int) : Bool := decide (0 < now) && (now % every == 0)
/-- Is there a report at a tick? -/
def tickB (now every seq : Int) (n : Nat) (f : Int → Int) : Bool := dueB now every && decide (0 < framesOf n f) && decide (seq < 2147483647)

section
variable {bt be bv br b bm n : Nat} {stream every seq : Int} {f : Int → Int}

theorem rule1_any (w : World) (be : Nat) (every now : Int) (hc : w.cell? ⟨be, 0, none⟩ = some (.int .i64 every)) (h1 : 1 ≤ every) (h2 : every ≤ 1000) :
    Calls Try.prog 38 #[.int .i64 now, .pointer (some ⟨be, 0, none⟩)] w fun e w' => e = .returned (.bool (dueB now every)) ∧ w = w' := by
  have hne : (every == 0) = false := by simp; omega
  by_cases hp : 0 < now
  · have hd : dueB now every = (now % every == 0) := by simp [dueB, hp]
    rw [hd]
    clear hd
    go_enter Try.func38, Try.ntmps38
    go_wp2
    go_ret
    exact ⟨rfl, rfl⟩
  · have hd : dueB now every = false := by simp [dueB, hp]
    rw [hd]
    clear hd
    go_enter Try.func38, Try.ntmps38
    go_wp2
    go_ret
    exact ⟨rfl, rfl⟩

theorem rule2_any (w : World) (h : TellerAt w bt be bv br b bm n stream every seq f) (now : Int) :
    Calls Try.prog 39 #[.int .i64 now, .pointer (some ⟨bv, 0, none⟩)] w fun e w' => e = .returned (.bool (decide (0 < framesOf n f))) ∧ Kept (fun _ => False) w w' := by
  have d1 := h.cv
  have d2 := h.c1
  have HH := Lib.hid h.hist
  clear h
  go_enter Try.func39, Try.ntmps39
  go_wp2_with fail
  refine (frames_any _ _ _ _ _ HH.out).mono ?_
  rintro e w1 ⟨rfl, hk⟩
  go_wp2
  go_ret
  exact ⟨rfl, hk⟩

theorem rule3_any (w : World) (h : TellerAt w bt be bv br b bm n stream every seq f) (now : Int) :
    Calls Try.prog 40 #[.int .i64 now, .pointer (some ⟨bv, 0, none⟩)] w fun e w' => e = .returned (.bool (decide (seq < 2147483647))) ∧ w = w' := by
  have d1 := h.cv
  have d2 := h.c4
  clear h
  go_enter Try.func40, Try.ntmps40
  go_wp2
  go_ret
  exact ⟨rfl, rfl⟩

/-- All rules hold. -/
theorem hold_any (w : World) (h : TellerAt w bt be bv br b bm n stream every seq f) (now : Int) :
    Calls Try.prog 43 #[.slice (some ⟨br, 0, none⟩) 3 3, .int .i64 now] w (BoolPost (tickB now every seq n f) w) := by
  have HH := Lib.hid h
  have d0 := h.r0
  have d1 := h.r1
  have d2 := h.r2
  clear h
  by_cases t1 : dueB now every = true
  · have T1 := Lib.hid t1
    clear t1
    by_cases t2 : 0 < framesOf n f
    · have T2 := Lib.hid t2
      have X1 : Hid (decide (0 < framesOf n f) = true) := Lib.hid (decide_eq_true t2)
      clear t2
      have XX : Hid (tickB now every seq n f = decide (seq < 2147483647)) := Lib.hid (by unfold tickB; rw [T1.out, X1.out]; rfl)
      by_cases t3 : seq < 2147483647
      · have X2 : Hid (decide (seq < 2147483647) = true) := Lib.hid (decide_eq_true t3)
        clear t3
        rw [XX.out, X2.out]
        go_enter Try.func43, Try.ntmps43
        go_wp2
        refine wp_loop_rounds 4 ?_
        rw [rounds_succ]
        go_wp2_with fail
        refine (rule1_any _ be every now HH.out.ce HH.out.ev1 HH.out.ev2).mono ?_
        rintro e w' ⟨rfl, rfl⟩
        rw [T1.out]
        go_wp2_with fail
        rw [rounds_succ]
        go_wp2_with fail
        refine (rule2_any _ HH.out now).mono ?_
        rintro e w1 ⟨rfl, hk⟩
        have HH1 := Lib.hid (HH.out.kept hk (fun i h => h.elim))
        have d2' := HH1.out.r2
        rw [X1.out]
        go_wp2_with fail
        rw [rounds_succ]
        go_wp2_with fail
        refine (rule3_any _ HH1.out now).mono ?_
        rintro e w' ⟨rfl, rfl⟩
        rw [X2.out]
        go_wp2_with fail
        rw [rounds_succ]
        go_wp2
        go_ret
        exact ⟨rfl, hk⟩
      · have X2 : Hid (decide (seq < 2147483647) = false) := Lib.hid (decide_eq_false t3)
        clear t3
        rw [XX.out, X2.out]
        go_enter Try.func43, Try.ntmps43
        go_wp2
        refine wp_loop_rounds 4 ?_
        rw [rounds_succ]
        go_wp2_with fail
        refine (rule1_any _ be every now HH.out.ce HH.out.ev1 HH.out.ev2).mono ?_
        rintro e w' ⟨rfl, rfl⟩
        rw [T1.out]
        go_wp2_with fail
        rw [rounds_succ]
        go_wp2_with fail
        refine (rule2_any _ HH.out now).mono ?_
        rintro e w1 ⟨rfl, hk⟩
        have HH1 := Lib.hid (HH.out.kept hk (fun i h => h.elim))
        have d2' := HH1.out.r2
        rw [X1.out]
        go_wp2_with fail
        rw [rounds_succ]
        go_wp2_with fail
        refine (rule3_any _ HH1.out now).mono ?_
        rintro e w' ⟨rfl, rfl⟩
        rw [X2.out]
        go_wp2
        go_ret
        exact ⟨rfl, hk⟩
    · have X1 : Hid (decide (0 < framesOf n f) = false) := Lib.hid (decide_eq_false t2)
      clear t2
      have XX : Hid (tickB now every seq n f = false) := Lib.hid (by unfold tickB; rw [T1.out, X1.out]; rfl)
      rw [XX.out]
      go_enter Try.func43, Try.ntmps43
      go_wp2
      refine wp_loop_rounds 4 ?_
      rw [rounds_succ]
      go_wp2_with fail
      refine (rule1_any _ be every now HH.out.ce HH.out.ev1 HH.out.ev2).mono ?_
      rintro e w' ⟨rfl, rfl⟩
      rw [T1.out]
      go_wp2_with fail
      rw [rounds_succ]
      go_wp2_with fail
      refine (rule2_any _ HH.out now).mono ?_
      rintro e w1 ⟨rfl, hk⟩
      rw [X1.out]
      go_wp2
      go_ret
      exact ⟨rfl, hk⟩
  · have t1' : dueB now every = false := by simpa using t1
    have T1 := Lib.hid t1'
    clear t1 t1'
    have XX : Hid (tickB now every seq n f = false) := Lib.hid (by unfold tickB; rw [T1.out]; rfl)
    rw [XX.out]
    go_enter Try.func43, Try.ntmps43
    go_wp2
    refine wp_loop_rounds 4 ?_
    rw [rounds_succ]
    go_wp2_with fail
    refine (rule1_any _ be every now HH.out.ce HH.out.ev1 HH.out.ev2).mono ?_
    rintro e w' ⟨rfl, rfl⟩
    rw [T1.out]
    go_wp2
    go_ret
    exact ⟨rfl, Kept.refl _ _⟩

/-- Closed. -/
theorem closed_ok (w : World) (h : TellerAt w bt be bv br b bm n stream every seq f) (c : Int) (h1 : 1 ≤ c) (h2 : c ≤ n) (ht : ∀ k, f k < 1099511627776) :
    Calls Try.prog 24 #[.pointer (some ⟨bt, 0, none⟩), .int .i64 c] w fun e w' => e = .returned (.int .i64 0) ∧ TellerAt w' bt be bv br b bm n stream every seq (upd f c 1) ∧ Kept (fun i => i = bm) w w' := by
  have HH := Lib.hid h
  have HT := Lib.hid ht
  have d1 := h.c1
  clear h ht
  go_enter Try.func24, Try.ntmps24
  go_wp2_with fail
  refine (tmade_yes _ HH.out).mono ?_
  rintro e w' ⟨rfl, rfl⟩
  go_wp2_with fail
  refine (add_ok _ _ _ _ _ HH.out.hist c h1 h2 HT.out).mono ?_
  rintro e w1 ⟨rfl, hh, hk⟩
  go_wp2
  go_ret
  exact ⟨rfl, HH.out.tally hk hh, hk⟩

theorem closed_odd (w : World) (h : TellerAt w bt be bv br b bm n stream every seq f) (c : Int) (hc : c < 1 ∨ (n : Int) < c) :
    Calls Try.prog 24 #[.pointer (some ⟨bt, 0, none⟩), .int .i64 c] w fun e w' => e = .returned (.int .i64 2) ∧ Kept (fun _ => False) w w' := by
  have HH := Lib.hid h
  have HT := Lib.hid hc
  have d1 := h.c1
  clear h hc
  go_enter Try.func24, Try.ntmps24
  go_wp2_with fail
  refine (tmade_yes _ HH.out).mono ?_
  rintro e w' ⟨rfl, rfl⟩
  go_wp2_with fail
  refine (add_odd _ _ _ _ _ HH.out.hist c HT.out).mono ?_
  rintro e w1 ⟨rfl, hk⟩
  go_wp2
  go_ret
  exact ⟨rfl, hk⟩

/-- Open, Seq. -/
theorem open_any (w : World) (h : TellerAt w bt be bv br b bm n stream every seq f) :
    Calls Try.prog 26 #[.pointer (some ⟨bt, 0, none⟩)] w fun e w' => ∃ v, e = .returned v ∧ w'.ownsRow w.heap.size 32 2 v (countsOf n f).length (flat (countsOf n f)) ∧ (v = .slice none 0 0 ↔ countsOf n f = []) ∧ Below w.heap.size w w' := by
  have HH := Lib.hid h
  have d1 := h.c1
  clear h
  go_enter Try.func26, Try.ntmps26
  go_wp2_with fail
  refine (tmade_yes _ HH.out).mono ?_
  rintro e w' ⟨rfl, rfl⟩
  go_wp2_with fail
  refine (counts_any _ _ _ _ _ HH.out.hist).mono ?_
  rintro e w1 ⟨v, rfl, hr, hn, hb⟩
  have HR := Lib.hid hr
  have HN := Lib.hid hn
  clear hr hn
  go_wp2
  go_ret
  exact ⟨v, rfl, HR.out, HN.out, hb⟩

theorem seq_any (w : World) (h : TellerAt w bt be bv br b bm n stream every seq f) :
    Calls Try.prog 28 #[.pointer (some ⟨bt, 0, none⟩)] w fun e w' => e = .returned (.int .i64 seq) ∧ w = w' := by
  have HH := Lib.hid h
  have d1 := h.c4
  clear h
  go_enter Try.func28, Try.ntmps28
  go_wp2_with fail
  refine (tmade_yes _ HH.out).mono ?_
  rintro e w' ⟨rfl, rfl⟩
  go_wp2
  go_ret
  exact ⟨rfl, rfl⟩
end

end Go.Proofs.Ytacbmpffpfaciaa
