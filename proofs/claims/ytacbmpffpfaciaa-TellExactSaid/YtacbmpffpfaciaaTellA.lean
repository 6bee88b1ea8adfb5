/-
  Walks of layer 22 (tell): the teller: made, New, the rules, hold, Closed, Open, Seq.
-/
import Derived.Test.YtacbmpffpfaciaaHistI
namespace Go.Proofs.Ytacbmpffpfaciaa
open Go.RowKit Go.Maps Go.Shelf Go.Sort

set_option maxRecDepth 100000

/-- A teller lies at block bt. -/
structure TellerAt (w : World) (bt be bv br b bm n : Nat) (stream every seq : Int) (f : Int → Int) : Prop where
  cells : w.heap[bt]? = some (.cells #[.slice (some ⟨br, 0, none⟩) 3 3, .pointer (some ⟨b, 0, none⟩), .int .i64 stream, .int .i64 (n : Int), .int .i64 seq] 60 (0, 0))
  evr : w.heap[be]? = some (.cells #[.int .i64 every] 3 (0, 0))
  var : w.heap[bv]? = some (.cells #[.pointer (some ⟨bt, 0, none⟩)] 38 (0, 0))
  rules : w.heap[br]? = some (.cells #[.func (.func 38) #[] #[.pointer (some ⟨be, 0, none⟩)], .func (.func 39) #[] #[.pointer (some ⟨bv, 0, none⟩)], .func (.func 40) #[] #[.pointer (some ⟨bv, 0, none⟩)]] 73 (0, 0))
  hist : HistAt w b bm n f
  ev1 : 1 ≤ every
  ev2 : every ≤ 1000
  sq1 : 0 ≤ seq
  sq2 : seq ≤ 2147483647

section
variable {w w' : World} {bt be bv br b bm n : Nat} {stream every seq : Int} {f : Int → Int}
theorem TellerAt.c0 (h : TellerAt w bt be bv br b bm n stream every seq f) : w.cell? ⟨bt, 0, none⟩ = some (.slice (some ⟨br, 0, none⟩) 3 3) := by simp [World.cell?, h.cells]
theorem TellerAt.c1 (h : TellerAt w bt be bv br b bm n stream every seq f) : w.cell? ⟨bt, 1, none⟩ = some (.pointer (some ⟨b, 0, none⟩)) := by simp [World.cell?, h.cells]
theorem TellerAt.c2 (h : TellerAt w bt be bv br b bm n stream every seq f) : w.cell? ⟨bt, 2, none⟩ = some (.int .i64 stream) := by simp [World.cell?, h.cells]
theorem TellerAt.c3 (h : TellerAt w bt be bv br b bm n stream every seq f) : w.cell? ⟨bt, 3, none⟩ = some (.int .i64 (n : Int)) := by simp [World.cell?, h.cells]
theorem TellerAt.c4 (h : TellerAt w bt be bv br b bm n stream every seq f) : w.cell? ⟨bt, 4, none⟩ = some (.int .i64 seq) := by simp [World.cell?, h.cells]
theorem TellerAt.ce (h : TellerAt w bt be bv br b bm n stream every seq f) : w.cell? ⟨be, 0, none⟩ = some (.int .i64 every) := by simp [World.cell?, h.evr]
theorem TellerAt.cv (h : TellerAt w bt be bv br b bm n stream every seq f) : w.cell? ⟨bv, 0, none⟩ = some (.pointer (some ⟨bt, 0, none⟩)) := by simp [World.cell?, h.var]
theorem TellerAt.r0 (h : TellerAt w bt be bv br b bm n stream every seq f) : w.cell? ⟨br, 0, none⟩ = some (.func (.func 38) #[] #[.pointer (some ⟨be, 0, none⟩)]) := by simp [World.cell?, h.rules]
theorem TellerAt.r1 (h : TellerAt w bt be bv br b bm n stream every seq f) : w.cell? ⟨br, 1, none⟩ = some (.func (.func 39) #[] #[.pointer (some ⟨bv, 0, none⟩)]) := by simp [World.cell?, h.rules]
theorem TellerAt.r2 (h : TellerAt w bt be bv br b bm n stream every seq f) : w.cell? ⟨br, 2, none⟩ = some (.func (.func 40) #[] #[.pointer (some ⟨bv, 0, none⟩)]) := by simp [World.cell?, h.rules]
theorem TellerAt.lt (h : TellerAt w bt be bv br b bm n stream every seq f) : bt < w.heap.size := (Array.getElem?_eq_some_iff.1 h.cells).1
theorem TellerAt.fz (h : TellerAt w bt be bv br b bm n stream every seq f) (o : Nat) : w.frozen? ⟨bt, o, none⟩ = false := by simp [World.frozen?, h.cells]

theorem TellerAt.ne_be (h : TellerAt w bt be bv br b bm n stream every seq f) : be ≠ bt := by
  rintro rfl; have := h.cells; rw [h.evr] at this; simp at this
theorem TellerAt.ne_bv (h : TellerAt w bt be bv br b bm n stream every seq f) : bv ≠ bt := by
  rintro rfl; have := h.cells; rw [h.var] at this; simp at this
theorem TellerAt.ne_br (h : TellerAt w bt be bv br b bm n stream every seq f) : br ≠ bt := by
  rintro rfl; have := h.cells; rw [h.rules] at this; simp at this
theorem TellerAt.ne_b (h : TellerAt w bt be bv br b bm n stream every seq f) : b ≠ bt := by
  rintro rfl; have := h.cells; rw [h.hist.cells] at this; simp at this
theorem TellerAt.ne_bm (h : TellerAt w bt be bv br b bm n stream every seq f) : bm ≠ bt := fun e => h.hist.cells_ne h.c0 e.symm

theorem TellerAt.kept {S : Nat → Prop} (h : TellerAt w bt be bv br b bm n stream every seq f) (hk : Kept S w w') (hS : ∀ i, S i → i ≠ bt ∧ i ≠ be ∧ i ≠ bv ∧ i ≠ br ∧ i ≠ b ∧ i ≠ bm) : TellerAt w' bt be bv br b bm n stream every seq f := by
  refine ⟨(hk.block bt h.lt (fun hh => (hS _ hh).1 rfl)).trans h.cells, (hk.block be (Array.getElem?_eq_some_iff.1 h.evr).1 (fun hh => (hS _ hh).2.1 rfl)).trans h.evr, (hk.block bv (Array.getElem?_eq_some_iff.1 h.var).1 (fun hh => (hS _ hh).2.2.1 rfl)).trans h.var,
    (hk.block br (Array.getElem?_eq_some_iff.1 h.rules).1 (fun hh => (hS _ hh).2.2.2.1 rfl)).trans h.rules, h.hist.kept hk (fun hh => (hS _ hh).2.2.2.2.1 rfl) (fun hh => (hS _ hh).2.2.2.2.2 rfl), h.ev1, h.ev2, h.sq1, h.sq2⟩

/-- The map's turn alone. -/
theorem TellerAt.tally {g : Int → Int} (h : TellerAt w bt be bv br b bm n stream every seq f) (hk : Kept (fun i => i = bm) w w') (hh : HistAt w' b bm n g) : TellerAt w' bt be bv br b bm n stream every seq g := by
  have ne : ∀ {i : Nat} {o : Obj}, w.heap[i]? = some o → o.isCells = true → ¬ i = bm := by
    rintro i o hi ho rfl
    obtain ⟨es, ck, hm, _⟩ := h.hist.map
    rw [hm] at hi; cases hi; cases ho
  exact ⟨(hk.block bt h.lt (ne h.cells rfl)).trans h.cells, (hk.block be (Array.getElem?_eq_some_iff.1 h.evr).1 (ne h.evr rfl)).trans h.evr, (hk.block bv (Array.getElem?_eq_some_iff.1 h.var).1 (ne h.var rfl)).trans h.var,
    (hk.block br (Array.getElem?_eq_some_iff.1 h.rules).1 (ne h.rules rfl)).trans h.rules, hh, h.ev1, h.ev2, h.sq1, h.sq2⟩
end

theorem tmade_yes (w : World) {bt be bv br b bm n : Nat} {stream every seq : Int} {f : Int → Int} (h : TellerAt w bt be bv br b bm n stream every seq f) :
    Calls Try.prog 42 #[.pointer (some ⟨bt, 0, none⟩)] w fun e w' => e = .returned (.bool true) ∧ w = w' := by
  have hc := h.c1
  clear h
  go_enter Try.func42, Try.ntmps42
  go_wp2
  go_ret
  exact ⟨rfl, rfl⟩

theorem tmade_nil (w : World) :
    Calls Try.prog 42 #[.pointer none] w fun e w' => e = .returned (.bool false) ∧ w = w' := by
  go_enter Try.func42, Try.ntmps42
  go_wp2
  go_ret
  exact ⟨rfl, rfl⟩

/-- New. -/
theorem tnew_yes (w : World) (stream every : Int) (n : Nat) (h1 : 1 ≤ n) (h2 : n ≤ 255) (s1 : 0 ≤ stream) (s2 : stream ≤ 65535) (e1 : 1 ≤ every) (e2 : every ≤ 1000) :
    Calls Try.prog 17 #[.int .i64 stream, .int .i64 (n : Int), .int .i64 every] w fun e w' => ∃ bt be bv br b bm, e = .returned (.tuple #[.pointer (some ⟨bt, 0, none⟩), .int .i64 0]) ∧
      TellerAt w' bt be bv br b bm n stream every 0 emptyF ∧ Below w.heap.size w w' ∧ (w.heap.size ≤ bt ∧ w.heap.size ≤ be ∧ w.heap.size ≤ bv ∧ w.heap.size ≤ br ∧ w.heap.size ≤ b ∧ w.heap.size ≤ bm) := by
  have q1 : ¬ every ≤ 0 := by omega
  have q2 : ¬ 1000 < every := by omega
  have q3 : ¬ 65535 < stream := by omega
  go_enter Try.func17, Try.ntmps17
  go_wp2_with fail
  refine (new_hist _ n h1 h2).mono ?_
  rintro e w1 ⟨rfl, hh, hb⟩
  have HH := Lib.hid hh
  clear hh
  have d1 : w1.cell? ⟨w.heap.size, 0, none⟩ = some (.int .i64 every) := by
    rw [hb.cell (p := ⟨w.heap.size, 0, none⟩) (by simp)]
    exact World.cell?_alloc_new w #[.int .i64 every] 3 0
  have s1' := hb.size
  simp at s1'
  go_wp2
  go_ret2
  have hk : Below w1.heap.size w1 (((w1.alloc (.cells #[.slice (some ⟨w1.heap.size + 1 + 1, 0, none⟩) 3 3, .pointer (some ⟨w.heap.size + 1 + 1, 0, none⟩), .int .i64 stream, .int .i64 (n : Int), .int .i64 0] 60)).alloc (.cells #[.pointer (some ⟨w1.heap.size, 0, none⟩)] 38)).alloc
      (.cells #[.func (.func 38) #[] #[.pointer (some ⟨w.heap.size, 0, none⟩)], .func (.func 39) #[] #[.pointer (some ⟨w1.heap.size + 1, 0, none⟩)], .func (.func 40) #[] #[.pointer (some ⟨w1.heap.size + 1, 0, none⟩)]] 73)) :=
    (((Below.refl _ w1).alloc (Nat.le_refl _) _).alloc (by simp) _).alloc (by simp; omega) _
  have hh2 := HH.out.kept (Kept.below hk) (fun h => h) (fun h => h)
  simp only [World.size_alloc] at hh2
  refine ⟨w1.heap.size, w.heap.size, w1.heap.size + 1, w1.heap.size + 1 + 1, w.heap.size + 1 + 1, w.heap.size + 1, rfl, ⟨?_, ?_, ?_, ?_, hh2, e1, e2, by omega, by omega⟩, ?_, by omega, by omega, by omega, by omega, by omega, by omega⟩
  · exact (Below.heap_alloc _ _ _ (by simp; omega)).trans ((Below.heap_alloc _ _ _ (by simp)).trans (World.alloc_heap_new w1 _))
  · rw [hk.block _ (by omega), hb.block _ (by simp)]
    exact World.alloc_heap_new w _
  · refine (Below.heap_alloc _ _ _ (by simp)).trans ?_
    have := World.alloc_heap_new (w1.alloc (.cells #[.slice (some ⟨w1.heap.size + 1 + 1, 0, none⟩) 3 3, .pointer (some ⟨w.heap.size + 1 + 1, 0, none⟩), .int .i64 stream, .int .i64 (n : Int), .int .i64 0] 60)) (.cells #[.pointer (some ⟨w1.heap.size, 0, none⟩)] 38)
    rwa [World.size_alloc] at this
  · have := World.alloc_heap_new ((w1.alloc (.cells #[.slice (some ⟨w1.heap.size + 1 + 1, 0, none⟩) 3 3, .pointer (some ⟨w.heap.size + 1 + 1, 0, none⟩), .int .i64 stream, .int .i64 (n : Int), .int .i64 0] 60)).alloc (.cells #[.pointer (some ⟨w1.heap.size, 0, none⟩)] 38))
      (.cells #[.func (.func 38) #[] #[.pointer (some ⟨w.heap.size, 0, none⟩)], .func (.func 39) #[] #[.pointer (some ⟨w1.heap.size + 1, 0, none⟩)], .func (.func 40) #[] #[.pointer (some ⟨w1.heap.size + 1, 0, none⟩)]] 73)
    rwa [World.size_alloc, World.size_alloc] at this
  · exact (((Below.refl _ w).alloc (Nat.le_refl _) _).trans (hb.mono (by simp))).trans (hk.mono (by omega))

/-- New: what is no teller's. -/
def badT (stream n every : Int) : Prop := n < 1 ∨ 255 < n ∨ stream < 0 ∨ 65535 < stream ∨ every < 1 ∨ 1000 < every

theorem tnew_no (w : World) (stream n every : Int) (hst : -9223372036854775808 ≤ stream) (hst2 : stream ≤ 9223372036854775807) (h : badT stream n every) :
    Calls Try.prog 17 #[.int .i64 stream, .int .i64 n, .int .i64 every] w fun e w' => e = .returned (.tuple #[.pointer none, .int .i64 2]) ∧ Below w.heap.size w w' := by
  have HB := Lib.hid h
  clear h
  by_cases hn : n < 1 ∨ 255 < n
  · have HN := Lib.hid hn
    clear hn
    go_enter Try.func17, Try.ntmps17
    go_wp2_with fail
    refine (new_no _ n HN.out).mono ?_
    rintro e w1 ⟨rfl, rfl⟩
    go_wp2
    go_ret2
    exact ⟨rfl, (Below.refl _ w).alloc (Nat.le_refl _) _⟩
  · obtain ⟨m, rfl⟩ := Int.eq_ofNat_of_zero_le (show 0 ≤ n by omega)
    have HN := Lib.hid hn
    clear hn
    go_enter Try.func17, Try.ntmps17
    go_wp2_with fail
    refine (new_hist _ m (by have := HN.out; omega) (by have := HN.out; omega)).mono ?_
    rintro e w1 ⟨rfl, hh, hb⟩
    have d1 : w1.cell? ⟨w.heap.size, 0, none⟩ = some (.int .i64 every) := by
      rw [hb.cell (p := ⟨w.heap.size, 0, none⟩) (by simp)]
      exact World.cell?_alloc_new w #[.int .i64 every] 3 0
    have hB : Below w.heap.size w w1 := ((Below.refl _ w).alloc (Nat.le_refl _) _).trans (hb.mono (by simp))
    clear hh hb
    by_cases c1 : stream < 0
    · have hw : decide (65535 < IntKind.u64.wrap stream) = true := by simp [IntKind.wrap, IntKind.signed, IntKind.bits]; omega
      go_wp2
      go_ret2
      exact ⟨rfl, hB⟩
    · by_cases c2 : 65535 < stream
      · go_wp2
        go_ret2
        exact ⟨rfl, hB⟩
      · by_cases c3 : every ≤ 0
        · go_wp2
          go_ret2
          exact ⟨rfl, hB⟩
        · have c4 : 1000 < every := by
            have h1 := HB.out
            have h2 := HN.out
            unfold badT at h1
            omega
          go_wp2
          go_ret2
          exact ⟨rfl, hB⟩

end Go.Proofs.Ytacbmpffpfaciaa
