/-
  Walk of layer 5: blank, Mul (rows).
-/
import Derived.Test.YtaaahbpeaamjgaaCodeUd
namespace Go.Proofs.Ytaaahbpeaamjgaa
open Go.RowKit Go.Maps
set_option linter.unusedVariables false
set_option maxRecDepth 100000
set_option maxHeartbeats 4000000

theorem rep_rowL (n : Nat) : List.replicate n (0 : B) = rowL n fun _ => 0 := by unfold rowL; apply List.ext_getElem <;> simp

theorem blank_any (w : World) (k wd : Nat) (hk1 : k ≤ 1000) (hw : wd ≤ 1000000) :
    Calls Try.prog 28 #[.int .i64 (k : Int), .int .i64 (wd : Int)] w fun e w' => ∃ gm U, e = .returned (.slice (some ⟨gm, 0, none⟩) k k) ∧ MatW w' gm k wd U (fun _ _ => 0) ∧ (∀ i, matB gm k U i → w.heap.size ≤ i) ∧ Below w.heap.size w w' := by
  have hmk := run_make_one (w := w) 58 34 (.slice none 0 0) 24 Try.underlying58 infoR rfl (by omega) k (by omega)
  go_enter Try.func28, Try.ntmps28
  go_wp2
  clear hmk
  have hB0 : Below w.heap.size w (w.alloc (.cells (Array.replicate k (.slice none 0 0)) 34)) := (Below.refl _ _).alloc (Nat.le_refl _) _
  have H0 := Lib.hid (heap_alloc_new w (.cells (Array.replicate k (.slice none 0 0)) 34))
  generalize (w.alloc (.cells (Array.replicate k (.slice none 0 0)) 34)) = w1 at *
  have HM0 := Lib.hid (show MatP w1 w.heap.size 0 wd (fun _ => (0, 0)) (fun _ _ => 0) from ⟨⟨_, H0.out, Nat.zero_le _, fun r h => absurd h (by omega)⟩, fun r h => absurd h (by omega), fun r s h => absurd h (by omega), fun r h => absurd h (by omega)⟩)
  go_loopw [6, 11] (fun _ i wr => ∃ (j : Nat) (U : Nat → Nat × Nat), j ≤ k ∧ i = .int .i64 (j : Int) ∧ MatP wr w.heap.size j wd U (fun _ _ => 0) ∧ (∀ r, r < j → w.heap.size < (U r).1 ∧ (U r).1 < wr.heap.size) ∧ (∃ C : Array Value, wr.heap[w.heap.size]? = some (.cells C 34 (0, 0)) ∧ C.size = k) ∧ Below w.heap.size w wr) (fun _ i _ => k - (intOf i).toNat)
  case atStart => exact ⟨0, fun _ => (0, 0), Nat.zero_le _, rfl, HM0.out, fun r h => absurd h (by omega), ⟨_, H0.out, by simp⟩, hB0⟩
  case round =>
    obtain ⟨j, U, hj, rfl, hm, hu, ⟨C, hC, hCs⟩, hB⟩ := hrel
    have HM := Lib.hid hm
    have HU := Lib.hid hu
    have HC := Lib.hid hC
    have hml := hm.lt
    clear hm hu
    by_cases hlt : j < k
    · have hjC : j < C.size := by omega
      obtain ⟨cj, hcj⟩ : ∃ x, C[j]? = some x := ⟨C[j], by simp [hCs, hlt]⟩
      have hmk := run_make_one (w := wr) 34 5 (.int .u8 0) 1 Try.underlying34 infoB rfl (by omega) wd (by omega)
      have f0 := fz_of HC.out j
      have f1 : wr.cell? ⟨w.heap.size, j, none⟩ = some cj := by rw [cell_of HC.out, hcj]
      have kS := Kept.set1 wr w.heap.size j (.slice (some ⟨wr.heap.size, 0, none⟩) wd wd)
      have kS2 := Kept.alloc (fun i => i = w.heap.size) (wr.setCell ⟨w.heap.size, j, none⟩ (.slice (some ⟨wr.heap.size, 0, none⟩) wd wd)) (.cells (Array.replicate wd (.int .u8 0)) 5)
      have hss : (wr.setCell ⟨w.heap.size, j, none⟩ (.slice (some ⟨wr.heap.size, 0, none⟩) wd wd)).heap.size = wr.heap.size := by simp [World.setCell]
      have hz4 := RowF.made (wr.setCell ⟨w.heap.size, j, none⟩ (.slice (some ⟨wr.heap.size, 0, none⟩) wd wd)) wd
      rw [hss] at hz4
      have k5 := (kS.trans kS2 (fun _ _ h => h)).mono (S' := fun i => i = w.heap.size ∨ i = wr.heap.size) (fun _ _ h => .inl h)
      have HC5 := Lib.hid ((Below.heap_alloc (wr.setCell ⟨w.heap.size, j, none⟩ (.slice (some ⟨wr.heap.size, 0, none⟩) wd wd)) (.cells (Array.replicate wd (.int .u8 0)) 5) w.heap.size (by omega)).trans (heap_set (i := j) HC.out (.slice (some ⟨wr.heap.size, 0, none⟩) wd wd)))
      have HG := Lib.hid (HM.out.grow (cp := wd) (g := wr.heap.size) hjC HC.out HC5.out k5 (by omega) (fun r hr => by have := (HU.out r hr).2; omega) (by
        have := hz4.toC (by simp [maxLen]; omega)
        rw [rep_rowL, rowL_len] at this
        exact this))
      have hs5 : ((wr.setCell ⟨w.heap.size, j, none⟩ (.slice (some ⟨wr.heap.size, 0, none⟩) wd wd)).alloc (.cells (Array.replicate wd (.int .u8 0)) 5)).heap.size = wr.heap.size + 1 := by simp [hss]
      have HCS := Lib.hid hCs
      clear hC hCs hcj hz4 kS kS2
      go_wp2
      go_roundw
      case rel =>
        refine ⟨j + 1, _, by omega, by go_num, HG.out, fun r hr => ?_, ⟨_, HC5.out, by simpa using HCS.out⟩, hB.trans (k5.toBelow (by omega) (fun i h => by omega))⟩
        rw [hs5]
        by_cases e : r = j
        · simp only [if_pos e]; exact ⟨by omega, by omega⟩
        · simp only [if_neg e]
          have := HU.out r (by omega)
          exact ⟨this.1, by omega⟩
      case measure => simp [intOf]; omega
    · obtain rfl : j = k := by omega
      go_wp2
      go_ret
      exact ⟨_, U, rfl, HM.out.toW HC.out hCs, fun i h => by
        rcases h with h | ⟨r, hr, h⟩
        · omega
        · have := (HU.out r hr).1; omega, hB⟩

theorem BytesAt.old {w w' : World} {v : Value} {l : List B} (h : BytesAt w v l) (hc : ∀ b o x, w.cell? ⟨b, o, none⟩ = some x → w'.cell? ⟨b, o, none⟩ = some x) : BytesAt w' v l := by
  obtain ⟨p, c, rfl, hh⟩ := h
  exact ⟨p, c, rfl, fun h0 => by
    obtain ⟨g, o, rfl, hx⟩ := hh h0
    exact ⟨g, o, rfl, fun i hi => hc _ _ _ (hx i hi)⟩⟩
theorem add_empty_any (w : World) (bf : Nat) (g c : Nat) (v2 : Value) (y : B) :
    Calls Try.prog 29 #[.agg #[.pointer (some ⟨bf, 0, none⟩)], .slice (some ⟨g, 0, none⟩) 0 c, v2, bv y] w fun e w' => (∃ v, e = .returned v) ∧ Kept (fun _ => False) w w' := by
  by_cases hy : y = 0
  · subst hy
    exact add_zero_any w bf _ _
  · have hy0 : y.v ≠ 0 := fun e => hy (B.ext e)
    have hy1 : (((y.v : Nat) : Int) == 0) = false := by simp; omega
    clear hy hy0
    go_enter Try.func29, Try.ntmps29
    go_wp2
    have kA := Kept.alloc (fun _ => False) w (.cells #[.pointer (some ⟨bf, 0, none⟩)] 60)
    generalize (w.alloc (.cells #[.pointer (some ⟨bf, 0, none⟩)] 60)) = w1 at *
    go_loopw [8, 13] (fun _ i wr => i = .int .i64 0 ∧ wr = w1) (fun _ i _ => 0)
    case atStart => exact ⟨rfl, rfl⟩
    case round =>
      obtain ⟨rfl, rfl⟩ := hrel
      go_wp2
      go_end0
      exact ⟨⟨_, rfl⟩, kA⟩

theorem add_row_any (w : World) (bf g n c : Nat) (p : Option Addr) (c2 : Nat) (f : Nat → B) (l : List B) (y : B) (hF : FieldAt w bf) (hR : RowC w g c (rowL n f)) (hg : bf ≠ g) (hn : n ≤ 1000000000) (hl : l.length = n) (hB : BytesAt w (.slice p n c2) l) (hne : 0 < n → ∀ go oo, p = some ⟨go, oo, none⟩ → go ≠ g) :
    Calls Try.prog 29 #[.agg #[.pointer (some ⟨bf, 0, none⟩)], .slice (some ⟨g, 0, none⟩) n c, .slice p n c2, bv y] w fun e w' => (∃ v, e = .returned v) ∧ RowC w' g c (rowL n fun i => f i + l.getD i 0 * y) ∧ Kept (fun i => i = g) w w' := by
  by_cases h0 : n = 0
  · subst h0
    refine (add_empty_any w bf g c _ y).mono ?_
    rintro e w' ⟨he, hk⟩
    exact ⟨he, hR.kept hk (fun h => h), hk.mono (fun _ _ h => h.elim)⟩
  · obtain ⟨_, _, e, hh⟩ := hB
    rw [hl] at e hh
    simp only [Value.slice.injEq, true_and] at e
    obtain ⟨rfl, rfl⟩ := e
    obtain ⟨go, oo, rfl, hc⟩ := hh (by omega)
    exact add_any w bf g n c go oo n c2 f (fun i => l.getD i 0) y hF hR hg hn (hne (by omega) go oo rfl) (Nat.le_refl _) hn hc

/-- A product's place, of the first m. -/
def mulP (la lb : List (List B)) (m r c : Nat) : B := sm m fun s => lsM lb s c * lsM la r s

theorem mul_any (w : World) (va vb : Value) (la lb : List (List B)) (n m wd : Nat) (ha : RowsAt w va la) (hb : RowsAt w vb lb) (hla : la.length = n) (hlb : lb.length = m) (n0 : 0 < n) (m0 : 0 < m) (hn : n ≤ 255) (hm : m ≤ 255) (hw : wd ≤ 255)
    (hwa : ∀ i, i < la.length → (la.getD i []).length = m) (hwb : ∀ i, i < lb.length → (lb.getD i []).length = wd) :
    Calls Try.prog 18 #[va, vb] w fun e w' => ∃ gm U, e = .returned (.tuple #[.slice (some ⟨gm, 0, none⟩) n n, .int .i64 0]) ∧ MatW w' gm n wd U (mulP la lb m) ∧ (∀ i, matB gm n U i → w.heap.size ≤ i) ∧ Below w.heap.size w w' := by
  have HRA := Lib.hid (rright_any w va la m ha (by omega) (by omega) hwa (by omega))
  have HRB := Lib.hid (rright_any w vb lb wd hb (by omega) (by omega) hwb (by omega))
  have HWA := Lib.hid (wide_any w va la m ha (by omega) (by omega) hwa)
  have HBV := Lib.hid hb
  have HLB := Lib.hid hlb
  have HWB := Lib.hid hwb
  have HWR := Lib.hid hwa
  obtain ⟨pa, ca, rfl, hha⟩ := ha
  obtain ⟨pb, cb, rfl, hhb⟩ := hb
  rw [hla] at hha HRA HWA HWR ⊢
  rw [hlb] at hhb HRB HBV ⊢
  obtain ⟨ga, oa, rfl, hca⟩ := hha n0
  obtain ⟨gb, ob, rfl, hcb⟩ := hhb m0
  have HA := Lib.hid hca
  have HB := Lib.hid hcb
  clear hha hhb hca hcb hwa hwb hlb hla
  go_enter Try.func18, Try.ntmps18
  go_wp2_with fail
  refine HRA.out.mono ?_
  rintro e w' ⟨rfl, rfl⟩
  go_wp2_with fail
  refine HRB.out.mono ?_
  rintro e w' ⟨rfl, rfl⟩
  go_wp2_with fail
  refine HWA.out.mono ?_
  rintro e w' ⟨rfl, rfl⟩
  go_wp2_with fail
  refine (fnew_any w).mono ?_
  rintro e w1 ⟨bf, rfl, hF, hbf, hB1⟩
  have HF := Lib.hid hF
  have HB1 := Lib.hid hB1
  clear hF hB1
  go_wp2_with fail
  have hB2 : Below w.heap.size w (w1.alloc (.cells #[.pointer (some ⟨bf, 0, none⟩)] 60)) := HB1.out.alloc HB1.out.size _
  have hc0 : (w1.alloc (.cells #[.pointer (some ⟨bf, 0, none⟩)] 60)).cell? ⟨w1.heap.size, 0, none⟩ = some (.pointer (some ⟨bf, 0, none⟩)) := World.cell?_alloc_new w1 _ _ 0
  have HF2 := Lib.hid (HF.out.kept (Kept.alloc (fun _ => False) w1 (.cells #[.pointer (some ⟨bf, 0, none⟩)] 60)) (fun h => h))
  have hs1 := HB1.out.size
  generalize (w1.alloc (.cells #[.pointer (some ⟨bf, 0, none⟩)] 60)) = w2 at *
  refine (wide_any w2 _ lb wd (HBV.out.kept (Kept.below (Below.mk hB2.os hB2.tape hB2.output hB2.size hB2.block)) (fun _ _ h => h)) (by rw [HLB.out]; omega) (by rw [HLB.out]; omega) HWB.out).mono ?_
  rintro e w' ⟨rfl, rfl⟩
  have lc0 := blt hc0
  go_wp2_with fail
  refine (blank_any w2 n wd (by omega) (by omega)).mono ?_
  rintro e w3 ⟨gm, U, rfl, hM, hU, hB3⟩
  have HM := Lib.hid hM
  have HU := Lib.hid hU
  have hc3 := (hB3.cell (p := ⟨w1.heap.size, 0, none⟩) lc0).trans hc0
  have HF3 := Lib.hid (HF2.out.kept (Kept.below hB3) (fun h => h))
  have hs2 := hB2.size
  have hs23 := hB3.size
  have HB3 := Lib.hid (below_more hB2 hB3 hs2)
  have hfl := HF2.out.lt
  clear hM hU hB2 hB3 hc0
  go_wp2
  go_loopw [8, 9, 10, 35, 38, 39, 40, 41, 42, 43] (fun _ _ _ i _ _ _ _ _ _ wr => ∃ r : Nat, r ≤ n ∧ i = .int .i64 (r : Int) ∧ MatW wr gm n wd U (fun i c => if i < r then mulP la lb m i c else 0) ∧ Kept (matB gm n U) w3 wr) (fun _ _ _ i _ _ _ _ _ _ _ => n - (intOf i).toNat)
  case atStart => exact ⟨0, Nat.zero_le _, rfl, HM.out.congr (fun i c _ _ => by simp), Kept.refl _ _⟩
  case round =>
    obtain ⟨w0, rfl⟩ : ∃ w0, w0 = wr := ⟨_, rfl⟩
    obtain ⟨r, hr, rfl, hm0, kk⟩ := hrel
    have HM1 := Lib.hid hm0
    have KK := Lib.hid kk
    clear hm0 kk
    by_cases hlt : r < n
    · obtain ⟨u, x1, x2⟩ := HA.out r hlt
      obtain ⟨p1, c1, e1, x3⟩ := x2
      rw [HWR.out r hlt] at e1 x3
      subst e1
      obtain ⟨g1, o1, rfl, x4⟩ := x3 m0
      have lx := blt x1
      have ly := blt (x4 0 m0)
      have nb : ∀ b, b < w.heap.size → ¬ matB gm n U b := fun b hb h => by have := HU.out b h; omega
      have NB := Lib.hid nb
      have s3 := HB3.out.size
      have y1 := (KK.out.cell (p := ⟨ga, oa + r, none⟩) (by simp; omega) (NB.out _ lx)).trans ((HB3.out.cell (p := ⟨ga, oa + r, none⟩) lx).trans x1)
      have HX4 := Lib.hid x4
      clear x1 x3 x4 nb
      go_wp2
      go_loopw [9, 10, 43] (fun _ _ i wr => ∃ s : Nat, s ≤ m ∧ i = .int .i64 (s : Int) ∧ MatW wr gm n wd U (fun i c => if i < r then mulP la lb m i c else if i = r then sm s (fun s => lsM lb s c * lsM la r s) else 0) ∧ Kept (matB gm n U) w3 wr) (fun _ _ i _ => m - (intOf i).toNat)
      case atStart => exact ⟨0, Nat.zero_le _, rfl, HM1.out.congr (fun i c _ _ => by by_cases e : i < r <;> simp [e, sm]), KK.out⟩
      case round =>
        obtain ⟨s, hs, rfl, hm2, kk2⟩ := hrel
        have HM2 := Lib.hid hm2
        have KK2 := Lib.hid kk2
        clear hm2 kk2
        by_cases hlt2 : s < m
        · have z1 := (KK2.out.cell (p := ⟨g1, o1 + s, none⟩) (by simp; omega) (NB.out _ ly)).trans ((HB3.out.cell (p := ⟨g1, o1 + s, none⟩) ly).trans (HX4.out s hlt2))
          obtain ⟨ub, b1, b2⟩ := HB.out s hlt2
          have lb1 := blt b1
          obtain ⟨p2, c2, rfl⟩ := b2.shape
          rw [HWB.out s (by rw [HLB.out]; omega)] at b1
          rw [HWB.out s (by rw [HLB.out]; omega)] at b2
          have z2 := (KK2.out.cell (p := ⟨gb, ob + s, none⟩) (by simp; omega) (NB.out _ lb1)).trans ((HB3.out.cell (p := ⟨gb, ob + s, none⟩) lb1).trans b1)
          have z3 := HM2.out.out hlt
          have z4 := (KK2.out.cell (p := ⟨w1.heap.size, 0, none⟩) (by simp; omega) (fun h => by have := HU.out w1.heap.size h; omega)).trans hc3
          have HB4 := Lib.hid (b2.old (w' := wr) (fun b o x h => (KK2.out.cell (p := ⟨b, o, none⟩) (by have := blt h; simp; omega) (NB.out _ (blt h))).trans ((HB3.out.cell (p := ⟨b, o, none⟩) (blt h)).trans h)))
          have HF4 := Lib.hid (HF3.out.kept KK2.out (fun h => by have := HU.out _ h; omega))
          have HRW := Lib.hid (HM2.out.row r hlt)
          have hbu : bf ≠ (U r).1 := fun e => by have := HU.out (U r).1 (.inr ⟨r, hlt, rfl⟩); omega
          have HLN := Lib.hid (HWB.out s (by rw [HLB.out]; omega))
          have HNE := Lib.hid (show 0 < wd → ∀ go oo, p2 = some ⟨go, oo, none⟩ → go ≠ (U r).1 from fun h0 go oo e q => by
            obtain ⟨_, _, e2, hh⟩ := b2
            rw [HWB.out s (by rw [HLB.out]; omega)] at e2 hh
            simp only [Value.slice.injEq, true_and] at e2
            obtain ⟨rfl, rfl⟩ := e2
            obtain ⟨g5, o5, e5, h5⟩ := hh h0
            have e6 := e.symm.trans e5
            simp only [Option.some.injEq, Addr.mk.injEq] at e6
            have := blt (h5 0 h0)
            exact NB.out go (by omega) (.inr ⟨r, hlt, q.symm⟩))
          obtain ⟨y, hy⟩ : ∃ y, (la.getD r []).getD s 0 = y := ⟨_, rfl⟩
          rw [hy] at z1
          have HY := Lib.hid hy
          clear b1 b2 hy
          go_wp2_with fail
          refine wp_still_tail 10 (by kernel_rfl) (by kernel_rfl) ?_
          simp only [List.take_succ_cons, List.take_zero, List.drop_succ_cons, List.drop_zero]
          repeat still_step
          refine wpStill_nil ?_
          go_wp2_with fail
          refine (add_row_any wr.drew bf (U r).1 wd (U r).2 p2 c2 _ (lb.getD s []) y (show FieldAt _ _ from HF4.out) (show RowC _ _ _ _ from HRW.out) hbu (by omega) HLN.out (show BytesAt _ _ _ from HB4.out) HNE.out).mono ?_
          rintro e w7 ⟨⟨ev, rfl⟩, hr7, k67⟩
          have HM7 := Lib.hid ((show MatW wr.drew gm n wd U _ from HM2.out.dr 1).turn hlt k67 hr7)
          have kk7 := (KK2.out.drew).trans k67 (fun i _ h => .inr ⟨r, hlt, h.symm⟩)
          clear hr7 k67
          go_wp2
          go_roundw
          case rel =>
            refine ⟨s + 1, by omega, by go_num, HM7.out.congr (fun i c _ _ => ?_), kk7⟩
            by_cases e : i = r
            · subst e
              simp only [if_true, Nat.lt_irrefl, if_false]
              rw [← HY.out]
              rfl
            · rw [if_neg e]
              simp only [if_neg e]
          case measure => simp [intOf]; omega
        · obtain rfl : s = m := by omega
          go_wp2
          go_roundw
          case rel =>
            refine ⟨r + 1, by omega, by go_num, HM2.out.congr (fun i c _ _ => ?_), KK2.out⟩
            by_cases e : i = r
            · subst e
              rw [if_neg (by omega), if_pos rfl, if_pos (by omega)]
              rfl
            · by_cases q : i < r
              · rw [if_pos q, if_pos (by omega)]
              · rw [if_neg q, if_neg e, if_neg (by omega)]
          case measure => simp [intOf]; omega
    · obtain rfl : r = n := by omega
      have HR := Lib.hid (HM1.out.congr (M' := mulP la lb m) (fun i c hi _ => if_pos hi))
      go_wp2
      go_ret2
      exact ⟨gm, U, rfl, HR.out, fun i h => by have := HU.out i h; omega, HB3.out.trans (KK.out.toBelow (by have := HB3.out.size; omega) (fun i h => by have := HU.out i h; omega))⟩

end Go.Proofs.Ytaaahbpeaamjgaa
