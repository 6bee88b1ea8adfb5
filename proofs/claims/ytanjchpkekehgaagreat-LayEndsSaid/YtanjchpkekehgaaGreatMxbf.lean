/-
  RefH: Walks of the reference, layer 5 (code): New, points, source.
  RefI: Walks of the reference, layer 5 (code): rows, moved.
-/
import Derived.Test.YtanjchpkekehgaaGreatMxaw
import Derived.Test.YtanjchpkekehgaaGreatMxan
namespace Go.Proofs.YtanjchpkekehgaaGreat

section -- RefH
open Go.RowKit Go.Maps
set_option linter.unusedVariables false
set_option maxRecDepth 100000
set_option maxHeartbeats 2000000

/-- The reference's coder. -/
def RCoderAt (w : World) (b n k : Nat) : Prop := w.heap[b]? = some (.cells #[.int .i64 (n : Int), .int .i64 (k : Int)] 83 (0, 0))
section
variable {w w' : World} {b n k : Nat}
theorem RCoderAt.lt (h : RCoderAt w b n k) : b < w.heap.size := (Array.getElem?_eq_some_iff.1 h).1
theorem RCoderAt.below (h : RCoderAt w b n k) (hb : Below w.heap.size w w') : RCoderAt w' b n k := (hb.block b h.lt).trans h
theorem RCoderAt.c0 (h : RCoderAt w b n k) : w.cell? ⟨b, 0, none⟩ = some (.int .i64 (n : Int)) := by rw [cell_of h]; rfl
theorem RCoderAt.c1 (h : RCoderAt w b n k) : w.cell? ⟨b, 1, none⟩ = some (.int .i64 (k : Int)) := by rw [cell_of h]; rfl
end

theorem rnew_any (w : World) (n k : Nat) (hk : 1 ≤ k) (hkn : k ≤ n) (hn : n ≤ 255) :
    Calls Tryz.prog 30 #[.int .i64 (n : Int), .int .i64 (k : Int)] w fun e w' => ∃ b, e = .returned (.tuple #[.pointer (some ⟨b, 0, none⟩), .int .i64 0]) ∧ RCoderAt w' b n k ∧ Below w.heap.size w w' := by
  have h1 : ¬ (k : Int) < 1 := by omega
  have h2 : ¬ (n : Int) < k := by omega
  have h3 : ¬ (255 : Int) < n := by omega
  have HC := Lib.hid (show RCoderAt (w.alloc (.cells #[.int .i64 (n : Int), .int .i64 (k : Int)] 83)) w.heap.size n k from heap_alloc_new w _)
  have HB := Lib.hid (bal' w (.cells #[.int .i64 (n : Int), .int .i64 (k : Int)] 83))
  go_enter Tryz.func30, Tryz.ntmps30
  go_wp2
  go_ret2
  exact ⟨_, rfl, HC.out, HB.out⟩

theorem rnew_bad (w : World) (n k : Int) (h : k < 1 ∨ n < k ∨ 255 < n) :
    Calls Tryz.prog 30 #[.int .i64 n, .int .i64 k] w fun e w' => e = .returned (.tuple #[.pointer none, .int .i64 2]) ∧ w = w' := by
  go_enter Tryz.func30, Tryz.ntmps30
  go_wp2
  all_goals
    first
      | (exfalso; omega)
      | (go_ret2; exact ⟨rfl, rfl⟩)

theorem ofB_mk {k : Nat} (h : k < 256) : (⟨k, h⟩ : B) = ofB k := B.ext (Nat.mod_eq_of_lt h).symm

theorem rpoints_any (w : World) (n : Nat) (hn : n ≤ 255) :
    Calls Tryz.prog 53 #[.int .i64 (n : Int)] w fun e w' => ∃ v, e = .returned v ∧ Own w' w.heap.size v (ptsL n) ∧ Below w.heap.size w w' := by
  go_enter Tryz.func53, Tryz.ntmps53
  go_wp2
  go_loopw [3, 4] (fun v i wr => ∃ k : Nat, k ≤ n ∧ i = .int .i64 (k : Int) ∧ Own wr w.heap.size v (ptsL k) ∧ Below w.heap.size w wr) (fun _ i _ => n - (intOf i).toNat)
  case atStart => exact ⟨0, Nat.zero_le _, rfl, Own.nil _ _, Below.refl _ _⟩
  case round =>
    obtain ⟨k, hk, rfl, ho, hB⟩ := hrel
    obtain ⟨pv, cv, rfl⟩ := ho.shape
    rw [ptsL_len] at ho ⊢
    have HOV := Lib.hid ho
    have HBR := Lib.hid hB
    have hsr := hB.size
    clear ho hB
    by_cases hlt : k < n
    · have hk2 : k < 256 := by omega
      have HS := Lib.hid (show ptsL k ++ [(⟨k, hk2⟩ : B)] = ptsL (k + 1) by rw [ofB_mk, ptsL_succ])
      go_wp2_with (at_builtin; refine app_own rfl _ _ rfl w.heap.size k _ _ ⟨k, hk2⟩ (ptsL_len _) HOV.out rfl rfl (by omega) hsr ?_; intro g' c' w6 hR6 hk6 hs6 hg6)
      go_roundw
      case rel =>
        refine ⟨k + 1, by omega, by go_num, by rw [← HS.out]; exact hR6, HBR.out.trans (hk6.toBelow hsr (fun i hi => (HOV.out.blk i hi).1))⟩
      case measure => simp [intOf]; omega
    · obtain rfl : k = n := by omega
      go_wp2
      go_ret
      exact ⟨_, rfl, HOV.out, HBR.out⟩

theorem rsource_any (w : World) {b n k : Nat} (hc : RCoderAt w b n k) (hk : 1 ≤ k) (hk2 : k ≤ 255) (vl : Value) (ls : List (List B)) (hl : RowsAt w vl ls) (hlen : ls.length ≤ 1000000000) :
    Calls Tryz.prog 51 #[.pointer (some ⟨b, 0, none⟩), vl] w fun e w' => e = .returned (.bool (decide (ls.length = k) && evenB ls)) ∧ ∃ nq, w' = w.drewN nq := by
  have d1 := hc.c1
  obtain ⟨pl, cl, rfl, hh⟩ := hl
  have HH := Lib.hid hh
  obtain ⟨r, hr⟩ : ∃ r, (decide (ls.length = k) && evenB ls) = r := ⟨_, rfl⟩
  rw [hr]
  have HRR := Lib.hid hr
  clear hc hh hr
  by_cases he : ls.length = k
  · have HE := Lib.hid he
    rw [he] at HH ⊢
    clear he
    go_enter Tryz.func51, Tryz.ntmps51
    go_wp2
    go_loopw [5] (fun i wr => ∃ (m nq : Nat), m ≤ k ∧ i = .int .i64 (m : Int) ∧ (∀ j, j < m → (ls.getD j []).length = (ls.getD 0 []).length) ∧ wr = w.drewN nq) (fun i _ => k - (intOf i).toNat)
    case atStart => exact ⟨0, 0, Nat.zero_le _, rfl, fun j h => absurd h (by omega), rfl⟩
    case round =>
      obtain ⟨m, nq, hm, rfl, hj, rfl⟩ := hrel
      have HJ := Lib.hid hj
      clear hj
      by_cases hlt : m < k
      · obtain ⟨g, off, rfl, hcc⟩ := HH.out (by omega)
        obtain ⟨u, x1, x2⟩ := hcc m hlt
        obtain ⟨u0, y1, y2⟩ := hcc 0 (by omega)
        rw [Nat.add_zero] at y1
        obtain ⟨pu, cu, rfl⟩ := x2.shape
        obtain ⟨p0, c0, rfl⟩ := y2.shape
        obtain ⟨lm, hlm⟩ : ∃ lm, (ls.getD m []).length = lm := ⟨_, rfl⟩
        obtain ⟨l0, hl0⟩ : ∃ l0, (ls.getD 0 []).length = l0 := ⟨_, rfl⟩
        rw [hlm] at x1
        rw [hl0] at y1 HJ
        have HLM := Lib.hid hlm
        have HL0 := Lib.hid hl0
        clear hcc x2 y2 hlm hl0
        by_cases hel : lm = l0
        · subst hel
          go_wp2_with fail
          go_quiet (fail)
          go_wp2
          go_roundw
          case rel =>
            refine ⟨m + 1, _, by omega, by go_num, fun j hj => ?_, rfl⟩
            rw [HL0.out]
            by_cases e : j = m
            · rw [e]; exact HLM.out
            · exact HJ.out j (by omega)
          case measure => simp [intOf]; omega
        · have hne1 : ¬ (lm : Int) = l0 := by omega
          have hne2 : (lm == l0) = false := by simpa using hel
          have HR := Lib.hid (show r = false by
            rw [← HRR.out, Bool.and_eq_false_iff]
            right
            unfold evenB
            rw [List.all_eq_false]
            refine ⟨ls.getD m [], ?_, by rw [HLM.out, HL0.out]; simpa using hel⟩
            have : m < ls.length := by rw [HE.out]; exact hlt
            rw [List.getD_eq_getElem?_getD, List.getElem?_eq_getElem this]
            exact List.getElem_mem this)
          go_wp2_with fail
          go_quiet (fail)
          go_wp2
          go_ret
          exact ⟨by rw [HR.out]; rfl, _, by rw [World.drewN_drewN]⟩
      · obtain rfl : m = k := by omega
        have HR := Lib.hid (show r = true by
          rw [← HRR.out, Bool.and_eq_true]
          exact ⟨by simpa using HE.out, evenB_of (wide := (ls.getD 0 []).length) (fun i hi => HJ.out i (by rw [← HE.out]; exact hi))⟩)
        go_wp2
        go_ret
        exact ⟨by rw [HR.out]; rfl, nq, rfl⟩
  · have hne1 : ¬ (ls.length : Int) = k := by omega
    have hne2 : (ls.length == k) = false := by simpa using he
    have HE := Lib.hid (show r = false by rw [← HRR.out]; simp [he])
    clear he
    go_enter Tryz.func51, Tryz.ntmps51
    go_wp2
    go_ret
    exact ⟨by rw [HE.out]; rfl, 0, rfl⟩
end -- RefH

section -- RefI
open Go.RowKit Go.Maps
set_option linter.unusedVariables false
set_option maxRecDepth 100000
set_option maxHeartbeats 4000000

def gridV (wide : Nat) (g : Nat → Nat) (r : Nat) : Value := .slice (some ⟨g r, 0, none⟩) wide wide
/-- Rows that were made: the outer cells, each row in a block of its own. -/
structure GridAt (w : World) (base : Nat) (v : Value) (n wide : Nat) (g : Nat → Nat) (M : Nat → Nat → B) : Prop where
  outer : w.ownsRow base 50 1 v n ((List.range n).map (gridV wide g))
  row : ∀ r, r < n → RowF w (g r) (rowL wide (M r))
  ne : ∀ r, r < n → v.ownBlock ≠ some (g r)
  inj : ∀ r s, r < n → s < n → g r = g s → r = s
  low : ∀ r, r < n → base ≤ g r

section
variable {w w' : World} {base n wide : Nat} {v : Value} {g : Nat → Nat} {M : Nat → Nat → B}
theorem GridAt.kept {S : Nat → Prop} (h : GridAt w base v n wide g M) (hk : Kept S w w') (h1 : ∀ b, v.ownBlock = some b → ¬ S b) (h2 : ∀ r, r < n → ¬ S (g r)) : GridAt w' base v n wide g M :=
  ⟨ownsRow_keptS h.outer hk h1, fun r hr => (h.row r hr).kept hk (h2 r hr), h.ne, h.inj, h.low⟩
theorem GridAt.below (h : GridAt w base v n wide g M) (hb : Below w.heap.size w w') : GridAt w' base v n wide g M := h.kept (Kept.below hb) (fun _ _ h => h) (fun _ _ h => h)
theorem GridAt.congr {M' : Nat → Nat → B} (h : GridAt w base v n wide g M) (he : ∀ r j, r < n → j < wide → M r j = M' r j) : GridAt w base v n wide g M' :=
  ⟨h.outer, fun r hr => by rw [← rowL_congr (fun j hj => he r j hr hj)]; exact h.row r hr, h.ne, h.inj, h.low⟩
theorem GridAt.dr (h : GridAt w base v n wide g M) (q : Nat) : GridAt (w.drewN q) base v n wide g M := ⟨h.outer, h.row, h.ne, h.inj, h.low⟩
theorem GridAt.at' (h : GridAt w base v n wide g M) (h0 : 0 < n) : ∃ b c, v = .slice (some ⟨b, 0, none⟩) n c ∧ base ≤ b ∧ b < w.heap.size ∧ ∀ r, r < n → w.cell? ⟨b, r, none⟩ = some (gridV wide g r) := by
  obtain ⟨ho1, ho2⟩ := h.outer
  rcases ho2 with ⟨_, hz⟩ | ⟨b, c, cur, e, h2, h3, h4, h5, h6, h7⟩
  · omega
  · refine ⟨b, c, e, h2, (Array.getElem?_eq_some_iff.1 h3).1, fun r hr => ?_⟩
    have : ((List.range n).map (gridV wide g))[r]? = some (gridV wide g r) := by simp [hr]
    rw [← h7, List.getElem?_take, if_pos (by omega), Array.getElem?_toList] at this
    rw [cell_of h3, this]
theorem GridAt.shape (h : GridAt w base v n wide g M) : ∃ p c, v = .slice p n c := by
  obtain ⟨ho1, ho2⟩ := h.outer
  rcases ho2 with ⟨e, hz⟩ | ⟨b, c, cur, e, _⟩
  · subst hz; exact ⟨none, 0, e⟩
  · exact ⟨_, c, e⟩
theorem GridAt.rows (h : GridAt w base v n wide g M) : RowsAt w v ((List.range n).map fun r => rowL wide (M r)) := by
  refine RowsAt.of_owns (base := base) (us := (List.range n).map (gridV wide g)) (by simpa using h.outer) (fun i u hu => ?_)
  have hi : i < n := by
    have := (List.getElem?_eq_some_iff.1 hu).1
    simpa using this
  have e : u = gridV wide g i := by simpa [hi] using hu.symm
  subst e
  rw [getD_range _ _ hi]
  have := (h.row i hi).toBytes wide
  rw [rowL_len] at this
  exact this
/-- One byte is written. -/
theorem GridAt.set (h : GridAt w base v n wide g M) {r j : Nat} (hr : r < n) (hj : j < wide) (x : B) : GridAt (w.setCell ⟨g r, j, none⟩ (bv x)) base v n wide g (fun a b => if a = r ∧ b = j then x else M a b) := by
  have hk : Kept (fun i => i = g r) w (w.setCell ⟨g r, j, none⟩ (bv x)) := Kept.set1 _ _ _ _
  refine ⟨ownsRow_keptS h.outer hk (fun b hb e => h.ne r hr (by rw [hb, e])), fun s hs => ?_, h.ne, h.inj, h.low⟩
  by_cases e : s = r
  · subst e
    have := (h.row s hs).set (i := j) (by rw [rowL_len]; exact hj) x
    have e2 : (rowL wide (M s)).set j x = rowL wide (fun b => if s = s ∧ b = j then x else M s b) := by
      apply List.ext_getElem
      · simp [rowL]
      · intro i h1 h2
        simp [rowL] at h1
        rw [List.getElem_set]
        simp only [rowL, List.getElem_map, List.getElem_range, true_and]
        by_cases q : j = i
        · rw [if_pos q, if_pos q.symm]
        · rw [if_neg q, if_neg (fun z => q z.symm)]
    rw [← e2]; exact this
  · have e2 : rowL wide (fun b => if s = r ∧ b = j then x else M s b) = rowL wide (M s) := rowL_congr (fun b _ => if_neg (fun z => e z.1))
    rw [e2]
    exact (h.row s hs).kept hk (fun z => e (h.inj s r hs hr z))
end

theorem rrows_any (w : World) (n wide : Nat) (hn : n ≤ 255) (hw : wide ≤ 1000000) :
    Calls Tryz.prog 69 #[.int .i64 (n : Int), .int .i64 (wide : Int)] w fun e w' => ∃ v g, e = .returned v ∧ GridAt w' w.heap.size v n wide g (fun _ _ => 0) ∧ Below w.heap.size w w' := by
  go_enter Tryz.func69, Tryz.ntmps69
  go_wp2
  go_loopw [5, 6] (fun v i wr => ∃ (k : Nat) (g : Nat → Nat), k ≤ n ∧ i = .int .i64 (k : Int) ∧ GridAt wr w.heap.size v k wide g (fun _ _ => 0) ∧ (∀ r, r < k → g r < wr.heap.size) ∧ Below w.heap.size w wr) (fun _ i _ => n - (intOf i).toNat)
  case atStart => exact ⟨0, fun _ => 0, Nat.zero_le _, rfl, ⟨World.ownsRow_nil _ _ _ _, fun r h => absurd h (by omega), fun r h => absurd h (by omega), fun r s h => absurd h (by omega), fun r h => absurd h (by omega)⟩, fun r h => absurd h (by omega), Below.refl _ _⟩
  case round =>
    obtain ⟨k, g, hk, rfl, hG, hgs, hB⟩ := hrel
    have HG := Lib.hid hG
    have HGS := Lib.hid hgs
    have HBR := Lib.hid hB
    have hsr := hB.size
    by_cases hlt : k < n
    · have hmk := run_make_one (w := wr) 50 5 (.int .u8 0) 1 Tryz.underlying50 infoB rfl (by omega) wide (by omega)
      have hA := bal' wr (.cells (Array.replicate wide (.int .u8 0)) 5)
      have hO := ownsRow_keptS hG.outer (Kept.below hA) (fun _ _ h => h)
      have HO := Lib.hid hO
      have HA := Lib.hid hA
      have HF := Lib.hid (RowF.made wr wide)
      have HSA := Lib.hid (show (wr.alloc (.cells (Array.replicate wide (.int .u8 0)) 5)).heap.size = wr.heap.size + 1 by simp)
      clear hO hA hG hgs hB
      go_wp2_with (at_builtin; refine app_el 22 50 1 24 (.slice none 0 0) Tryz.underlying22 infoR rfl (by decide) rfl _ _ rfl w.heap.size k u5 _ rfl HO.out [.slice (some ⟨wr.heap.size, 0, none⟩) wide wide] rfl (one_slice _ _ _) (by rw [HSA.out]; rfl) (by omega) (by rw [HSA.out]; omega) ?_; intro g' c' w6 hR6 hk6 hs6 hg6)
      go_roundw
      case rel =>
        have hsa := HSA.out
        have hv : ∀ b, u5.ownBlock = some b → b < wr.heap.size := fun b hb => (HG.out.outer.lt b hb).2
        have hkk : Kept (fun b => u5.ownBlock = some b) wr w6 := ((Kept.below HA.out).mono (fun _ _ h => h.elim)).trans hk6 (fun _ _ h => h)
        refine ⟨k + 1, fun r => if r = k then wr.heap.size else g r, by omega, by go_num, ⟨?_, fun r hr => ?_, fun r hr => ?_, fun r s hr hs e => ?_, fun r hr => ?_⟩, fun r hr => ?_, HBR.out.trans (hkk.toBelow hsr (fun i hi => (HG.out.outer.lt i hi).1))⟩
        · have e : (List.range (k + 1)).map (gridV wide fun r => if r = k then wr.heap.size else g r) = (List.range k).map (gridV wide g) ++ [.slice (some ⟨wr.heap.size, 0, none⟩) wide wide] := by
            rw [List.range_succ, List.map_append]
            congr 1
            · apply List.map_congr_left
              intro r hr
              have := List.mem_range.1 hr
              show Value.slice (some ⟨if r = k then wr.heap.size else g r, 0, none⟩) wide wide = Value.slice (some ⟨g r, 0, none⟩) wide wide
              rw [if_neg (show ¬ r = k by omega)]
            · simp [gridV]
          rw [e]
          exact hR6
        · by_cases e : r = k
          · subst e
            simp only [if_true]
            have h0 : rowL wide (fun _ => (0 : B)) = List.replicate wide 0 := by apply List.ext_getElem <;> simp [rowL]
            rw [h0]
            exact HF.out.kept hk6 (fun hb => by have := hv _ hb; omega)
          · simp only [if_neg e]
            exact (HG.out.row r (by omega)).kept hkk (HG.out.ne r (by omega))
        · intro e
          have e' : g' = if r = k then wr.heap.size else g r := by simpa [Value.ownBlock] using e
          by_cases q : r = k
          · rw [if_pos q] at e'
            rcases hg6 with z | z
            · have := hv _ z; omega
            · omega
          · rw [if_neg q] at e'
            have h1 := HGS.out r (by omega)
            rcases hg6 with z | z
            · exact HG.out.ne r (by omega) (by rw [← e']; exact z)
            · omega
        · by_cases q1 : r = k <;> by_cases q2 : s = k
          · omega
          · rw [if_pos q1, if_neg q2] at e
            have h1 := HGS.out s (by omega)
            omega
          · rw [if_neg q1, if_pos q2] at e
            have h1 := HGS.out r (by omega)
            omega
          · rw [if_neg q1, if_neg q2] at e
            exact HG.out.inj r s (by omega) (by omega) e
        · by_cases q : r = k
          · simp only [if_pos q]; exact hsr
          · simp only [if_neg q]; exact HG.out.low r (by omega)
        · by_cases q : r = k
          · simp only [if_pos q]; omega
          · simp only [if_neg q]
            have h1 := HGS.out r (by omega)
            omega
      case measure => simp [intOf]; omega
    · obtain rfl : k = n := by omega
      clear hG hgs hB
      go_wp2
      go_ret
      exact ⟨_, g, rfl, HG.out, HBR.out⟩
end -- RefI

end Go.Proofs.YtanjchpkekehgaaGreat
