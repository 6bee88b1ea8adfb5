/-
  CodeSc: Walk of layer 5 (code): asked.
  CodeRb: A matrix that a call owns; walks of layer 3 (rows): steps's closure, IndexFunc.
-/
import Derived.Test.YtlmpagicjgldkaaGreatMxaq
import Derived.Test.YtlmpagicjgldkaaGreatMxao
import Derived.Test.YtlmpagicjgldkaaGreatCodeRa
namespace Go.Proofs.YtlmpagicjgldkaaGreat

section -- CodeSc
open Go.RowKit Go.Maps Go.Shelf Go.Sort
set_option linter.unusedVariables false
set_option maxRecDepth 100000
set_option maxHeartbeats 2000000

theorem values_any (w : World) (p : Option Addr) (n c : Nat) :
    Calls Tryz.prog 53 #[.slice p n c] w fun e w' => e = .returned (.func (.func 66) #[] #[.pointer (some ⟨w.heap.size, 0, none⟩)]) ∧ w.alloc (.cells #[.slice p n c] 32) = w' := by
  go_enter Tryz.func53, Tryz.ntmps53
  go_wp2
  go_ret
  exact ⟨rfl, rfl⟩

/-- Compact of a row that a call owns. -/
theorem compact_any (w : World) (base : Nat) (v : Value) (zs : List Int) (h : w.ownsRow base 3 1 v zs.length (zs.map (Value.int .i64))) (hl : zs.length ≤ 1000000) (hb : base ≤ w.heap.size) :
    Calls Tryz.prog 54 #[v] w fun e w' => ∃ p c, e = .returned (.slice p (Go.Lib.compact zs).length c) ∧ Kept (fun k => v.ownBlock = some k) w w' := by
  rcases h.2 with ⟨rfl, hz⟩ | ⟨g, cap, cur, rfl, hbase, hgb, r1, r2, r3, r4⟩
  · have : zs = [] := List.eq_nil_of_length_eq_zero hz
    subst this
    refine (Tryz.slices_Compact_int_empty none 0 w).mono ?_
    rintro e w' ⟨rfl, rfl⟩
    exact ⟨none, 0, rfl, Kept.refl _ _⟩
  · have hH : Holds (Value.int .i64) w g 0 zs.toArray := holds_of_blockI hgb (by simpa using r4)
    refine (Tryz.slices_Compact_int g 0 cap zs w hH (by omega) r1).mono ?_
    rintro e w' ⟨rfl, q, rfl⟩
    refine ⟨_, _, rfl, ?_⟩
    have := grownBy_sortedI (w := w) (g := g) (n := q) (os := #[]) (Go.Lib.compact zs ++ List.replicate (zs.length - (Go.Lib.compact zs).length) 0).toArray
    rw [grow_empty] at this
    exact ⟨this.os, this.tape, this.output, this.size, fun k hk hn => this.block k hk (fun e => hn (by simpa [Value.ownBlock] using (Option.some.inj e).symm))⟩

theorem asked_any (w : World) {bc n k bf : Nat} {vt : Value} (hc : CoderAt w bc n k bf vt) (v : Value) (xs : List Int) (hv : IntsAt w v xs) (hl : xs.length ≤ 1000000) :
    Calls Tryz.prog 57 #[.pointer (some ⟨bc, 0, none⟩), v] w fun e w' => e = .returned (.int .i64 (askE n k xs)) ∧ Below w.heap.size w w' := by
  have HC := Lib.hid hc
  have HV := Lib.hid hv
  have hlc := hc.lt
  have c2 := hc.c2
  have c1 := hc.c1
  obtain ⟨pt, ct, hvt⟩ := hc.table.shape
  rw [tblL_len] at hvt
  subst hvt
  obtain ⟨p, cap, hvv, _⟩ := hv
  subst hvv
  have hB0 : Below w.heap.size w (w.alloc (.cells #[.slice p xs.length cap] 32)) := (Below.refl _ _).alloc (Nat.le_refl _) _
  have HSV := Lib.hid (sortedVals_any w.heap.size (.slice p xs.length cap) xs hl (w.alloc (.cells #[.slice p xs.length cap] 32)) (World.cell?_alloc_new w #[.slice p xs.length cap] 32 0) (HV.out.below hB0))
  clear hc
  go_enter Tryz.func57, Tryz.ntmps57
  go_wp2_with fail
  refine (values_any w _ _ _).mono ?_
  rintro e w' ⟨rfl, rfl⟩
  go_wp2_with fail
  refine HSV.out.mono ?_
  rintro e w1 ⟨vs, rfl, hrow, hB1⟩
  have hB2 : Below w.heap.size w w1 := below_more hB0 hB1 (by simp)
  have HR := Lib.hid (ownsRow_weaken hrow (base' := w.heap.size) (by simp))
  have hs2 := hB2.size
  have d1 := (hB2.cell (p := ⟨bc, 1, none⟩) hlc).trans c1
  have d2 := (hB2.cell (p := ⟨bc, 2, none⟩) hlc).trans c2
  have HCO := Lib.hid (fun (m : Nat) => compact_any (w1.drewN m) w.heap.size vs (sortL xs) (by rw [sortL_len]; exact HR.out) (by rw [sortL_len]; exact hl) hs2)
  have HOB := Lib.hid (show ∀ b, vs.ownBlock = some b → w.heap.size ≤ b from fun b hb => (HR.out.lt b hb).1)
  have HTW := Lib.hid (ask_twice xs)
  clear hrow hB0 hB1
  by_cases h0 : xs.length = 0
  · have hx : xs = [] := List.eq_nil_of_length_eq_zero h0
    subst hx
    have hIA := IntsAt.of_owns (w := w1) (base := w.heap.size) (v := vs) (xs := []) (by have := HR.out; rw [show sortL [] = [] from by simp [sortL]] at this; exact this)
    obtain ⟨pv, cv, rfl, hcv, hiv⟩ := hIA
    have hk1 := HC.out.k1
    have HRES := Lib.hid (show askE n k [] = 8 by unfold askE; simp; omega)
    have hkk : (0 : Int) < k := by omega
    have hkn : 0 < k := by omega
    have hc0 : (Go.Lib.compact (sortL [])).length = 0 := by have := compact_len (sortL []); simp [sortL] at this ⊢; exact this
    rw [hc0] at HCO
    simp only [List.length_nil] at HCO ⊢
    clear hiv hc0 hl
    go_wp2_with fail
    go_quiet (fail)
    go_wp2_with fail
    refine (HCO.out nq).mono ?_
    rintro e w3 ⟨p3, c3, rfl, hk3⟩
    have y2 := (hk3.cell (p := ⟨bc, 2, none⟩) (by show bc < w1.heap.size; omega) (fun h => by have := HOB.out _ h; simp only at this; omega)).trans (show (w1.drewN nq).cell? ⟨bc, 2, none⟩ = some (.int .i64 (k : Int)) from d2)
    have HB3 := Lib.hid ((show Below w.heap.size w (w1.drewN nq) from ⟨hB2.os, hB2.tape, hB2.output, hB2.size, hB2.block⟩).trans (hk3.toBelow hs2 (fun i h => HOB.out i h)))
    clear hk3
    go_wp2
    go_ret
    exact ⟨by rw [HRES.out]; rfl, HB3.out⟩
  · have hIA := IntsAt.of_owns (w := w1) (base := w.heap.size) (v := vs) (xs := sortL xs) (by rw [sortL_len]; exact HR.out)
    obtain ⟨pv, cv, rfl, hcv, hiv⟩ := hIA
    rw [sortL_len] at hcv hiv
    obtain ⟨g, off, rfl, hcells⟩ := hiv (by omega)
    have x0 := hcells 0 (by omega)
    rw [Nat.add_zero] at x0
    have x1 := hcells (xs.length - 1) (by omega)
    have HAO := Lib.hid (ask_out (n := n) (xs := xs) (by omega))
    have HSL := Lib.hid (sortL_len xs)
    rw [HSL.out] at HCO ⊢
    obtain ⟨a, ha⟩ : ∃ a, (sortL xs).getD 0 0 = a := ⟨_, rfl⟩
    obtain ⟨b, hb⟩ : ∃ b, (sortL xs).getD (xs.length - 1) 0 = b := ⟨_, rfl⟩
    rw [ha] at x0 HAO
    rw [hb] at x1 HAO
    obtain ⟨len, hlen⟩ : ∃ len, xs.length = len := ⟨_, rfl⟩
    have hk1 := HC.out.k1
    obtain ⟨last, hlast⟩ : ∃ last, len - 1 = last := ⟨_, rfl⟩
    have hlast2 : (len : Int) - 1 = (last : Int) := by omega
    have hlast3 : last < len := by omega
    rw [hlen, hlast] at x1
    have HLEN := Lib.hid hlen
    rw [hlen] at HCO ⊢
    have g0 : 0 < len := by omega
    have gi : (0 : Int) < len := by omega
    have h13 : len ≤ 1000000 := by omega
    have HL2 := Lib.hid hlast2
    clear hcells ha hb hlen hlast h0 hl
    by_cases ha0 : a < 0
    · have hd : decide (a < 0) = true := by simpa using ha0
      have HRES := Lib.hid (show askE n k xs = 2 by unfold askE; rw [HAO.out.2 (.inl ha0)]; rfl)
      go_wp2_with fail
      go_quiet (fail)
      go_wp2
      go_ret
      exact ⟨by rw [HRES.out]; rfl, ⟨hB2.os, hB2.tape, hB2.output, hB2.size, hB2.block⟩⟩
    · have hd : decide (a < 0) = false := by simpa using ha0
      by_cases hbn : (n : Int) ≤ b
      · have HRES := Lib.hid (show askE n k xs = 2 by unfold askE; rw [HAO.out.2 (.inr hbn)]; rfl)
        have hd2 : decide ((n : Int) ≤ b) = true := by simpa using hbn
        go_wp2_with fail
        go_quiet (fail)
        go_wp2
        go_ret
        exact ⟨by rw [HRES.out]; rfl, ⟨hB2.os, hB2.tape, hB2.output, hB2.size, hB2.block⟩⟩
      · have hd2 : decide ((n : Int) ≤ b) = false := by simpa using hbn
        have HALL := Lib.hid (show xs.all (fun x => decide (0 ≤ x) && decide (x < n)) = true from by
          cases e : xs.all (fun x => decide (0 ≤ x) && decide (x < n)) with
          | true => rfl
          | false => exact absurd (HAO.out.1 e) (by omega))
        go_wp2_with fail
        go_quiet (fail)
        obtain ⟨cl, hcl⟩ : ∃ cl, (Go.Lib.compact (sortL xs)).length = cl := ⟨_, rfl⟩
        rw [hcl, HLEN.out] at HTW
        rw [hcl] at HCO
        clear hcl
        go_wp2_with fail
        refine (HCO.out nq).mono ?_
        rintro e w3 ⟨p3, c3, rfl, hk3⟩
        have y2 := (hk3.cell (p := ⟨bc, 2, none⟩) (by show bc < w1.heap.size; omega) (fun h => by have := HOB.out _ h; simp only at this; omega)).trans (show (w1.drewN nq).cell? ⟨bc, 2, none⟩ = some (.int .i64 (k : Int)) from d2)
        have HB3 := Lib.hid ((show Below w.heap.size w (w1.drewN nq) from ⟨hB2.os, hB2.tape, hB2.output, hB2.size, hB2.block⟩).trans (hk3.toBelow hs2 (fun i h => HOB.out i h)))
        clear hk3
        by_cases hcn : cl < len
        · have HRES := Lib.hid (show askE n k xs = 9 by unfold askE; rw [if_pos HALL.out, if_neg (HTW.out.1 hcn)])
          have hcd : (cl : Int) < len := by omega
          go_wp2
          go_ret
          exact ⟨by rw [HRES.out]; rfl, HB3.out⟩
        · have hnd : xs.Nodup := by
            by_cases q : xs.Nodup
            · exact q
            · exact absurd (HTW.out.2 q) hcn
          have hcd : ¬ (cl : Int) < len := by omega
          have hcd2 : decide (cl < len) = false := by simpa using hcn
          by_cases hkl : len < k
          · have HRES := Lib.hid (show askE n k xs = 8 by unfold askE; rw [if_pos HALL.out, if_pos hnd, if_pos (by rw [HLEN.out]; exact hkl)])
            have hkd : (len : Int) < k := by omega
            go_wp2
            go_ret
            exact ⟨by rw [HRES.out]; rfl, HB3.out⟩
          · have HRES := Lib.hid (show askE n k xs = 0 by unfold askE; rw [if_pos HALL.out, if_pos hnd, if_neg (by rw [HLEN.out]; exact hkl)])
            have hkd : ¬ (len : Int) < k := by omega
            have hkd2 : decide (len < k) = false := by simpa using hkl
            go_wp2
            go_ret
            exact ⟨by rw [HRES.out]; rfl, HB3.out⟩
end -- CodeSc

section -- CodeRb
open Go.RowKit Go.Maps
set_option linter.unusedVariables false
set_option maxRecDepth 100000
set_option maxHeartbeats 2000000

/-- A matrix in memory: the outer block gm; row r in the block U r, of that capacity. -/
structure MatW (w : World) (gm k W : Nat) (U : Nat → Nat × Nat) (M : Nat → Nat → B) : Prop where
  outer : ∃ C : Array Value, w.heap[gm]? = some (.cells C 43 (0, 0)) ∧ C.size = k ∧ ∀ r, r < k → C[r]? = some (.slice (some ⟨(U r).1, 0, none⟩) W (U r).2)
  row : ∀ r, r < k → RowC w (U r).1 (U r).2 (rowL W (M r))
  inj : ∀ r s, r < k → s < k → (U r).1 = (U s).1 → r = s
  ne : ∀ r, r < k → (U r).1 ≠ gm

/-- The blocks of a matrix. -/
def matB (gm k : Nat) (U : Nat → Nat × Nat) (i : Nat) : Prop := i = gm ∨ ∃ r, r < k ∧ (U r).1 = i

section
variable {w w' : World} {gm k W : Nat} {U : Nat → Nat × Nat} {M : Nat → Nat → B}
theorem MatW.out (h : MatW w gm k W U M) {r : Nat} (hr : r < k) : w.cell? ⟨gm, r, none⟩ = some (.slice (some ⟨(U r).1, 0, none⟩) W (U r).2) := by
  obtain ⟨C, h1, h2, h3⟩ := h.outer
  rw [cell_of h1, h3 r hr]
theorem MatW.fz (h : MatW w gm k W U M) (o : Nat) : w.frozen? ⟨gm, o, none⟩ = false := by
  obtain ⟨C, h1, h2, h3⟩ := h.outer
  exact fz_of h1 o
theorem MatW.lt (h : MatW w gm k W U M) : gm < w.heap.size := by
  obtain ⟨C, h1, h2, h3⟩ := h.outer
  exact (Array.getElem?_eq_some_iff.1 h1).1
theorem MatW.cell (h : MatW w gm k W U M) {r j : Nat} (hr : r < k) (hj : j < W) : w.cell? ⟨(U r).1, j, none⟩ = some (bv (M r j)) := by
  have := (h.row r hr).cell (i := j) (by rw [rowL_len]; exact hj)
  rw [rowL_get _ hj] at this
  exact this
theorem MatW.kept {S : Nat → Prop} (h : MatW w gm k W U M) (hk : Kept S w w') (hS : ∀ i, matB gm k U i → ¬ S i) : MatW w' gm k W U M := by
  obtain ⟨C, h1, h2, h3⟩ := h.outer
  exact ⟨⟨C, (hk.block gm h.lt (hS gm (.inl rfl))).trans h1, h2, h3⟩, fun r hr => (h.row r hr).kept hk (hS _ (.inr ⟨r, hr, rfl⟩)), h.inj, h.ne⟩
theorem MatW.dr (h : MatW w gm k W U M) (n : Nat) : MatW (w.drewN n) gm k W U M := ⟨h.outer, h.row, h.inj, h.ne⟩
/-- A row turns. -/
theorem MatW.turn (h : MatW w gm k W U M) {r : Nat} (hr : r < k) {f : Nat → B} (hk : Kept (fun i => i = (U r).1) w w') (hR : RowC w' (U r).1 (U r).2 (rowL W f)) : MatW w' gm k W U (fun i => if i = r then f else M i) := by
  obtain ⟨C, h1, h2, h3⟩ := h.outer
  refine ⟨⟨C, (hk.block gm h.lt (fun e => h.ne r hr e.symm)).trans h1, h2, h3⟩, fun i hi => ?_, h.inj, h.ne⟩
  by_cases e : i = r
  · subst e
    have : (fun j => (if i = i then f else M i) j) = f := by simp
    simpa using hR
  · simp only [if_neg e]
    exact (h.row i hi).kept hk (fun q => e (h.inj i r hi hr q))
theorem MatW.congr {M' : Nat → Nat → B} (h : MatW w gm k W U M) (he : ∀ r j, r < k → j < W → M r j = M' r j) : MatW w gm k W U M' :=
  ⟨h.outer, fun r hr => by rw [← rowL_congr (fun j hj => he r j hr hj)]; exact h.row r hr, h.inj, h.ne⟩
/-- Two rows, one for another. -/
def swapU (U : Nat → Nat × Nat) (c p : Nat) : Nat → Nat × Nat := fun r => if r = c then U p else if r = p then U c else U r
theorem MatW.swap (h : MatW w gm k W U M) {c p : Nat} (hc : c < k) (hp : p < k) :
    MatW ((w.setCell ⟨gm, c, none⟩ (.slice (some ⟨(U p).1, 0, none⟩) W (U p).2)).setCell ⟨gm, p, none⟩ (.slice (some ⟨(U c).1, 0, none⟩) W (U c).2)) gm k W (swapU U c p) (swapM M c p) := by
  obtain ⟨C, h1, h2, h3⟩ := h.outer
  have k1 : Kept (fun i => i = gm) w ((w.setCell ⟨gm, c, none⟩ (.slice (some ⟨(U p).1, 0, none⟩) W (U p).2)).setCell ⟨gm, p, none⟩ (.slice (some ⟨(U c).1, 0, none⟩) W (U c).2)) :=
    (Kept.set1 _ _ _ _).trans (Kept.set1 _ _ _ _) (fun _ _ h => h)
  have hu : ∀ r, r < k → ∃ s, s < k ∧ swapU U c p r = U s ∧ swapM M c p r = M s ∧ (r = c → s = p) ∧ (r = p → s = c) ∧ (r ≠ c → r ≠ p → s = r) := by
    intro r hr
    unfold swapU swapM
    by_cases e1 : r = c
    · exact ⟨p, hp, by rw [if_pos e1], by rw [if_pos e1], fun _ => rfl, fun e => by omega, fun e => absurd e1 e⟩
    · by_cases e2 : r = p
      · exact ⟨c, hc, by rw [if_neg e1, if_pos e2], by rw [if_neg e1, if_pos e2], fun e => absurd e e1, fun _ => rfl, fun _ e => absurd e2 e⟩
      · exact ⟨r, hr, by rw [if_neg e1, if_neg e2], by rw [if_neg e1, if_neg e2], fun e => absurd e e1, fun e => absurd e e2, fun _ _ => rfl⟩
  refine ⟨⟨(C.setIfInBounds c _).setIfInBounds p _, heap_set (heap_set h1 _) _, by simpa using h2, fun r hr => ?_⟩, fun r hr => ?_, fun r s hr hs e => ?_, fun r hr => ?_⟩
  · unfold swapU
    by_cases e2 : r = p
    · subst e2
      rw [Array.getElem?_setIfInBounds_self_of_lt (by simp; omega)]
      by_cases e1 : r = c
      · subst e1; rw [if_pos rfl]
      · rw [if_neg e1, if_pos rfl]
    · rw [Array.getElem?_setIfInBounds_ne (fun e => e2 e.symm)]
      by_cases e1 : r = c
      · subst e1
        rw [Array.getElem?_setIfInBounds_self_of_lt (by omega), if_pos rfl]
      · rw [Array.getElem?_setIfInBounds_ne (fun e => e1 e.symm), if_neg e1, if_neg e2]
        exact h3 r hr
  · obtain ⟨s, hs, e1, e2, _⟩ := hu r hr
    rw [e1, e2]
    exact (h.row s hs).kept k1 (h.ne s hs)
  · obtain ⟨a, ha, a1, _, a3, a4, a5⟩ := hu r hr
    obtain ⟨b, hb, b1, _, b3, b4, b5⟩ := hu s hs
    rw [a1, b1] at e
    have hab := h.inj a b ha hb e
    by_cases r1 : r = c <;> by_cases r2 : r = p <;> by_cases s1 : s = c <;> by_cases s2 : s = p <;> simp_all
  · obtain ⟨s, hs, e1, _⟩ := hu r hr
    rw [e1]; exact h.ne s hs
theorem matB_swap {c p : Nat} (hc : c < k) (hp : p < k) {i : Nat} (h : matB gm k (swapU U c p) i) : matB gm k U i := by
  rcases h with h | ⟨r, hr, h⟩
  · exact .inl h
  · unfold swapU at h
    by_cases e1 : r = c
    · rw [if_pos e1] at h; exact .inr ⟨p, hp, h⟩
    · rw [if_neg e1] at h
      by_cases e2 : r = p
      · rw [if_pos e2] at h; exact .inr ⟨c, hc, h⟩
      · rw [if_neg e2] at h; exact .inr ⟨r, hr, h⟩
end

theorem steps1_any (w : World) (bc g c : Nat) (f : Nat → B) (n cp : Nat) (hb : w.cell? ⟨bc, 0, none⟩ = some (.int .i64 (c : Int))) (hr : w.cell? ⟨g, c, none⟩ = some (bv (f c))) (hc : c < n) (hn : n ≤ 1000000000) :
    Calls Tryz.prog 81 #[.slice (some ⟨g, 0, none⟩) n cp, .pointer (some ⟨bc, 0, none⟩)] w fun e w' => e = .returned (.bool ((f c).v != 0)) ∧ w = w' := by
  obtain ⟨x, hx⟩ : ∃ x, f c = x := ⟨_, rfl⟩
  rw [hx] at hr ⊢
  clear hx
  go_enter Tryz.func81, Tryz.ntmps81
  go_wp2
  go_ret
  refine ⟨?_, rfl⟩
  have := bne_cast x.v 0
  show Ending.returned (.bool ((x.v : Int) != 0)) = _
  rw [← this]; rfl
end -- CodeRb

end Go.Proofs.YtlmpagicjgldkaaGreat
