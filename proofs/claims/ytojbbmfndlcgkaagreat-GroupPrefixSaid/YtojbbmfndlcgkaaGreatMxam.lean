/-
  Walk of layer 5 (code): asked.
-/
import Derived.Test.YtojbbmfndlcgkaaGreatMxae
import Derived.Test.YtojbbmfndlcgkaaGreatMxal
namespace Go.Proofs.YtojbbmfndlcgkaaGreat
open Go.RowKit Go.Maps Go.Shelf Go.Sort
set_option linter.unusedVariables false
set_option maxRecDepth 100000
set_option maxHeartbeats 2000000

theorem values_any (w : World) (p : Option Addr) (n c : Nat) :
    Calls Tryz.prog 94 #[.slice p n c] w fun e w' => e = .returned (.func (.func 102) #[] #[.pointer (some ⟨w.heap.size, 0, none⟩)]) ∧ w.alloc (.cells #[.slice p n c] 23) = w' := by
  go_enter Tryz.func94, Tryz.ntmps94
  go_wp2
  go_ret
  exact ⟨rfl, rfl⟩

/-- Compact of a row that a call owns. -/
theorem compact_any (w : World) (base : Nat) (v : Value) (zs : List Int) (h : w.ownsRow base 3 1 v zs.length (zs.map (Value.int .i64))) (hl : zs.length ≤ 1000000) (hb : base ≤ w.heap.size) :
    Calls Tryz.prog 95 #[v] w fun e w' => ∃ p c, e = .returned (.slice p (Go.Lib.compact zs).length c) ∧ Kept (fun k => v.ownBlock = some k) w w' := by
  rcases h.2 with ⟨rfl, hz⟩ | ⟨g, cap, cur, rfl, hbase, hgb, r1, r2, r3, r4⟩
  · have : zs = [] := List.eq_nil_of_length_eq_zero hz
    subst this
    refine (Tryz.slices_Compact_int_empty none 0 w).mono ?_
    rintro e w' ⟨rfl, rfl⟩
    exact ⟨none, 0, rfl, Kept.refl _ _⟩
  · have hH : Holds (Value.int .i64) w g 0 zs.toArray := holds_of_blockI hgb (by simpa using r4)
    refine (Tryz.slices_Compact_int g 0 cap zs w hH (by omega) r1).mono ?_
    rintro e w' ⟨rfl, q, rfl⟩
    refine ⟨_, _, rfl, ?_⟩
    have := grownBy_sortedI (w := w) (g := g) (n := q) (os := #[]) (Go.Lib.compact zs ++ List.replicate (zs.length - (Go.Lib.compact zs).length) 0).toArray
    rw [grow_empty] at this
    exact ⟨this.os, this.tape, this.output, this.size, fun k hk hn => this.block k hk (fun e => hn (by simpa [Value.ownBlock] using (Option.some.inj e).symm))⟩

theorem asked_any (w : World) {bc n k bf : Nat} {vt : Value} (hc : CoderAt w bc n k bf vt) (v : Value) (xs : List Int) (hv : IntsAt w v xs) (hl : xs.length ≤ 1000000) :
    Calls Tryz.prog 84 #[.pointer (some ⟨bc, 0, none⟩), v] w fun e w' => e = .returned (.int .i64 (askE n k xs)) ∧ Below w.heap.size w w' := by
  have HC := Lib.hid hc
  have HV := Lib.hid hv
  have hlc := hc.lt
  have c2 := hc.c2
  have c1 := hc.c1
  obtain ⟨pt, ct, hvt⟩ := hc.table.shape
  rw [tblL_len] at hvt
  subst hvt
  obtain ⟨p, cap, hvv, _⟩ := hv
  subst hvv
  have hB0 : Below w.heap.size w (w.alloc (.cells #[.slice p xs.length cap] 23)) := (Below.refl _ _).alloc (Nat.le_refl _) _
  have HSV := Lib.hid (sortedVals_any w.heap.size (.slice p xs.length cap) xs hl (w.alloc (.cells #[.slice p xs.length cap] 23)) (World.cell?_alloc_new w #[.slice p xs.length cap] 23 0) (HV.out.below hB0))
  clear hc
  go_enter Tryz.func84, Tryz.ntmps84
  go_wp2_with fail
  refine (values_any w _ _ _).mono ?_
  rintro e w' ⟨rfl, rfl⟩
  go_wp2_with fail
  refine HSV.out.mono ?_
  rintro e w1 ⟨vs, rfl, hrow, hB1⟩
  have hB2 : Below w.heap.size w w1 := below_more hB0 hB1 (by simp)
  have HR := Lib.hid (ownsRow_weaken hrow (base' := w.heap.size) (by simp))
  have hs2 := hB2.size
  have d1 := (hB2.cell (p := ⟨bc, 1, none⟩) hlc).trans c1
  have d2 := (hB2.cell (p := ⟨bc, 2, none⟩) hlc).trans c2
  have HCO := Lib.hid (fun (m : Nat) => compact_any (w1.drewN m) w.heap.size vs (sortL xs) (by rw [sortL_len]; exact HR.out) (by rw [sortL_len]; exact hl) hs2)
  have HOB := Lib.hid (show ∀ b, vs.ownBlock = some b → w.heap.size ≤ b from fun b hb => (HR.out.lt b hb).1)
  have HTW := Lib.hid (ask_twice xs)
  clear hrow hB0 hB1
  by_cases h0 : xs.length = 0
  · have hx : xs = [] := List.eq_nil_of_length_eq_zero h0
    subst hx
    have hIA := IntsAt.of_owns (w := w1) (base := w.heap.size) (v := vs) (xs := []) (by have := HR.out; rw [show sortL [] = [] from by simp [sortL]] at this; exact this)
    obtain ⟨pv, cv, rfl, hcv, hiv⟩ := hIA
    have hk1 := HC.out.k1
    have HRES := Lib.hid (show askE n k [] = 8 by unfold askE; simp; omega)
    have hkk : (0 : Int) < k := by omega
    have hkn : 0 < k := by omega
    have hc0 : (Go.Lib.compact (sortL [])).length = 0 := by have := compact_len (sortL []); simp [sortL] at this ⊢; exact this
    rw [hc0] at HCO
    simp only [List.length_nil] at HCO ⊢
    clear hiv hc0 hl
    go_wp2_with fail
    go_quiet (fail)
    go_wp2_with fail
    refine (HCO.out nq).mono ?_
    rintro e w3 ⟨p3, c3, rfl, hk3⟩
    have y2 := (hk3.cell (p := ⟨bc, 2, none⟩) (by show bc < w1.heap.size; omega) (fun h => by have := HOB.out _ h; simp only at this; omega)).trans (show (w1.drewN nq).cell? ⟨bc, 2, none⟩ = some (.int .i64 (k : Int)) from d2)
    have HB3 := Lib.hid ((show Below w.heap.size w (w1.drewN nq) from ⟨hB2.os, hB2.tape, hB2.output, hB2.size, hB2.block⟩).trans (hk3.toBelow hs2 (fun i h => HOB.out i h)))
    clear hk3
    go_wp2
    go_ret
    exact ⟨by rw [HRES.out]; rfl, HB3.out⟩
  · have hIA := IntsAt.of_owns (w := w1) (base := w.heap.size) (v := vs) (xs := sortL xs) (by rw [sortL_len]; exact HR.out)
    obtain ⟨pv, cv, rfl, hcv, hiv⟩ := hIA
    rw [sortL_len] at hcv hiv
    obtain ⟨g, off, rfl, hcells⟩ := hiv (by omega)
    have x0 := hcells 0 (by omega)
    rw [Nat.add_zero] at x0
    have x1 := hcells (xs.length - 1) (by omega)
    have HAO := Lib.hid (ask_out (n := n) (xs := xs) (by omega))
    have HSL := Lib.hid (sortL_len xs)
    rw [HSL.out] at HCO ⊢
    obtain ⟨a, ha⟩ : ∃ a, (sortL xs).getD 0 0 = a := ⟨_, rfl⟩
    obtain ⟨b, hb⟩ : ∃ b, (sortL xs).getD (xs.length - 1) 0 = b := ⟨_, rfl⟩
    rw [ha] at x0 HAO
    rw [hb] at x1 HAO
    obtain ⟨len, hlen⟩ : ∃ len, xs.length = len := ⟨_, rfl⟩
    have hk1 := HC.out.k1
    obtain ⟨last, hlast⟩ : ∃ last, len - 1 = last := ⟨_, rfl⟩
    have hlast2 : (len : Int) - 1 = (last : Int) := by omega
    have hlast3 : last < len := by omega
    rw [hlen, hlast] at x1
    have HLEN := Lib.hid hlen
    rw [hlen] at HCO ⊢
    have g0 : 0 < len := by omega
    have gi : (0 : Int) < len := by omega
    have h13 : len ≤ 1000000 := by omega
    have HL2 := Lib.hid hlast2
    clear hcells ha hb hlen hlast h0 hl
    by_cases ha0 : a < 0
    · have hd : decide (a < 0) = true := by simpa using ha0
      have HRES := Lib.hid (show askE n k xs = 2 by unfold askE; rw [HAO.out.2 (.inl ha0)]; rfl)
      go_wp2_with fail
      go_quiet (fail)
      go_wp2
      go_ret
      exact ⟨by rw [HRES.out]; rfl, ⟨hB2.os, hB2.tape, hB2.output, hB2.size, hB2.block⟩⟩
    · have hd : decide (a < 0) = false := by simpa using ha0
      by_cases hbn : (n : Int) ≤ b
      · have HRES := Lib.hid (show askE n k xs = 2 by unfold askE; rw [HAO.out.2 (.inr hbn)]; rfl)
        have hd2 : decide ((n : Int) ≤ b) = true := by simpa using hbn
        go_wp2_with fail
        go_quiet (fail)
        go_wp2
        go_ret
        exact ⟨by rw [HRES.out]; rfl, ⟨hB2.os, hB2.tape, hB2.output, hB2.size, hB2.block⟩⟩
      · have hd2 : decide ((n : Int) ≤ b) = false := by simpa using hbn
        have HALL := Lib.hid (show xs.all (fun x => decide (0 ≤ x) && decide (x < n)) = true from by
          cases e : xs.all (fun x => decide (0 ≤ x) && decide (x < n)) with
          | true => rfl
          | false => exact absurd (HAO.out.1 e) (by omega))
        go_wp2_with fail
        go_quiet (fail)
        obtain ⟨cl, hcl⟩ : ∃ cl, (Go.Lib.compact (sortL xs)).length = cl := ⟨_, rfl⟩
        rw [hcl, HLEN.out] at HTW
        rw [hcl] at HCO
        clear hcl
        go_wp2_with fail
        refine (HCO.out nq).mono ?_
        rintro e w3 ⟨p3, c3, rfl, hk3⟩
        have y2 := (hk3.cell (p := ⟨bc, 2, none⟩) (by show bc < w1.heap.size; omega) (fun h => by have := HOB.out _ h; simp only at this; omega)).trans (show (w1.drewN nq).cell? ⟨bc, 2, none⟩ = some (.int .i64 (k : Int)) from d2)
        have HB3 := Lib.hid ((show Below w.heap.size w (w1.drewN nq) from ⟨hB2.os, hB2.tape, hB2.output, hB2.size, hB2.block⟩).trans (hk3.toBelow hs2 (fun i h => HOB.out i h)))
        clear hk3
        by_cases hcn : cl < len
        · have HRES := Lib.hid (show askE n k xs = 9 by unfold askE; rw [if_pos HALL.out, if_neg (HTW.out.1 hcn)])
          have hcd : (cl : Int) < len := by omega
          go_wp2
          go_ret
          exact ⟨by rw [HRES.out]; rfl, HB3.out⟩
        · have hnd : xs.Nodup := by
            by_cases q : xs.Nodup
            · exact q
            · exact absurd (HTW.out.2 q) hcn
          have hcd : ¬ (cl : Int) < len := by omega
          have hcd2 : decide (cl < len) = false := by simpa using hcn
          by_cases hkl : len < k
          · have HRES := Lib.hid (show askE n k xs = 8 by unfold askE; rw [if_pos HALL.out, if_pos hnd, if_pos (by rw [HLEN.out]; exact hkl)])
            have hkd : (len : Int) < k := by omega
            go_wp2
            go_ret
            exact ⟨by rw [HRES.out]; rfl, HB3.out⟩
          · have HRES := Lib.hid (show askE n k xs = 0 by unfold askE; rw [if_pos HALL.out, if_pos hnd, if_neg (by rw [HLEN.out]; exact hkl)])
            have hkd : ¬ (len : Int) < k := by omega
            have hkd2 : decide (len < k) = false := by simpa using hkl
            go_wp2
            go_ret
            exact ⟨by rw [HRES.out]; rfl, HB3.out⟩

end Go.Proofs.YtojbbmfndlcgkaaGreat
