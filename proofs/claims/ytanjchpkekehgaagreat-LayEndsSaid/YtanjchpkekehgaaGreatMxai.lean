/-
  CodeQa: Walks of layer 5 (code): mix.
  CodeSc: Walk of layer 5 (code): asked.
  CodeRa: Walks of layer 3 (rows): scale, add.
-/
import Derived.Test.YtanjchpkekehgaaGreatMxah
import Derived.Test.YtanjchpkekehgaaGreatMxac
import Derived.Test.YtanjchpkekehgaaGreatMxad
import Derived.Test.YtanjchpkekehgaaGreatQuietTail
namespace Go.Proofs.YtanjchpkekehgaaGreat

section -- CodeQa
open Go.RowKit Go.Maps
set_option linter.unusedVariables false
set_option maxRecDepth 100000
set_option maxHeartbeats 2000000

/-- The sum of the first m rows, and of one more in the first t places. -/
def mixQ (ws : List B) (l : List (List B)) (wide m t : Nat) : List B := (List.range wide).map fun i => if i < t then sm (m + 1) (fun k => (l.getD k []).getD i 0 * ws.getD k 0) else sm m (fun k => (l.getD k []).getD i 0 * ws.getD k 0)
theorem mixQ_len (ws : List B) (l : List (List B)) (wide m t : Nat) : (mixQ ws l wide m t).length = wide := by simp [mixQ]
theorem mixQ_get {ws : List B} {l : List (List B)} {wide m t : Nat} (h : t < wide) : (mixQ ws l wide m t).getD t 0 = sm m (fun k => (l.getD k []).getD t 0 * ws.getD k 0) := by
  unfold mixQ
  rw [getD_range _ _ h, if_neg (by omega)]
theorem mixQ_set {ws : List B} {l : List (List B)} {wide m t : Nat} (h : t < wide) : (mixQ ws l wide m t).set t (sm m (fun k => (l.getD k []).getD t 0 * ws.getD k 0) + (l.getD m []).getD t 0 * ws.getD m 0) = mixQ ws l wide m (t + 1) := by
  apply List.ext_getElem
  · simp [mixQ]
  · intro i h1 h2
    simp [mixQ] at h1
    rw [List.getElem_set]
    simp only [mixQ, List.getElem_map, List.getElem_range]
    by_cases e : t = i
    · subst e; rw [if_pos rfl, if_pos (by omega)]; rfl
    · rw [if_neg e]
      by_cases q : i < t
      · rw [if_pos q, if_pos (by omega)]
      · rw [if_neg q, if_neg (by omega)]
theorem mixQ_next (ws : List B) (l : List (List B)) (wide m : Nat) : mixQ ws l wide m wide = mixQ ws l wide (m + 1) 0 := by
  unfold mixQ
  apply List.map_congr_left
  intro i hi
  have := List.mem_range.1 hi
  rw [if_pos this, if_neg (by omega)]
theorem mixQ_skip {ws : List B} {l : List (List B)} {wide m : Nat} (h : ws.getD m 0 = 0) : mixQ ws l wide m 0 = mixQ ws l wide (m + 1) 0 := by
  unfold mixQ
  apply List.map_congr_left
  intro i hi
  rw [if_neg (by omega), if_neg (by omega)]
  show _ = sm m _ + (l.getD m []).getD i 0 * ws.getD m 0
  rw [h]; grind
theorem mixQ_start (ws : List B) (l : List (List B)) (wide : Nat) : mixQ ws l wide 0 0 = List.replicate wide 0 := by
  apply List.ext_getElem
  · simp [mixQ]
  · intro i h1 h2
    simp [mixQ, sm]
theorem mixQ_end (ws : List B) (l : List (List B)) (wide : Nat) : mixQ ws l wide ws.length 0 = mixL ws l wide := by
  unfold mixQ mixL
  apply List.map_congr_left
  intro i hi
  rw [if_neg (by omega)]

theorem mix_any (w : World) {bc n k bf : Nat} {vt : Value} (hc : CoderAt w bc n k bf vt) (vw vl : Value) (ws : List B) (ls : List (List B)) (wide : Nat) (hw : BytesAt w vw ws) (hl : RowsAt w vl ls)
    (h0 : 0 < ls.length) (h1 : ws.length ≤ ls.length) (h2 : ws.length ≤ 255) (hwd : ∀ i, i < ls.length → (ls.getD i []).length = wide) (hwb : wide ≤ 1000000000) :
    Calls Tryz.prog 68 #[.pointer (some ⟨bc, 0, none⟩), vw, vl] w fun e w' => ∃ g, e = .returned (.slice (some ⟨g, 0, none⟩) wide wide) ∧ RowF w' g (mixL ws ls wide) ∧ w.heap.size ≤ g ∧ Below w.heap.size w w' := by
  have d0 := hc.c0
  have hlc := hc.lt
  have HF := Lib.hid hc.field
  have HWD := Lib.hid hwd
  obtain ⟨pw, cw, rfl, hwc⟩ := hw
  obtain ⟨pl, cl, rfl, hlcc⟩ := hl
  obtain ⟨gl, ol, rfl, hld⟩ := hlcc h0
  have HW := Lib.hid hwc
  have HL := Lib.hid hld
  obtain ⟨u0, hu0, hb0⟩ := hld 0 h0
  obtain ⟨p0, c0, rfl⟩ := hb0.shape
  have lll := blt hu0
  rw [hwd 0 h0] at hu0
  rw [Nat.add_zero] at hu0
  clear hwc hlcc hld hwd hc hb0
  have hmk := run_make_one (w := w) 50 5 (.int .u8 0) 1 Tryz.underlying50 infoB rfl (by omega) wide (by omega)
  go_enter Tryz.func68, Tryz.ntmps68
  go_wp2
  clear hmk
  have kA := Kept.alloc (fun _ => False) w (.cells (Array.replicate wide (.int .u8 0)) 5)
  have HR := Lib.hid (RowF.made w wide)
  have sA : w.heap.size < (w.alloc (.cells (Array.replicate wide (.int .u8 0)) 5)).heap.size := by simp
  generalize (w.alloc (.cells (Array.replicate wide (.int .u8 0)) 5)) = w1 at *
  have HMS := Lib.hid (mixQ_start ws ls wide)
  go_loopw [8, 9, 10, 11, 19, 26, 27, 28, 29, 30, 31] (fun _ _ _ _ i _ _ _ _ _ _ wr => ∃ m : Nat, m ≤ ws.length ∧ i = .int .i64 (m : Int) ∧ RowF wr w.heap.size (mixQ ws ls wide m 0) ∧ Kept (fun i => i = w.heap.size) w1 wr) (fun _ _ _ _ i _ _ _ _ _ _ _ => ws.length - (intOf i).toNat)
  case atStart => exact ⟨0, Nat.zero_le _, rfl, by rw [HMS.out]; exact HR.out, Kept.refl _ _⟩
  case round =>
    obtain ⟨m, hm, rfl, hr, kk⟩ := hrel
    have HR1 := Lib.hid hr
    clear hr
    by_cases hlt : m < ws.length
    · obtain ⟨gw, ow, rfl, hwd⟩ := HW.out (by omega)
      have hwm := hwd m hlt
      have lw := blt hwm
      have c1 := (kk.at1 (ow + m) (b := gw) (by omega) (by omega)).trans ((kA.at0 (ow + m) (b := gw) lw).trans hwm)
      obtain ⟨ul, hul, hbl⟩ := HL.out m (by omega)
      have c2 := (kk.at1 (ol + m) (b := gl) (by omega) (by omega)).trans ((kA.at0 (ol + m) (b := gl) lll).trans hul)
      obtain ⟨pm, cm, rfl, hbm⟩ := hbl
      rw [HWD.out m (by omega)] at c2 hbm
      have HBM := Lib.hid hbm
      have c0' := (kk.at1 0 (b := bc) (by omega) (by omega)).trans ((kA.at0 0 (b := bc) hlc).trans d0)
      have HF1 := Lib.hid ((HF.out.kept kA (fun h => h)).kept kk (by have := HF.out.lt; omega))
      clear hwd hwm hul hbm
      obtain ⟨q, hq⟩ : ∃ q, ws.getD m 0 = q := ⟨_, rfl⟩
      rw [hq] at c1
      have HQ := Lib.hid hq
      clear hq
      by_cases hz : q.v = 0
      · have hz1 : (((q.v : Nat) : Int) == 0) = true := by simp; omega
        have HZ := Lib.hid hz
        clear hz
        go_wp2
        go_roundw
        case rel => exact ⟨m + 1, by omega, by go_num, by rw [← mixQ_skip (by rw [HQ.out]; exact B.ext HZ.out)]; exact HR1.out, kk⟩
        case measure => simp [intOf]; omega
      · have hz1 : (((q.v : Nat) : Int) == 0) = false := by simp; omega
        have hsr := kk.size
        go_wp2
        go_loopw [10, 11, 31] (fun _ _ i wi => ∃ t : Nat, t ≤ wide ∧ i = .int .i64 (t : Int) ∧ RowF wi w.heap.size (mixQ ws ls wide m t) ∧ Kept (fun i => i = w.heap.size) wr wi) (fun _ _ i _ => wide - (intOf i).toNat)
        case atStart => exact ⟨0, Nat.zero_le _, rfl, HR1.out, Kept.refl _ _⟩
        case round =>
          obtain ⟨t, ht, rfl, hr, ki⟩ := hrel
          have HR2 := Lib.hid hr
          clear hr
          by_cases hlt2 : t < wide
          · obtain ⟨gm, om, rfl, hbd⟩ := HBM.out (by omega)
            have hbt := hbd t hlt2
            have lm := blt hbt
            have e1 := (ki.at1 (om + t) (b := gm) (by omega) (by omega)).trans ((kk.at1 (om + t) (b := gm) (by omega) (by omega)).trans ((kA.at0 (om + t) (b := gm) lm).trans hbt))
            have e2 := HR2.out.cell (i := t) (by rw [mixQ_len]; exact hlt2)
            have e3 := HR2.out.fz t
            have e0 := (ki.at1 0 (b := bc) (by omega) (by omega)).trans c0'
            have HF2 := Lib.hid (HF1.out.kept ki (by have := HF.out.lt; omega))
            have HST := Lib.hid (mixQ_set (ws := ws) (l := ls) (m := m) hlt2)
            rw [mixQ_get hlt2] at e2
            rw [HQ.out] at HST
            clear hbd hbt
            obtain ⟨x, hx⟩ : ∃ x, (ls.getD m []).getD t 0 = x := ⟨_, rfl⟩
            rw [hx] at e1 HST
            clear hx
            obtain ⟨y, hy⟩ : ∃ y, sm m (fun k => (ls.getD k []).getD t 0 * ws.getD k 0) = y := ⟨_, rfl⟩
            rw [hy] at e2 HST
            clear hy
            go_wp2_with fail
            refine wp_quiet_store 15 (by kernel_rfl) (by kernel_rfl) ?_
            simp only [List.take_succ_cons, List.take_zero, List.drop_succ_cons, List.drop_zero]
            repeat (quiet_step (first
              | (go_at_call 94; exact q_one (fmul_any _ bf (by exact HF2.out) x q))
              | (go_at_call 93; exact q_one_same (fadd_any _ y (x * q)))))
            refine wpQuiet_nil ?_
            rintro w5 ⟨nq, rfl⟩
            go_wp2
            refine calmQ.normal ?_
            go_wp2
            go_roundw
            case rel =>
              refine ⟨t + 1, by omega, by go_num, ?_, (ki.drewN nq).trans (Kept.set1 _ _ _ _) (fun _ _ h => h)⟩
              have := (show RowF (World.drewN _ nq) w.heap.size (mixQ ws ls wide m t) from HR2.out).set (i := t) (by rw [mixQ_len]; exact hlt2) (y + x * q)
              rw [HST.out] at this
              exact this
            case measure => simp [intOf]; omega
          · obtain rfl : t = wide := by omega
            have hr := HR2.out
            rw [mixQ_next] at hr
            have HR3 := Lib.hid hr
            clear hr
            have k3 := kk.trans ki (fun _ _ h => h)
            go_wp2
            go_roundw
            case rel => exact ⟨m + 1, by omega, by go_num, HR3.out, k3⟩
            case measure => simp [intOf]; omega
    · obtain rfl : m = ws.length := by omega
      have hr := HR1.out
      rw [mixQ_end] at hr
      have HR5 := Lib.hid hr
      clear hr
      go_wp2
      go_ret
      exact ⟨_, rfl, HR5.out, Nat.le_refl _, (kA.trans kk (S := fun _ => False) (fun i hi h => by omega)).toBelow (Nat.le_refl _) (fun _ h => h.elim)⟩
end -- CodeQa

section -- CodeSc
open Go.RowKit Go.Maps Go.Shelf Go.Sort
set_option linter.unusedVariables false
set_option maxRecDepth 100000
set_option maxHeartbeats 2000000

theorem values_any (w : World) (p : Option Addr) (n c : Nat) :
    Calls Tryz.prog 121 #[.slice p n c] w fun e w' => e = .returned (.func (.func 132) #[] #[.pointer (some ⟨w.heap.size, 0, none⟩)]) ∧ w.alloc (.cells #[.slice p n c] 23) = w' := by
  go_enter Tryz.func121, Tryz.ntmps121
  go_wp2
  go_ret
  exact ⟨rfl, rfl⟩

/-- Compact of a row that a call owns. -/
theorem compact_any (w : World) (base : Nat) (v : Value) (zs : List Int) (h : w.ownsRow base 3 1 v zs.length (zs.map (Value.int .i64))) (hl : zs.length ≤ 1000000) (hb : base ≤ w.heap.size) :
    Calls Tryz.prog 122 #[v] w fun e w' => ∃ p c, e = .returned (.slice p (Go.Lib.compact zs).length c) ∧ Kept (fun k => v.ownBlock = some k) w w' := by
  rcases h.2 with ⟨rfl, hz⟩ | ⟨g, cap, cur, rfl, hbase, hgb, r1, r2, r3, r4⟩
  · have : zs = [] := List.eq_nil_of_length_eq_zero hz
    subst this
    refine (Tryz.slices_Compact_int_empty none 0 w).mono ?_
    rintro e w' ⟨rfl, rfl⟩
    exact ⟨none, 0, rfl, Kept.refl _ _⟩
  · have hH : Holds (Value.int .i64) w g 0 zs.toArray := holds_of_blockI hgb (by simpa using r4)
    refine (Tryz.slices_Compact_int g 0 cap zs w hH (by omega) r1).mono ?_
    rintro e w' ⟨rfl, q, rfl⟩
    refine ⟨_, _, rfl, ?_⟩
    have := grownBy_sortedI (w := w) (g := g) (n := q) (os := #[]) (Go.Lib.compact zs ++ List.replicate (zs.length - (Go.Lib.compact zs).length) 0).toArray
    rw [grow_empty] at this
    exact ⟨this.os, this.tape, this.output, this.size, fun k hk hn => this.block k hk (fun e => hn (by simpa [Value.ownBlock] using (Option.some.inj e).symm))⟩

theorem asked_any (w : World) {bc n k bf : Nat} {vt : Value} (hc : CoderAt w bc n k bf vt) (v : Value) (xs : List Int) (hv : IntsAt w v xs) (hl : xs.length ≤ 1000000) :
    Calls Tryz.prog 106 #[.pointer (some ⟨bc, 0, none⟩), v] w fun e w' => e = .returned (.int .i64 (askE n k xs)) ∧ Below w.heap.size w w' := by
  have HC := Lib.hid hc
  have HV := Lib.hid hv
  have hlc := hc.lt
  have c2 := hc.c2
  have c1 := hc.c1
  obtain ⟨pt, ct, hvt⟩ := hc.table.shape
  rw [tblL_len] at hvt
  subst hvt
  obtain ⟨p, cap, hvv, _⟩ := hv
  subst hvv
  have hB0 : Below w.heap.size w (w.alloc (.cells #[.slice p xs.length cap] 23)) := (Below.refl _ _).alloc (Nat.le_refl _) _
  have HSV := Lib.hid (sortedVals_any w.heap.size (.slice p xs.length cap) xs hl (w.alloc (.cells #[.slice p xs.length cap] 23)) (World.cell?_alloc_new w #[.slice p xs.length cap] 23 0) (HV.out.below hB0))
  clear hc
  go_enter Tryz.func106, Tryz.ntmps106
  go_wp2_with fail
  refine (values_any w _ _ _).mono ?_
  rintro e w' ⟨rfl, rfl⟩
  go_wp2_with fail
  refine HSV.out.mono ?_
  rintro e w1 ⟨vs, rfl, hrow, hB1⟩
  have hB2 : Below w.heap.size w w1 := below_more hB0 hB1 (by simp)
  have HR := Lib.hid (ownsRow_weaken hrow (base' := w.heap.size) (by simp))
  have hs2 := hB2.size
  have d1 := (hB2.cell (p := ⟨bc, 1, none⟩) hlc).trans c1
  have d2 := (hB2.cell (p := ⟨bc, 2, none⟩) hlc).trans c2
  have HCO := Lib.hid (fun (m : Nat) => compact_any (w1.drewN m) w.heap.size vs (sortL xs) (by rw [sortL_len]; exact HR.out) (by rw [sortL_len]; exact hl) hs2)
  have HOB := Lib.hid (show ∀ b, vs.ownBlock = some b → w.heap.size ≤ b from fun b hb => (HR.out.lt b hb).1)
  have HTW := Lib.hid (ask_twice xs)
  clear hrow hB0 hB1
  by_cases h0 : xs.length = 0
  · have hx : xs = [] := List.eq_nil_of_length_eq_zero h0
    subst hx
    have hIA := IntsAt.of_owns (w := w1) (base := w.heap.size) (v := vs) (xs := []) (by have := HR.out; rw [show sortL [] = [] from by simp [sortL]] at this; exact this)
    obtain ⟨pv, cv, rfl, hcv, hiv⟩ := hIA
    have hk1 := HC.out.k1
    have HRES := Lib.hid (show askE n k [] = 8 by unfold askE; simp; omega)
    have hkk : (0 : Int) < k := by omega
    have hkn : 0 < k := by omega
    have hc0 : (Go.Lib.compact (sortL [])).length = 0 := by have := compact_len (sortL []); simp [sortL] at this ⊢; exact this
    rw [hc0] at HCO
    simp only [List.length_nil] at HCO ⊢
    clear hiv hc0 hl
    go_wp2_with fail
    go_quiet (fail)
    go_wp2_with fail
    refine (HCO.out nq).mono ?_
    rintro e w3 ⟨p3, c3, rfl, hk3⟩
    have y2 := (hk3.cell (p := ⟨bc, 2, none⟩) (by show bc < w1.heap.size; omega) (fun h => by have := HOB.out _ h; simp only at this; omega)).trans (show (w1.drewN nq).cell? ⟨bc, 2, none⟩ = some (.int .i64 (k : Int)) from d2)
    have HB3 := Lib.hid ((show Below w.heap.size w (w1.drewN nq) from ⟨hB2.os, hB2.tape, hB2.output, hB2.size, hB2.block⟩).trans (hk3.toBelow hs2 (fun i h => HOB.out i h)))
    clear hk3
    go_wp2
    go_ret
    exact ⟨by rw [HRES.out]; rfl, HB3.out⟩
  · have hIA := IntsAt.of_owns (w := w1) (base := w.heap.size) (v := vs) (xs := sortL xs) (by rw [sortL_len]; exact HR.out)
    obtain ⟨pv, cv, rfl, hcv, hiv⟩ := hIA
    rw [sortL_len] at hcv hiv
    obtain ⟨g, off, rfl, hcells⟩ := hiv (by omega)
    have x0 := hcells 0 (by omega)
    rw [Nat.add_zero] at x0
    have x1 := hcells (xs.length - 1) (by omega)
    have HAO := Lib.hid (ask_out (n := n) (xs := xs) (by omega))
    have HSL := Lib.hid (sortL_len xs)
    rw [HSL.out] at HCO ⊢
    obtain ⟨a, ha⟩ : ∃ a, (sortL xs).getD 0 0 = a := ⟨_, rfl⟩
    obtain ⟨b, hb⟩ : ∃ b, (sortL xs).getD (xs.length - 1) 0 = b := ⟨_, rfl⟩
    rw [ha] at x0 HAO
    rw [hb] at x1 HAO
    obtain ⟨len, hlen⟩ : ∃ len, xs.length = len := ⟨_, rfl⟩
    have hk1 := HC.out.k1
    obtain ⟨last, hlast⟩ : ∃ last, len - 1 = last := ⟨_, rfl⟩
    have hlast2 : (len : Int) - 1 = (last : Int) := by omega
    have hlast3 : last < len := by omega
    rw [hlen, hlast] at x1
    have HLEN := Lib.hid hlen
    rw [hlen] at HCO ⊢
    have g0 : 0 < len := by omega
    have gi : (0 : Int) < len := by omega
    have h13 : len ≤ 1000000 := by omega
    have HL2 := Lib.hid hlast2
    clear hcells ha hb hlen hlast h0 hl
    by_cases ha0 : a < 0
    · have hd : decide (a < 0) = true := by simpa using ha0
      have HRES := Lib.hid (show askE n k xs = 2 by unfold askE; rw [HAO.out.2 (.inl ha0)]; rfl)
      go_wp2_with fail
      go_quiet (fail)
      go_wp2
      go_ret
      exact ⟨by rw [HRES.out]; rfl, ⟨hB2.os, hB2.tape, hB2.output, hB2.size, hB2.block⟩⟩
    · have hd : decide (a < 0) = false := by simpa using ha0
      by_cases hbn : (n : Int) ≤ b
      · have HRES := Lib.hid (show askE n k xs = 2 by unfold askE; rw [HAO.out.2 (.inr hbn)]; rfl)
        have hd2 : decide ((n : Int) ≤ b) = true := by simpa using hbn
        go_wp2_with fail
        go_quiet (fail)
        go_wp2
        go_ret
        exact ⟨by rw [HRES.out]; rfl, ⟨hB2.os, hB2.tape, hB2.output, hB2.size, hB2.block⟩⟩
      · have hd2 : decide ((n : Int) ≤ b) = false := by simpa using hbn
        have HALL := Lib.hid (show xs.all (fun x => decide (0 ≤ x) && decide (x < n)) = true from by
          cases e : xs.all (fun x => decide (0 ≤ x) && decide (x < n)) with
          | true => rfl
          | false => exact absurd (HAO.out.1 e) (by omega))
        go_wp2_with fail
        go_quiet (fail)
        obtain ⟨cl, hcl⟩ : ∃ cl, (Go.Lib.compact (sortL xs)).length = cl := ⟨_, rfl⟩
        rw [hcl, HLEN.out] at HTW
        rw [hcl] at HCO
        clear hcl
        go_wp2_with fail
        refine (HCO.out nq).mono ?_
        rintro e w3 ⟨p3, c3, rfl, hk3⟩
        have y2 := (hk3.cell (p := ⟨bc, 2, none⟩) (by show bc < w1.heap.size; omega) (fun h => by have := HOB.out _ h; simp only at this; omega)).trans (show (w1.drewN nq).cell? ⟨bc, 2, none⟩ = some (.int .i64 (k : Int)) from d2)
        have HB3 := Lib.hid ((show Below w.heap.size w (w1.drewN nq) from ⟨hB2.os, hB2.tape, hB2.output, hB2.size, hB2.block⟩).trans (hk3.toBelow hs2 (fun i h => HOB.out i h)))
        clear hk3
        by_cases hcn : cl < len
        · have HRES := Lib.hid (show askE n k xs = 9 by unfold askE; rw [if_pos HALL.out, if_neg (HTW.out.1 hcn)])
          have hcd : (cl : Int) < len := by omega
          go_wp2
          go_ret
          exact ⟨by rw [HRES.out]; rfl, HB3.out⟩
        · have hnd : xs.Nodup := by
            by_cases q : xs.Nodup
            · exact q
            · exact absurd (HTW.out.2 q) hcn
          have hcd : ¬ (cl : Int) < len := by omega
          have hcd2 : decide (cl < len) = false := by simpa using hcn
          by_cases hkl : len < k
          · have HRES := Lib.hid (show askE n k xs = 8 by unfold askE; rw [if_pos HALL.out, if_pos hnd, if_pos (by rw [HLEN.out]; exact hkl)])
            have hkd : (len : Int) < k := by omega
            go_wp2
            go_ret
            exact ⟨by rw [HRES.out]; rfl, HB3.out⟩
          · have HRES := Lib.hid (show askE n k xs = 0 by unfold askE; rw [if_pos HALL.out, if_pos hnd, if_neg (by rw [HLEN.out]; exact hkl)])
            have hkd : ¬ (len : Int) < k := by omega
            have hkd2 : decide (len < k) = false := by simpa using hkl
            go_wp2
            go_ret
            exact ⟨by rw [HRES.out]; rfl, HB3.out⟩
end -- CodeSc

section -- CodeRa
open Go.RowKit Go.Maps
set_option linter.unusedVariables false
set_option maxRecDepth 100000
set_option maxHeartbeats 2000000

/-- A row, told place by place; one that is worked out as far as t. -/
def rowL (n : Nat) (f : Nat → B) : List B := (List.range n).map f
def progL (n : Nat) (f g : Nat → B) (t : Nat) : List B := rowL n fun i => if i < t then f i else g i
theorem rowL_len (n : Nat) (f : Nat → B) : (rowL n f).length = n := by simp [rowL]
theorem rowL_get {n i : Nat} (f : Nat → B) (h : i < n) : (rowL n f).getD i 0 = f i := getD_range _ _ h
theorem rowL_congr {n : Nat} {f g : Nat → B} (h : ∀ i, i < n → f i = g i) : rowL n f = rowL n g := List.map_congr_left fun i hi => h i (List.mem_range.1 hi)
theorem progL_len (n : Nat) (f g : Nat → B) (t : Nat) : (progL n f g t).length = n := rowL_len _ _
theorem progL_get {n t : Nat} (f g : Nat → B) (h : t < n) : (progL n f g t).getD t 0 = g t := by
  unfold progL
  rw [rowL_get _ h, if_neg (by omega)]
theorem progL_set {n t : Nat} (f g : Nat → B) (h : t < n) : (progL n f g t).set t (f t) = progL n f g (t + 1) := by
  apply List.ext_getElem
  · simp [progL, rowL]
  · intro i h1 h2
    simp [progL, rowL] at h1
    rw [List.getElem_set]
    simp only [progL, rowL, List.getElem_map, List.getElem_range]
    by_cases e : t = i
    · subst e; rw [if_pos rfl, if_pos (by omega)]
    · rw [if_neg e]
      by_cases q : i < t
      · rw [if_pos q, if_pos (by omega)]
      · rw [if_neg q, if_neg (by omega)]
theorem progL_zero (n : Nat) (f g : Nat → B) : progL n f g 0 = rowL n g := rowL_congr fun i _ => if_neg (by omega)
theorem progL_all (n : Nat) (f g : Nat → B) : progL n f g n = rowL n f := rowL_congr fun i h => if_pos h
theorem list_rowL (l : List B) : l = rowL l.length fun i => l.getD i 0 := by
  apply List.ext_getElem
  · simp [rowL]
  · intro i h1 h2
    simp [rowL, List.getD_eq_getElem?_getD, List.getElem?_eq_getElem h1]

theorem scale_any (w : World) (bf g n c : Nat) (f : Nat → B) (y : B) (hF : FieldAt w bf) (hR : RowC w g c (rowL n f)) (hg : bf ≠ g) (hn : n ≤ 1000000000) :
    Calls Tryz.prog 135 #[.agg #[.pointer (some ⟨bf, 0, none⟩)], .slice (some ⟨g, 0, none⟩) n c, bv y] w fun e w' => (∃ v, e = .returned v) ∧ RowC w' g c (rowL n fun i => f i * y) ∧ Kept (fun i => i = g) w w' := by
  have HF := Lib.hid hF
  have HR := Lib.hid hR
  have hgl := hR.lt
  have hfl := hF.lt
  clear hF hR
  go_enter Tryz.func135, Tryz.ntmps135
  go_wp2
  have kA := Kept.alloc (fun i => i = g) w (.cells #[.pointer (some ⟨bf, 0, none⟩)] 199)
  have kA0 := Kept.alloc (fun _ => False) w (.cells #[.pointer (some ⟨bf, 0, none⟩)] 199)
  have e0 : (w.alloc (.cells #[.pointer (some ⟨bf, 0, none⟩)] 199)).cell? ⟨w.heap.size, 0, none⟩ = some (.pointer (some ⟨bf, 0, none⟩)) := World.cell?_alloc_new w _ _ 0
  have HR1 := Lib.hid (HR.out.kept kA0 (fun h => h))
  have HF1 := Lib.hid (HF.out.kept kA0 (fun h => h))
  have sA : w.heap.size < (w.alloc (.cells #[.pointer (some ⟨bf, 0, none⟩)] 199)).heap.size := by simp
  generalize (w.alloc (.cells #[.pointer (some ⟨bf, 0, none⟩)] 199)) = w1 at *
  have HZ := Lib.hid (progL_zero n (fun i => f i * y) f)
  go_loopw [6, 9] (fun _ i wr => ∃ t : Nat, t ≤ n ∧ i = .int .i64 (t : Int) ∧ RowC wr g c (progL n (fun i => f i * y) f t) ∧ Kept (fun i => i = g) w1 wr) (fun _ i _ => n - (intOf i).toNat)
  case atStart => exact ⟨0, Nat.zero_le _, rfl, by rw [HZ.out]; exact HR1.out, Kept.refl _ _⟩
  case round =>
    obtain ⟨t, ht, rfl, hr, kk⟩ := hrel
    have HR2 := Lib.hid hr
    clear hr
    by_cases hlt : t < n
    · have d0 := (kk.at1 0 (b := w.heap.size) (by omega) (by omega)).trans e0
      have d1 := HR2.out.cell (i := t) (by rw [progL_len]; exact hlt)
      rw [progL_get _ _ hlt] at d1
      have d2 := HR2.out.fz t
      have HF2 := Lib.hid (HF1.out.kept kk hg)
      have HS := Lib.hid (progL_set (fun i => f i * y) f hlt)
      obtain ⟨x, hx⟩ : ∃ x, f t = x := ⟨_, rfl⟩
      rw [hx] at d1
      have HX := Lib.hid hx
      clear hx
      go_wp2_with fail
      refine wp_quiet_store 11 (by kernel_rfl) (by kernel_rfl) ?_
      simp only [List.take_succ_cons, List.take_zero, List.drop_succ_cons, List.drop_zero]
      repeat (quiet_step ((go_at_call 94; exact q_one (fmul_any _ bf (by exact HF2.out) x y))))
      refine wpQuiet_nil ?_
      rintro w5 ⟨nq, rfl⟩
      go_wp2
      refine calmQ.normal ?_
      go_wp2
      go_roundw
      case rel =>
        refine ⟨t + 1, by omega, by go_num, ?_, (kk.drewN nq).trans (Kept.set1 _ _ _ _) (fun _ _ h => h)⟩
        have := (show RowC (wr.drewN nq) g c (progL n (fun i => f i * y) f t) from HR2.out).set (i := t) (by rw [progL_len]; exact hlt) (x * y)
        rw [← HX.out, HS.out] at this
        rw [← HX.out]
        exact this
      case measure => simp [intOf]; omega
    · obtain rfl : t = n := by omega
      have hr := HR2.out
      rw [progL_all] at hr
      have HR3 := Lib.hid hr
      clear hr
      go_wp2
      go_end0
      exact ⟨⟨_, rfl⟩, HR3.out, kA.trans kk (fun _ _ h => h)⟩

theorem add_zero_any (w : World) (bf : Nat) (v1 v2 : Value) :
    Calls Tryz.prog 136 #[.agg #[.pointer (some ⟨bf, 0, none⟩)], v1, v2, bv 0] w fun e w' => (∃ v, e = .returned v) ∧ Kept (fun _ => False) w w' := by
  show Calls _ _ #[_, _, _, .int .u8 0] _ _
  go_enter Tryz.func136, Tryz.ntmps136
  go_wp2
  refine bodyPost_ret (results_none rfl _ _ _) rfl ?_
  exact ⟨⟨_, rfl⟩, Kept.alloc _ _ _⟩

theorem add_ne_any (w : World) (bf g n c go oo mo co : Nat) (f h : Nat → B) (y : B) (hF : FieldAt w bf) (hR : RowC w g c (rowL n f)) (hg : bf ≠ g) (hn : n ≤ 1000000000) (hne : go ≠ g) (hmo : n ≤ mo) (hmo2 : mo ≤ 1000000000)
    (hO : ∀ i, i < n → w.cell? ⟨go, oo + i, none⟩ = some (bv (h i))) (hy : y ≠ 0) :
    Calls Tryz.prog 136 #[.agg #[.pointer (some ⟨bf, 0, none⟩)], .slice (some ⟨g, 0, none⟩) n c, .slice (some ⟨go, oo, none⟩) mo co, bv y] w fun e w' => (∃ v, e = .returned v) ∧ RowC w' g c (rowL n fun i => f i + h i * y) ∧ Kept (fun i => i = g) w w' := by
  have HF := Lib.hid hF
  have HR := Lib.hid hR
  have HO := Lib.hid hO
  have hgl := hR.lt
  have hfl := hF.lt
  have hy0 : y.v ≠ 0 := fun e => hy (B.ext e)
  have hy1 : (((y.v : Nat) : Int) == 0) = false := by simp; omega
  clear hF hR hO hy hy0
  go_enter Tryz.func136, Tryz.ntmps136
  go_wp2
  have kA := Kept.alloc (fun i => i = g) w (.cells #[.pointer (some ⟨bf, 0, none⟩)] 199)
  have kA0 := Kept.alloc (fun _ => False) w (.cells #[.pointer (some ⟨bf, 0, none⟩)] 199)
  have e0 : (w.alloc (.cells #[.pointer (some ⟨bf, 0, none⟩)] 199)).cell? ⟨w.heap.size, 0, none⟩ = some (.pointer (some ⟨bf, 0, none⟩)) := World.cell?_alloc_new w _ _ 0
  have HR1 := Lib.hid (HR.out.kept kA0 (fun h => h))
  have HF1 := Lib.hid (HF.out.kept kA0 (fun h => h))
  have sA : w.heap.size < (w.alloc (.cells #[.pointer (some ⟨bf, 0, none⟩)] 199)).heap.size := by simp
  generalize (w.alloc (.cells #[.pointer (some ⟨bf, 0, none⟩)] 199)) = w1 at *
  have HZ := Lib.hid (progL_zero n (fun i => f i + h i * y) f)
  go_loopw [8, 13] (fun _ i wr => ∃ t : Nat, t ≤ n ∧ i = .int .i64 (t : Int) ∧ RowC wr g c (progL n (fun i => f i + h i * y) f t) ∧ Kept (fun i => i = g) w1 wr) (fun _ i _ => n - (intOf i).toNat)
  case atStart => exact ⟨0, Nat.zero_le _, rfl, by rw [HZ.out]; exact HR1.out, Kept.refl _ _⟩
  case round =>
    obtain ⟨t, ht, rfl, hr, kk⟩ := hrel
    have HR2 := Lib.hid hr
    clear hr
    by_cases hlt : t < n
    · have d0 := (kk.at1 0 (b := w.heap.size) (by omega) (by omega)).trans e0
      have d1 := HR2.out.cell (i := t) (by rw [progL_len]; exact hlt)
      rw [progL_get _ _ hlt] at d1
      have d2 := HR2.out.fz t
      have hlt3 : t < mo := by omega
      have hot := HO.out t hlt
      have hol := blt hot
      have d3 := (kk.at1 (oo + t) (b := go) (by omega) hne).trans ((kA0.at0 (oo + t) (b := go) hol).trans hot)
      clear hot
      have HF2 := Lib.hid (HF1.out.kept kk hg)
      have HS := Lib.hid (progL_set (fun i => f i + h i * y) f hlt)
      obtain ⟨x, hx⟩ : ∃ x, f t = x := ⟨_, rfl⟩
      rw [hx] at d1
      obtain ⟨z, hz⟩ : ∃ z, h t = z := ⟨_, rfl⟩
      rw [hz] at d3
      have HS2 := Lib.hid (show f t + h t * y = x + z * y by rw [hx, hz])
      clear hx hz
      go_wp2_with fail
      refine wp_quiet_store 16 (by kernel_rfl) (by kernel_rfl) ?_
      simp only [List.take_succ_cons, List.take_zero, List.drop_succ_cons, List.drop_zero]
      repeat (quiet_step (first
        | (go_at_call 94; exact q_one (fmul_any _ bf (by exact HF2.out) z y))
        | (go_at_call 93; exact q_one_same (fadd_any _ x (z * y)))))
      refine wpQuiet_nil ?_
      rintro w5 ⟨nq, rfl⟩
      go_wp2
      refine calmQ.normal ?_
      go_wp2
      go_roundw
      case rel =>
        refine ⟨t + 1, by omega, by go_num, ?_, (kk.drewN nq).trans (Kept.set1 _ _ _ _) (fun _ _ h => h)⟩
        have := (show RowC (wr.drewN nq) g c (progL n (fun i => f i + h i * y) f t) from HR2.out).set (i := t) (by rw [progL_len]; exact hlt) (x + z * y)
        rw [← HS2.out, HS.out] at this
        rw [← HS2.out]
        exact this
      case measure => simp [intOf]; omega
    · obtain rfl : t = n := by omega
      have hr := HR2.out
      rw [progL_all] at hr
      have HR3 := Lib.hid hr
      clear hr
      go_wp2
      go_end0
      exact ⟨⟨_, rfl⟩, HR3.out, kA.trans kk (fun _ _ h => h)⟩

/-- add, whatever the byte. -/
theorem add_any (w : World) (bf g n c go oo mo co : Nat) (f h : Nat → B) (y : B) (hF : FieldAt w bf) (hR : RowC w g c (rowL n f)) (hg : bf ≠ g) (hn : n ≤ 1000000000) (hne : go ≠ g) (hmo : n ≤ mo) (hmo2 : mo ≤ 1000000000)
    (hO : ∀ i, i < n → w.cell? ⟨go, oo + i, none⟩ = some (bv (h i))) :
    Calls Tryz.prog 136 #[.agg #[.pointer (some ⟨bf, 0, none⟩)], .slice (some ⟨g, 0, none⟩) n c, .slice (some ⟨go, oo, none⟩) mo co, bv y] w fun e w' => (∃ v, e = .returned v) ∧ RowC w' g c (rowL n fun i => f i + h i * y) ∧ Kept (fun i => i = g) w w' := by
  by_cases hy : y = 0
  · subst hy
    refine (add_zero_any w bf _ _).mono ?_
    rintro e w' ⟨he, hk⟩
    refine ⟨he, ?_, hk.mono (fun _ _ h => h.elim)⟩
    have : (rowL n fun i => f i + h i * 0) = rowL n f := rowL_congr fun i _ => by grind
    rw [this]
    exact hR.kept hk (fun h => h)
  · exact add_ne_any w bf g n c go oo mo co f h y hF hR hg hn hne hmo hmo2 hO hy
end -- CodeRa

end Go.Proofs.YtanjchpkekehgaaGreat
