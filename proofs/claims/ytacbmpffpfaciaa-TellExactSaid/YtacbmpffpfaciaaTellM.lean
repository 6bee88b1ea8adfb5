/-
  TellSmall's walk.
-/
import Derived.Test.YtacbmpffpfaciaaTellL
namespace Go.Proofs.Ytacbmpffpfaciaa
open Go.RowKit Go.Maps Go.Shelf Go.Sort

set_option maxRecDepth 100000
set_option maxHeartbeats 4000000

def endsL : List Int := [-9223372036854775808, -1, 0, 1, 2, 10, 255, 256, 1000, 1001, 65535, 65536]
theorem endsL_wf : ∀ x ∈ endsL, Wf64 x := by
  intro x hx
  simp [endsL] at hx
  rcases hx with rfl | rfl | rfl | rfl | rfl | rfl | rfl | rfl | rfl | rfl | rfl | rfl <;> (constructor <;> omega)

def deedsL (a b m : Int) : List (Int × Int) := [(0, 1), (2, a), (0, a), (2, b), (2, b), (0, b), (2, m), (2, 0)]

theorem deedsL_wf {a b m : Int} (ha : Wf64 a) (hb : Wf64 b) (hm : Wf64 m) : ∀ x ∈ deedsL a b m, Wf64 x.1 ∧ Wf64 x.2 := by
  intro x hx
  simp [deedsL] at hx
  unfold Wf64 at *
  rcases hx with rfl | rfl | rfl | rfl | rfl | rfl | rfl | rfl <;> (simp only; omega)

theorem wrap_wf (x : Int) : Wf64 (IntKind.i64.wrap x) := by
  simp [IntKind.wrap, IntKind.signed, IntKind.bits, Wf64]
  omega

theorem deedsL_len (a b m : Int) : (deedsL a b m).length ≤ maxLen := by simp [deedsL, maxLen]

theorem cell_list_new (w : World) (l : List Value) (t : TypeId) : ∀ j u, l[j]? = some u → (w.alloc (.cells l.toArray t)).cell? ((⟨w.heap.size, 0, none⟩ : Addr).add j) = some u := by
  intro j u h
  have e : (⟨w.heap.size, 0, none⟩ : Addr).add j = ⟨w.heap.size, j, none⟩ := by simp [Addr.add]; exact fun h => h.symm
  rw [e, World.cell?_alloc_new]
  simpa using h

/-- Deeds of small numbers. -/
def Tame (cs : List (Int × Int)) : Prop := ∀ x ∈ cs, (0 ≤ x.1 ∧ x.1 ≤ 1000) ∧ (0 ≤ x.2 ∧ x.2 ≤ 1000)
theorem Tame.wf {cs : List (Int × Int)} (h : Tame cs) : ∀ x ∈ cs, Wf64 x.1 ∧ Wf64 x.2 := fun x hx => by
  have := h x hx
  unfold Wf64
  omega
theorem Tame.nil : Tame [] := fun x hx => by simp at hx
theorem Tame.snoc {cs : List (Int × Int)} (h : Tame cs) {a b : Int} (h1 : 0 ≤ a ∧ a ≤ 1000) (h2 : 0 ≤ b ∧ b ≤ 1000) : Tame (cs ++ [(a, b)]) := fun x hx => by
  rcases List.mem_append.1 hx with hx | hx
  · exact h x hx
  · obtain rfl : x = (a, b) := by simpa using hx
    exact ⟨h1, h2⟩

theorem grownRow {w w1 : World} {base k size : Nat} {e : TypeId} {v : Value} {xs : List Value} (o : Obj) (h : w.ownsRow base e size v k xs) (hg : (w.alloc o).grownBy w1 v.ownBlock) : Kept (fun i => base ≤ i) w w1 :=
  (Kept.alloc (fun i => base ≤ i) w o).trans (Kept.grown hg) (fun i _ hi => (h.lt i hi.symm).1)

theorem small_all (w : World) :
    Calls Try.prog 5 #[] w fun e w' => e = .returned (.bool true) ∧ Below w.heap.size w w' := by
  obtain ⟨i0, hi, hz0, hz1, hz2⟩ := info_parts infoDeed
  go_enter Try.func5, Try.ntmps5
  go_wp2_with fail
  have hbE : Kept (fun _ => False) w (w.alloc (.cells (endsL.map (Value.int .i64)).toArray 3)) := Kept.alloc _ _ _
  have hE := World.alloc_heap_new w (.cells (endsL.map (Value.int .i64)).toArray 3)
  have HE := Lib.hid hE
  have hsE : w.heap.size < (w.alloc (.cells (endsL.map (Value.int .i64)).toArray 3)).heap.size := by simp
  clear hE
  change Code.wp _ _ _ _ (w.alloc (.cells (endsL.map (Value.int .i64)).toArray 3))
  generalize w.alloc (.cells (endsL.map (Value.int .i64)).toArray 3) = w1 at *
  go_loopw [2] (fun i wr => ∃ k : Nat, k ≤ 144 ∧ i = .int .i64 k ∧ Kept (fun _ => False) w1 wr) (fun i _ => 144 - (intOf i).toNat)
  case atStart => exact ⟨0, Nat.zero_le _, rfl, Kept.refl _ _⟩
  case round =>
    obtain ⟨k, hk, rfl, hB⟩ := hrel
    have sB := hB.size
    by_cases hlt : k < 144
    · obtain ⟨a, ha⟩ : ∃ a, endsL[k % 12]? = some a := ⟨_, List.getElem?_eq_getElem (by simp [endsL]; omega)⟩
      obtain ⟨b, hb⟩ : ∃ b, endsL[k / 12]? = some b := ⟨_, List.getElem?_eq_getElem (by simp [endsL]; omega)⟩
      have hwa := Lib.hid (endsL_wf a (List.mem_of_getElem? ha))
      have hwb := Lib.hid (endsL_wf b (List.mem_of_getElem? hb))
      obtain ⟨m, hm⟩ : ∃ m, IntKind.i64.wrap (a * 2) = m := ⟨_, rfl⟩
      have hwm := Lib.hid (hm ▸ wrap_wf (a * 2) : Wf64 m)
      have d1 : wr.cell? ⟨w.heap.size, k % 12, none⟩ = some (.int .i64 a) := by
        rw [hB.cell (p := ⟨w.heap.size, k % 12, none⟩) hsE (fun h => h)]
        simp [World.cell?, HE.out, ha]
      have d2 : wr.cell? ⟨w.heap.size, k / 12, none⟩ = some (.int .i64 b) := by
        rw [hB.cell (p := ⟨w.heap.size, k / 12, none⟩) hsE (fun h => h)]
        simp [World.cell?, HE.out, hb]
      clear ha hb
      go_wp2_with fail
      go_quiet (fail)
      go_wp2_with fail
      have kD : Kept (fun _ => False) wr (wr.drewN nq) := ⟨rfl, rfl, rfl, Nat.le_refl _, fun _ _ _ => rfl⟩
      have hp1 := Lib.hid (pairs_lit (wr.drewN nq) (deedsL a b m) 45 (deedsL_wf hwa.out hwb.out hwm.out))
      have k1 : Kept (fun _ => False) w1 ((wr.drewN nq).alloc (.cells (flat (deedsL a b m)).toArray 45)) := (hB.trans kD (fun _ _ h => h)).trans (Kept.alloc _ _ _) (fun _ _ h => h)
      clear d1 d2
      change Calls _ _ _ ((wr.drewN nq).alloc (.cells (flat (deedsL a b m)).toArray 45)) _
      generalize (wr.drewN nq).alloc (.cells (flat (deedsL a b m)).toArray 45) = W1 at *
      refine (does_all a 9 5 _ (deedsL a b m) 8 _ hwa.out (deedsL_len _ _ _) hp1.out).mono ?_
      rintro e W2 ⟨rfl, hb2⟩
      have hp2 := Lib.hid (hp1.out.kept (Kept.below hb2) (fun _ h => h.elim))
      go_wp2_with fail
      refine (does_all 1 b 5 _ (deedsL a b m) 8 _ (by constructor <;> omega) (deedsL_len _ _ _) hp2.out).mono ?_
      rintro e W3 ⟨rfl, hb3⟩
      have hp3 := Lib.hid (hp2.out.kept (Kept.below hb3) (fun _ h => h.elim))
      go_wp2_with fail
      refine (does_all 1 9 a _ (deedsL a b m) 8 _ (by constructor <;> omega) (deedsL_len _ _ _) hp3.out).mono ?_
      rintro e W4 ⟨rfl, hb4⟩
      have hp4 := Lib.hid (hp3.out.kept (Kept.below hb4) (fun _ h => h.elim))
      go_wp2_with fail
      refine (does_all 65535 255 1 _ (deedsL a b m) 8 _ (by constructor <;> omega) (deedsL_len _ _ _) hp4.out).mono ?_
      rintro e W5 ⟨rfl, hb5⟩
      go_wp2
      go_roundw
      case rel => exact ⟨k + 1, by omega, by go_num, (((k1.trans (Kept.below hb2) (fun _ _ h => h)).trans (Kept.below hb3) (fun _ _ h => h)).trans (Kept.below hb4) (fun _ _ h => h)).trans (Kept.below hb5) (fun _ _ h => h)⟩
      case measure => simp [intOf]; omega
    · go_wp2_with fail
      obtain ⟨w2, rfl⟩ : ∃ wo : World, wo = wr := ⟨_, rfl⟩
      go_loopw [6] (fun i wr => ∃ k : Nat, k ≤ 7 ∧ i = .int .i64 ((k : Int) + 1) ∧ Kept (fun _ => False) w2 wr) (fun i _ => 8 - (intOf i).toNat)
      case atStart => exact ⟨0, Nat.zero_le _, rfl, Kept.refl _ _⟩
      case round =>
        obtain ⟨k2, hk2, rfl, hB2⟩ := hrel
        have sB2 := hB2.size
        by_cases hlt2 : k2 < 7
        · go_wp2_with fail
          obtain ⟨w3, rfl⟩ : ∃ wo : World, wo = wr := ⟨_, rfl⟩
          generalize decide ((k2 : Int) + 1 < 8) = b69
          go_loopw [7, 8] (fun l i wr => ∃ q : Nat, q ≤ 60 ∧ i = .int .i64 (q : Int) ∧ (∃ cs : List (Int × Int), wr.ownsRow w3.heap.size 45 2 l cs.length (flat cs) ∧ cs.length ≤ 3 * q ∧ Tame cs) ∧ Kept (fun _ => False) w3 wr) (fun _ i _ => 60 - (intOf i).toNat)
          case atStart => exact ⟨0, Nat.zero_le _, rfl, ⟨[], World.ownsRow_nil _ _ _ _, by simp, Tame.nil⟩, Kept.refl _ _⟩
          case round =>
            obtain ⟨q, hq, rfl, ⟨cs, hr, hcl, htm⟩, hB3⟩ := hrel
            have sB3 := hB3.size
            have HR := Lib.hid hr
            have HM := Lib.hid htm
            by_cases hlt3 : q < 60
            · clear hr htm
              obtain ⟨z, hz, z1, z2⟩ : ∃ z : Int, (q : Int) * ((k2 : Int) + 1) = z ∧ 0 ≤ z ∧ z ≤ 480 := by
                refine ⟨_, rfl, Int.mul_nonneg (by omega) (by omega), ?_⟩
                have : (q : Int) * ((k2 : Int) + 1) ≤ 60 * 8 := Int.mul_le_mul (by omega) (by omega) (by omega) (by omega)
                omega
              by_cases hz5 : z % 5 = 2
              · go_wp2_with (at_builtin; first
                  | (refine wpList_append_own _ rfl _ _ 37 rfl w3.heap.size 45 i0 (.agg #[.int .i64 0, .int .i64 0]) 2 16 Try.underlying37 hi hz0 hz1 hz2 rfl (by decide) _ _ _ rfl (HR.out.alloc _) ⟨wr.heap.size, 0, none⟩ 1 1 [.int .i64 2, .int .i64 (q : Int)] rfl rfl (cell_list_new _ _ _) (by simp [Value.oneCell']) (by unfold maxLen; omega) (by omega) (by simp; omega) ?_; intro v1 v1w hown1 hgrow1 _; have HR1 := Lib.hid hown1; have HG1 := Lib.hid (hgrow1); clear hown1 hgrow1; have sg1 := (grownRow _ HR.out HG1.out).size)
                  | (refine wpList_append_own _ rfl _ _ 37 rfl w3.heap.size 45 i0 (.agg #[.int .i64 0, .int .i64 0]) 2 16 Try.underlying37 hi hz0 hz1 hz2 rfl (by decide) _ _ _ rfl (HR1.out.alloc _) ⟨v1w.heap.size, 0, none⟩ 2 2 [.int .i64 0, .int .i64 (1 + (q : Int) % 4), .int .i64 0, .int .i64 (1 + (q : Int) % 3)] rfl rfl (cell_list_new _ _ _) (by simp [Value.oneCell']) (by unfold maxLen; omega) (by omega) (by simp; omega) ?_; intro v2 v2w hown2 hgrow2 _; have HR2 := Lib.hid hown2; have HG2 := Lib.hid hgrow2; clear hown2 hgrow2))
                go_roundw
                case rel =>
                  refine ⟨q + 1, by omega, by go_num, ⟨cs ++ [(2, (q : Int))] ++ [(0, 1 + (q : Int) % 4)] ++ [(0, 1 + (q : Int) % 3)], ?_, by simp; omega, ((HM.out.snoc (by omega) (by omega)).snoc (by omega) (by omega)).snoc (by omega) (by omega)⟩, ?_⟩
                  · have := HR2.out
                    rw [flat_snoc, flat_snoc, flat_snoc]
                    simpa using this
                  · exact (hB3.trans (grownRow _ HR.out HG1.out) (fun i h1 h2 => by omega)).trans (grownRow _ HR1.out HG2.out) (fun i h1 h2 => by omega)
                case measure => simp [intOf]; omega
              · have hz6 : (z % 5 == 2) = false := by simp; exact hz5
                clear hz5
                go_wp2_with (at_builtin; (refine wpList_append_own _ rfl _ _ 37 rfl w3.heap.size 45 i0 (.agg #[.int .i64 0, .int .i64 0]) 2 16 Try.underlying37 hi hz0 hz1 hz2 rfl (by decide) _ _ _ rfl (HR.out.alloc _) ⟨wr.heap.size, 0, none⟩ 1 1 [.int .i64 2, .int .i64 (q : Int)] rfl rfl (cell_list_new _ _ _) (by simp [Value.oneCell']) (by unfold maxLen; omega) (by omega) (by simp; omega) ?_; intro v1 v1w hown1 hgrow1 _; have HR1 := Lib.hid hown1; have HG1 := Lib.hid (hgrow1); clear hown1 hgrow1))
                go_roundw
                case rel =>
                  refine ⟨q + 1, by omega, by go_num, ⟨cs ++ [(2, (q : Int))], ?_, by simp; omega, HM.out.snoc (by omega) (by omega)⟩, ?_⟩
                  · have := HR1.out
                    rw [flat_snoc]
                    simpa using this
                  · exact hB3.trans (grownRow _ HR.out HG1.out) (fun i h1 h2 => by omega)
                case measure => simp [intOf]; omega
            · obtain ⟨pl, cl, rfl, hpl⟩ := pairs_row hr htm.wf
              have HPL := Lib.hid hpl
              clear hr htm hpl
              go_wp2_with fail
              refine (does_all 3 4 ((k2 : Int) + 1) pl cs cl _ (by constructor <;> omega) (by unfold maxLen; omega) HPL.out).mono ?_
              rintro e W5 ⟨rfl, hb5⟩
              go_wp2
              go_roundw
              case rel => exact ⟨k2 + 1, by omega, by go_num, (hB2.trans hB3 (fun _ _ h => h)).trans (Kept.below hb5) (fun _ _ h => h)⟩
              case measure => simp [intOf]; omega
        · go_wp2_with fail
          obtain ⟨w4, rfl⟩ : ∃ wo : World, wo = wr := ⟨_, rfl⟩
          go_loopw [9, 10] (fun l i wr => ∃ q : Nat, q ≤ 255 ∧ i = .int .i64 ((q : Int) + 1) ∧ (∃ cs : List (Int × Int), wr.ownsRow w4.heap.size 45 2 l cs.length (flat cs) ∧ cs.length ≤ q ∧ Tame cs) ∧ Kept (fun _ => False) w4 wr) (fun _ i _ => 256 - (intOf i).toNat)
          case atStart => exact ⟨0, Nat.zero_le _, rfl, ⟨[], World.ownsRow_nil _ _ _ _, by simp, Tame.nil⟩, Kept.refl _ _⟩
          case round =>
            obtain ⟨q, hq, rfl, ⟨cs, hr, hcl, htm⟩, hB4⟩ := hrel
            have sB4 := hB4.size
            have HR := Lib.hid hr
            have HM := Lib.hid htm
            clear hr htm
            by_cases hlt4 : q < 255
            · go_wp2_with (at_builtin; (refine wpList_append_own _ rfl _ _ 37 rfl w4.heap.size 45 i0 (.agg #[.int .i64 0, .int .i64 0]) 2 16 Try.underlying37 hi hz0 hz1 hz2 rfl (by decide) _ _ _ rfl (HR.out.alloc _) ⟨wr.heap.size, 0, none⟩ 1 1 [.int .i64 0, .int .i64 (256 - ((q : Int) + 1))] rfl rfl (cell_list_new _ _ _) (by simp [Value.oneCell']) (by unfold maxLen; omega) (by omega) (by simp; omega) ?_; intro v1 v1w hown1 hgrow1 _; have HR1 := Lib.hid hown1; have HG1 := Lib.hid (hgrow1); clear hown1 hgrow1))
              go_roundw
              case rel =>
                refine ⟨q + 1, by omega, by go_num, ⟨cs ++ [(0, 256 - ((q : Int) + 1))], ?_, by simp; omega, HM.out.snoc (by omega) (by omega)⟩, ?_⟩
                · have := HR1.out
                  rw [flat_snoc]
                  simpa using this
                · exact hB4.trans (grownRow _ HR.out HG1.out) (fun i h1 h2 => by omega)
              case measure => simp [intOf]; omega
            · go_wp2_with fail
              obtain ⟨w5, rfl⟩ : ∃ wo : World, wo = wr := ⟨_, rfl⟩
              have hkC : Kept (fun _ => False) w5 ((w5.alloc (.cells #[.slice none 0 0, .pointer none, .int .i64 0, .int .i64 0, .int .i64 0] 60)).alloc (.cells #[.pointer none, .pointer (some ⟨w5.heap.size, 0, none⟩)] 38)) := (Kept.alloc _ _ _).trans (Kept.alloc _ _ _) (fun _ _ h => h)
              have hLs : w5.heap.size + 1 < ((w5.alloc (.cells #[.slice none 0 0, .pointer none, .int .i64 0, .int .i64 0, .int .i64 0] 60)).alloc (.cells #[.pointer none, .pointer (some ⟨w5.heap.size, 0, none⟩)] 38)).heap.size := by simp
              have hL : ∀ j, ((w5.alloc (.cells #[.slice none 0 0, .pointer none, .int .i64 0, .int .i64 0, .int .i64 0] 60)).alloc (.cells #[.pointer none, .pointer (some ⟨w5.heap.size, 0, none⟩)] 38)).cell? ⟨w5.heap.size + 1, j, none⟩ = #[Value.pointer none, .pointer (some ⟨w5.heap.size, 0, none⟩)][j]? := by
                intro j
                have := World.cell?_alloc_new (w5.alloc (.cells #[.slice none 0 0, .pointer none, .int .i64 0, .int .i64 0, .int .i64 0] 60)) #[.pointer none, .pointer (some ⟨w5.heap.size, 0, none⟩)] 38 j
                rwa [World.size_alloc] at this
              have hU : ((w5.alloc (.cells #[.slice none 0 0, .pointer none, .int .i64 0, .int .i64 0, .int .i64 0] 60)).alloc (.cells #[.pointer none, .pointer (some ⟨w5.heap.size, 0, none⟩)] 38)).cell? ⟨w5.heap.size, 1, none⟩ = some (.pointer none) := by
                simp
              have HL := Lib.hid hL
              have HU := Lib.hid hU
              clear hL hU
              generalize (w5.alloc (.cells #[.slice none 0 0, .pointer none, .int .i64 0, .int .i64 0, .int .i64 0] 60)).alloc (.cells #[.pointer none, .pointer (some ⟨w5.heap.size, 0, none⟩)] 38) = W6 at *
              go_loopw [12] (fun i wr => ∃ d : Nat, d ≤ 2 ∧ i = .int .i64 (d : Int) ∧ Kept (fun _ => False) W6 wr) (fun i _ => 2 - (intOf i).toNat)
              case atStart => exact ⟨0, Nat.zero_le _, rfl, Kept.refl _ _⟩
              case round =>
                obtain ⟨d, hd, rfl, hB6⟩ := hrel
                have sB6 := hB6.size
                by_cases hlt6 : d < 2
                · obtain ⟨p, hp1, hp2⟩ : ∃ p, wr.cell? ⟨w5.heap.size + 1, d, none⟩ = some (.pointer p) ∧ Unmade wr p := by
                    match d, hlt6 with
                    | 0, _ => exact ⟨none, (hB6.cell (p := ⟨w5.heap.size + 1, 0, none⟩) hLs (fun h => h)).trans (by rw [HL.out]; rfl), .inl rfl⟩
                    | 1, _ => exact ⟨_, (hB6.cell (p := ⟨w5.heap.size + 1, 1, none⟩) hLs (fun h => h)).trans (by rw [HL.out]; rfl), .inr ⟨_, rfl, by omega, (hB6.cell (p := ⟨w5.heap.size, 1, none⟩) (by simp only; omega) (fun h => h)).trans HU.out⟩⟩
                  have HP := Lib.hid hp2
                  clear hp2
                  go_wp2_with fail
                  refine (utick _ p 5 HP.out).mono ?_
                  rintro e v1 ⟨rfl, hk1⟩
                  have kB : Kept (fun _ => False) v1 (v1.alloc (.cells #[.int .i64 0, .int .i64 0, .int .i64 0, .slice none 0 0] 48)) := Kept.alloc _ _ _
                  have HP1 := Lib.hid ((HP.out.kept hk1 (fun i h => h.elim)).kept kB (fun i h => h.elim))
                  go_wp2_with fail
                  refine (uclosed _ p 1 HP1.out).mono ?_
                  rintro e v2 ⟨rfl, rfl⟩
                  go_wp2_with fail
                  refine (useq _ p HP1.out).mono ?_
                  rintro e v2 ⟨rfl, rfl⟩
                  go_wp2_with fail
                  refine (uopen _ p HP1.out).mono ?_
                  rintro e v2 ⟨rfl, rfl⟩
                  go_wp2
                  go_roundw
                  case rel => exact ⟨d + 1, by omega, by go_num, (hB6.trans hk1 (fun _ _ h => h)).trans kB (fun _ _ h => h)⟩
                  case measure => simp [intOf]; omega
                · have HR6 := Lib.hid (ownsRow_keptS (ownsRow_keptS HR.out hkC (fun _ _ h => h)) hB6 (fun _ _ h => h))
                  go_wp2_with (at_builtin; (refine wpList_append_own _ rfl _ _ 37 rfl w4.heap.size 45 i0 (.agg #[.int .i64 0, .int .i64 0]) 2 16 Try.underlying37 hi hz0 hz1 hz2 rfl (by decide) _ _ _ rfl (HR6.out.alloc _) ⟨wr.heap.size, 0, none⟩ 1 1 [.int .i64 2, .int .i64 700] rfl rfl (cell_list_new _ _ _) (by simp [Value.oneCell']) (by unfold maxLen; omega) (by omega) (by simp; omega) ?_; intro v1 v1w hown1 hgrow1 _; have hkg := grownRow _ HR6.out hgrow1; obtain ⟨cs2, hown2, htm2, hcl2⟩ : ∃ cs2 : List (Int × Int), v1w.ownsRow w4.heap.size 45 2 v1 cs2.length (flat cs2) ∧ Tame cs2 ∧ cs2.length ≤ 256 := ⟨cs ++ [(2, 700)], (by rw [flat_snoc]; simpa using hown1), HM.out.snoc (by omega) (by omega), (by simp; omega)⟩; obtain ⟨pl, cl, rfl, hpl⟩ := pairs_row hown2 htm2.wf; have HPL := Lib.hid hpl; clear hown1 hown2 hpl hgrow1 htm2))
                  refine (does_all 0 255 7 pl cs2 cl _ (by constructor <;> omega) (by unfold maxLen; omega) HPL.out).mono ?_
                  rintro e W7 ⟨rfl, hb7⟩
                  go_wp2_with fail
                  refine (tawake_any _).mono ?_
                  rintro e W8 ⟨rfl, hb8⟩
                  go_wp2
                  go_ret
                  refine ⟨rfl, ?_⟩
                  have c1 := (((hbE.trans hB (fun _ _ h => h)).trans hB2 (fun _ _ h => h)).trans hB4 (fun _ _ h => h)).trans hkC (fun _ _ h => h)
                  have c2 := ((c1.trans hB6 (fun _ _ h => h)).trans hkg (fun i h1 h2 => by have := hbE.size; omega))
                  exact ((c2.trans (Kept.below hb7) (fun _ _ h => h)).trans (Kept.below hb8) (fun _ _ h => h)).toBelow (Nat.le_refl _) (fun i h => h.elim)

end Go.Proofs.Ytacbmpffpfaciaa
