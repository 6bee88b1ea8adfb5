/-
  CodeEnds: the walk.
-/
import Derived.Test.YtaaahbpeaamjgaaGreatMe
import Derived.Lib.MinMax
namespace Go.Proofs.YtaaahbpeaamjgaaGreat
open Go.RowKit Go.Maps
set_option linter.unusedVariables false
set_option linter.unusedSimpArgs false
set_option maxRecDepth 100000
set_option maxHeartbeats 8000000

def ends (j : Nat) : Int := if j = 0 then 255 else if j = 1 then 256 else if j = 2 then 1099511627776 else -4611686018427387904
theorem ends_at (w : World) (g : Nat) (hg : w.heap.size = g) (j : Nat) (hj : j < 4) : (w.alloc (.cells #[.int .i64 255, .int .i64 256, .int .i64 1099511627776, .int .i64 (-4611686018427387904)] 3)).cell? ⟨g, j, none⟩ = some (.int .i64 (ends j)) := by
  subst hg
  refine (World.cell?_alloc_new w _ _ j).trans ?_
  obtain rfl | rfl | rfl | rfl : j = 0 ∨ j = 1 ∨ j = 2 ∨ j = 3 := by omega
  all_goals rfl
theorem ints2 (w : World) (a b : Int) (g : Nat) (hg : w.heap.size = g) : IntsAt (w.alloc (.cells #[.int .i64 a, .int .i64 b] 3)) (.slice (some ⟨g, 0, none⟩) 2 2) [a, b] := by
  subst hg
  refine ints_cells rfl (Nat.le_refl _) (fun i hi => ?_)
  refine (World.cell?_alloc_new w _ _ i).trans ?_
  obtain rfl | rfl : i = 0 ∨ i = 1 := by omega
  all_goals rfl
theorem ints3 (w : World) (a b c : Int) (g : Nat) (hg : w.heap.size = g) : IntsAt (w.alloc (.cells #[.int .i64 a, .int .i64 b, .int .i64 c] 3)) (.slice (some ⟨g, 0, none⟩) 3 3) [a, b, c] := by
  subst hg
  refine ints_cells rfl (Nat.le_refl _) (fun i hi => ?_)
  refine (World.cell?_alloc_new w _ _ i).trans ?_
  obtain rfl | rfl | rfl : i = 0 ∨ i = 1 ∨ i = 2 := by omega
  all_goals rfl
theorem litH12 (w : World) (i1 i2 : Int) (x y z : B) (g1 g2 g3 : Nat) (h1 : w.heap.size = g1) (h2 : w.heap.size + 1 = g2) (h3 : w.heap.size + 1 + 1 = g3) :
    HeldAt (((w.alloc (.cells #[bv x] 5)).alloc (.cells #[bv y, bv z] 5)).alloc (.cells #[.int .i64 i1, .slice (some ⟨g1, 0, none⟩) 1 1, .int .i64 i2, .slice (some ⟨g2, 0, none⟩) 2 2] 57)) (.slice (some ⟨g3, 0, none⟩) 2 2) [(i1, [x]), (i2, [y, z])] := by
  have e : ((w.alloc (.cells #[bv x] 5)).alloc (.cells #[bv y, bv z] 5)).heap.size = g3 := by simp; omega
  refine ⟨_, _, rfl, Nat.le_refl _, fun _ => ⟨g3, 0, rfl, fun i hi => ?_⟩⟩
  subst e
  have hi' : i < 2 := hi
  obtain rfl | rfl : i = 0 ∨ i = 1 := by omega
  · exact ⟨(World.cell?_alloc_new _ _ _ 0).trans rfl, _, (World.cell?_alloc_new _ _ _ 1).trans rfl, ((lit1 w x g1 h1).alloc _).alloc _⟩
  · refine ⟨(World.cell?_alloc_new _ _ _ 2).trans rfl, _, (World.cell?_alloc_new _ _ _ 3).trans rfl, BytesAt.alloc ?_ _⟩
    have e2 : (w.alloc (.cells #[bv x] 5)).heap.size = g2 := by simp; omega
    subst e2
    refine bytes_cells rfl (fun i hi => ?_)
    refine (World.cell?_alloc_new _ _ _ i).trans ?_
    obtain rfl | rfl : i = 0 ∨ i = 1 := by omega
    all_goals rfl
theorem rows_nil (w : World) : RowsAt w (.slice none 0 0) [] := ⟨none, 0, rfl, fun h => absurd h (by simp)⟩

theorem codeEnds_any (w : World) :
    Calls Tryz.prog 5 #[] w fun e w' => e = .returned (.bool true) ∧ Below w.heap.size w w' := by
  go_enter Tryz.func5, Tryz.ntmps5
  go_wp2
  go_loopw [1] (fun i wr => ∃ n : Int, i = .int .i64 n ∧ -1 ≤ n ∧ n ≤ 6 ∧ Below w.heap.size w wr) (fun i _ => (6 - intOf i).toNat)
  case atStart => exact ⟨-1, rfl, by omega, by omega, Below.refl _ _⟩
  case round =>
    obtain ⟨n, rfl, hn1, hn6, hB⟩ := hrel
    have HB := Lib.hid hB
    clear hB
    by_cases hlt : n < 6
    · go_wp2
      go_loopw [2] (fun i wk => ∃ k : Int, i = .int .i64 k ∧ -1 ≤ k ∧ k ≤ 7 ∧ Below w.heap.size w wk) (fun i _ => (7 - intOf i).toNat)
      case atStart => exact ⟨-1, rfl, by omega, by omega, HB.out⟩
      case round =>
        obtain ⟨k, rfl, hk1, hk7, hBk⟩ := hrel
        have HBK := Lib.hid hBk
        clear hBk
        by_cases hltk : k < 7
        · go_wp2
          go_loopw [3, 4, 5] (fun v3 v4 i wi => ∃ (m : Nat) (ls : List (List B)) (hs : List (Int × List B)) (us ul us4 : List Value), i = .int .i64 (m : Int) ∧ (m : Int) ≤ max k 0 ∧ ls.length = m ∧ hs.length = m ∧ EndInv wi w.heap.size v3 v4 ls hs us ul us4 ∧ (∀ j, (ls.getD j []).length ≤ 3) ∧ (∀ j, (hs.getD j (0, [])).2.length ≤ 3) ∧ Below w.heap.size w wi) (fun _ _ i _ => (7 - intOf i).toNat)
          case atStart => exact ⟨0, [], [], [], [], [], rfl, by omega, rfl, rfl, EndInv.start _ _, fun j => by simp, fun j => by simp, HBK.out⟩
          case round =>
            obtain ⟨m, ls, hs, us, ul, us4, rfl, hmk, hls, hhs, hE, hw3, hw4, hBi⟩ := hrel
            have HLS := Lib.hid hls
            have HHS := Lib.hid hhs
            have HE := Lib.hid hE
            have HW3 := Lib.hid hw3
            have HW4 := Lib.hid hw4
            have HBI := Lib.hid hBi
            clear hls hhs hE hw3 hw4 hBi
            by_cases hltm : (m : Int) < k
            · have hm7 : m < 7 := by omega
              clear hmk
              have hsr := HBI.out.size
              obtain ⟨l1, hl1, hl1'⟩ := lit_some [(m : Int) * 7, n % 256] (by simp; omega)
              have HY1 := Lib.hid (show BytesAt (wr.alloc (.cells #[.int .u8 ((m : Int) * 7), .int .u8 (n % 256)] 5)) (.slice (some ⟨wr.heap.size, 0, none⟩) 2 2) l1 from lit_bytes wr _ l1 2 rfl hl1')
              have HL1 := Lib.hid hl1
              have HE1 := Lib.hid (HE.out.below (bal' wr (.cells #[.int .u8 ((m : Int) * 7), .int .u8 (n % 256)] 5)))
              have hsa := (bal' wr (.cells #[.int .u8 ((m : Int) * 7), .int .u8 (n % 256)] 5)).size
              clear hl1 hl1'
              go_wp2_with (at_builtin; refine app_el 25 51 1 24 (.slice none 0 0) Tryz.underlying25 infoR rfl (by decide) rfl _ _ rfl w.heap.size m u3 us rfl (HE1.out.o3n HLS.out) [.slice (some ⟨wr.heap.size, 0, none⟩) 2 2] rfl (by simp [Value.oneCell']) (by exact congrArg (fun s => Value.slice (some ⟨s, 0, none⟩) 1 1) (show wr.heap.size + 1 = (wr.alloc (.cells #[.int .u8 ((m : Int) * 7), .int .u8 (n % 256)] 5)).heap.size by simp)) (by omega) (by omega) ?_; intro g6 c6 w6 hR6 hk6 hs6 hg6; refine Hid.out ?_)
              have HE6 := Lib.hid (HE1.out.push3n HLS.out HY1.out (HE.out.fresh _ 2 2) hk6 hR6 (hg6.imp id (fun q => Nat.le_of_lt q)))
              have HB6 := Lib.hid (show Below w.heap.size w w6 from (HBI.out.trans (Kept.toBelow (Kept.alloc (fun _ => False) wr _) HBI.out.size (fun _ h => h.elim))).trans (hk6.toBelow (by omega) (fun i hi => (HE.out.o3.lt i hi).1)))
              have hsz6 := hk6.size
              clear hR6 hk6 hg6
              obtain ⟨l2, hl2, hl2'⟩ := lit_some [(m : Int), k, 9] (by simp; omega)
              have HY2 := Lib.hid (show BytesAt (w6.alloc (.cells #[.int .u8 (m : Int), .int .u8 k, .int .u8 9] 5)) (.slice (some ⟨w6.heap.size, 0, none⟩) 3 3) l2 from lit_bytes w6 _ l2 3 rfl hl2')
              have HL2 := Lib.hid hl2
              have HE7 := Lib.hid (HE6.out.below (bal' w6 (.cells #[.int .u8 (m : Int), .int .u8 k, .int .u8 9] 5)))
              have hsb := (bal' w6 (.cells #[.int .u8 (m : Int), .int .u8 k, .int .u8 9] 5)).size
              clear hl2 hl2'
              refine Lib.hid ?_
              go_wp2_with (at_builtin; refine app_el 22 57 2 32 (.agg #[.int .i64 0, .slice none 0 0]) Tryz.underlying22 infoH2 rfl (by decide) rfl _ _ rfl w.heap.size m u4 us4 rfl (HE7.out.o4n HHS.out) [.int .i64 (((m : Int) * 2 + 1) % max n 1), .slice (some ⟨w6.heap.size, 0, none⟩) 3 3] rfl (by simp [Value.oneCell']) (by exact congrArg (fun s => Value.slice (some ⟨s, 0, none⟩) 1 1) (show w6.heap.size + 1 = (w6.alloc (.cells #[.int .u8 (m : Int), .int .u8 k, .int .u8 9] 5)).heap.size by simp)) (by omega) (by omega) ?_; intro g8 c8 w8 hR8 hk8 hs8 hg8; refine Hid.out ?_)
              have HE8 := Lib.hid (HE7.out.push4n HHS.out HY2.out (HE6.out.fresh _ 3 3) hk8 hR8 (hg8.imp id (fun q => Nat.le_of_lt q)))
              have HB8 := Lib.hid (show Below w.heap.size w w8 from (HB6.out.trans (Kept.toBelow (Kept.alloc (fun _ => False) w6 _) HB6.out.size (fun _ h => h.elim))).trans (hk8.toBelow (by omega) (fun i hi => (HE6.out.o4.lt i hi).1)))
              clear hR8 hk8 hg8
              refine Lib.hid ?_
              go_wp2
              go_roundw
              case rel =>
                refine ⟨m + 1, _, _, _, _, _, by go_num, by omega, by rw [List.length_append, HLS.out]; rfl, by rw [List.length_append, HHS.out]; rfl, HE8.out, fun j => ?_, fun j => ?_, HB8.out⟩
                · by_cases e : j < ls.length
                  · rw [getD_snoc_lt e]; exact HW3.out j
                  · by_cases e2 : j = ls.length
                    · rw [e2, getD_snoc_last]; have := HL1.out; simp at this; omega
                    · rw [List.getD_eq_getElem?_getD, List.getElem?_eq_none (by simp; omega)]; simp
                · by_cases e : j < hs.length
                  · rw [List.getD_eq_getElem?_getD, List.getElem?_append_left e, ← List.getD_eq_getElem?_getD]; exact HW4.out j
                  · by_cases e2 : j = hs.length
                    · subst e2; have := HL2.out; simp at this; simp [List.getD_eq_getElem?_getD]; omega
                    · rw [List.getD_eq_getElem?_getD, List.getElem?_eq_none (by simp; omega)]; simp
              case measure => simp [intOf]; omega
            · have hmk7 : m ≤ 7 := by omega
              clear hmk
              have HED := Lib.hid (HE.out.below (belowDrew (Below.refl wr.heap.size wr)))
              have HBD := Lib.hid (belowDrew HBI.out)
              obtain ⟨K0, hK0, hK07⟩ : ∃ K0 : Nat, max k 0 = (K0 : Int) ∧ K0 ≤ 7 := ⟨(max k 0).toNat, by omega, by omega⟩
              obtain ⟨N6, hN6, hN66⟩ : ∃ N6 : Nat, max (min n 6) 0 = (N6 : Int) ∧ N6 ≤ 6 := ⟨(max (min n 6) 0).toNat, by omega, by omega⟩
              have HN66 := Lib.hid hN66
              have hN66i : (N6 : Int) ≤ 6 := by omega
              have hN60i : (0 : Int) ≤ (N6 : Int) := by omega
              have hwk : IntKind.i64.wrap (k - 1) = k - 1 := by simp [IntKind.wrap, IntKind.signed, IntKind.bits]; omega
              have hwn : IntKind.i64.wrap (n - 1) = n - 1 := by simp [IntKind.wrap, IntKind.signed, IntKind.bits]; omega
              have hmk : ∀ W : World, (Instr.makeSlice 25 (.int .i64 (K0 : Int)) (.int .i64 (K0 : Int))).run Tryz.prog W = .ok (.slice (some ⟨W.heap.size, 0, none⟩) K0 K0) (W.alloc (.cells (Array.replicate K0 (.slice none 0 0)) 51)) := fun W => run_make_one (w := W) 25 51 (.slice none 0 0) 24 Tryz.underlying25 infoR rfl (by omega) K0 (by omega)
              go_wp2_with fail
              refine q_start 68 (by as_aux_lemma => kernel_rfl) (by as_aux_lemma => kernel_rfl) ?_
              refine q_take 0 (by as_aux_lemma => kernel_rfl) (by as_aux_lemma => kernel_rfl) (by as_aux_lemma => kernel_rfl) (by as_aux_lemma => kernel_rfl) (fun oi ho => ?_)
              simp only [List.getElem?_toArray, List.getElem?_cons_succ, List.getElem?_cons_zero, Option.some.injEq] at ho
              subst ho
              refine ⟨?_, Or.inl ⟨by rfl, fun w _ => ?_⟩, ?_⟩
              rotate_left
              · (go_simp <;> with_reducible rfl)
              try simp only [Act.put, List.setIfInBounds_toArray, List.set_cons_zero, List.set_cons_succ]
              refine q_take 1 (by as_aux_lemma => kernel_rfl) (by as_aux_lemma => kernel_rfl) (by as_aux_lemma => kernel_rfl) (by as_aux_lemma => kernel_rfl) (fun oi ho => ?_)
              simp only [List.getElem?_toArray, List.getElem?_cons_succ, List.getElem?_cons_zero, Option.some.injEq] at ho
              subst ho
              refine ⟨?_, Or.inl ⟨by rfl, fun w _ => ?_⟩, ?_⟩
              rotate_left
              · (go_simp <;> with_reducible rfl)
              try simp only [Act.put, List.setIfInBounds_toArray, List.set_cons_zero, List.set_cons_succ]
              refine q_take 2 (by as_aux_lemma => kernel_rfl) (by as_aux_lemma => kernel_rfl) (by as_aux_lemma => kernel_rfl) (by as_aux_lemma => kernel_rfl) (fun oi ho => ?_)
              simp only [List.getElem?_toArray, List.getElem?_cons_succ, List.getElem?_cons_zero, Option.some.injEq] at ho
              subst ho
              refine ⟨?_, Or.inl ⟨by rfl, fun w _ => ?_⟩, ?_⟩
              rotate_left
              · (go_simp <;> with_reducible rfl)
              try simp only [Act.put, List.setIfInBounds_toArray, List.set_cons_zero, List.set_cons_succ]
              refine q_take 3 (by as_aux_lemma => kernel_rfl) (by as_aux_lemma => kernel_rfl) (by as_aux_lemma => kernel_rfl) (by as_aux_lemma => kernel_rfl) (fun oi ho => ?_)
              simp only [List.getElem?_toArray, List.getElem?_cons_succ, List.getElem?_cons_zero, Option.some.injEq] at ho
              subst ho
              refine ⟨?_, Or.inl ⟨by rfl, fun w _ => ?_⟩, ?_⟩
              rotate_left
              · (go_simp <;> with_reducible rfl)
              try simp only [Act.put, List.setIfInBounds_toArray, List.set_cons_zero, List.set_cons_succ]
              refine q_take 4 (by as_aux_lemma => kernel_rfl) (by as_aux_lemma => kernel_rfl) (by as_aux_lemma => kernel_rfl) (by as_aux_lemma => kernel_rfl) (fun oi ho => ?_)
              simp only [List.getElem?_toArray, List.getElem?_cons_succ, List.getElem?_cons_zero, Option.some.injEq] at ho
              subst ho
              refine ⟨?_, Or.inl ⟨by rfl, fun w _ => ?_⟩, ?_⟩
              rotate_left
              · (go_simp <;> with_reducible rfl)
              try simp only [Act.put, List.setIfInBounds_toArray, List.set_cons_zero, List.set_cons_succ]
              refine q_all (rs := [5]) (by as_aux_lemma => kernel_rfl) (by simp) ?_
              refine q_step 5 (by as_aux_lemma => kernel_rfl) (fun o ho K hK => ?_) AllReadyH.nil
              simp only [List.getElem?_toArray, List.getElem?_cons_succ, List.getElem?_cons_zero, Option.some.injEq] at ho
              subst ho
              go_simp
              go_at_call 4
              refine (encCall wr.drew n k u3 ls (k - 1) HED.out.rows (by rw [HLS.out]; omega) HW3.out (by omega) (by omega)).mono ?_
              rintro e w1 ⟨rfl, hB1⟩
              have HE1 := Lib.hid (HED.out.below hB1)
              have HB1 := Lib.hid (below_more HBD.out hB1 HBD.out.size)
              clear hB1
              go_wp2_with fail
              refine hK.out _ _ ?_
              clear hK K
              try simp only [Act.put, List.setIfInBounds_toArray, List.set_cons_zero, List.set_cons_succ]
              refine q_take 6 (by as_aux_lemma => kernel_rfl) (by as_aux_lemma => kernel_rfl) (by as_aux_lemma => kernel_rfl) (by as_aux_lemma => kernel_rfl) (fun oi ho => ?_)
              simp only [List.getElem?_toArray, List.getElem?_cons_succ, List.getElem?_cons_zero, Option.some.injEq] at ho
              subst ho
              refine ⟨?_, Or.inl ⟨by rfl, fun w _ => ?_⟩, ?_⟩
              rotate_left
              · (go_simp <;> with_reducible rfl)
              try simp only [Act.put, List.setIfInBounds_toArray, List.set_cons_zero, List.set_cons_succ]
              refine q_take 7 (by as_aux_lemma => kernel_rfl) (by as_aux_lemma => kernel_rfl) (by as_aux_lemma => kernel_rfl) (by as_aux_lemma => kernel_rfl) (fun oi ho => ?_)
              simp only [List.getElem?_toArray, List.getElem?_cons_succ, List.getElem?_cons_zero, Option.some.injEq] at ho
              subst ho
              refine ⟨?_, Or.inl ⟨by rfl, fun w _ => ?_⟩, ?_⟩
              rotate_left
              · (go_simp <;> with_reducible rfl)
              try simp only [Act.put, List.setIfInBounds_toArray, List.set_cons_zero, List.set_cons_succ]
              refine q_take 8 (by as_aux_lemma => kernel_rfl) (by as_aux_lemma => kernel_rfl) (by as_aux_lemma => kernel_rfl) (by as_aux_lemma => kernel_rfl) (fun oi ho => ?_)
              simp only [List.getElem?_toArray, List.getElem?_cons_succ, List.getElem?_cons_zero, Option.some.injEq] at ho
              subst ho
              refine ⟨?_, Or.inl ⟨by rfl, fun w _ => ?_⟩, ?_⟩
              rotate_left
              · (go_simp <;> with_reducible rfl)
              try simp only [Act.put, List.setIfInBounds_toArray, List.set_cons_zero, List.set_cons_succ]
              refine q_take 9 (by as_aux_lemma => kernel_rfl) (by as_aux_lemma => kernel_rfl) (by as_aux_lemma => kernel_rfl) (by as_aux_lemma => kernel_rfl) (fun oi ho => ?_)
              simp only [List.getElem?_toArray, List.getElem?_cons_succ, List.getElem?_cons_zero, Option.some.injEq] at ho
              subst ho
              refine ⟨?_, Or.inl ⟨by rfl, fun w _ => ?_⟩, ?_⟩
              rotate_left
              · (go_simp <;> with_reducible rfl)
              try simp only [Act.put, List.setIfInBounds_toArray, List.set_cons_zero, List.set_cons_succ]
              refine q_take 10 (by as_aux_lemma => kernel_rfl) (by as_aux_lemma => kernel_rfl) (by as_aux_lemma => kernel_rfl) (by as_aux_lemma => kernel_rfl) (fun oi ho => ?_)
              simp only [List.getElem?_toArray, List.getElem?_cons_succ, List.getElem?_cons_zero, Option.some.injEq] at ho
              subst ho
              refine ⟨?_, Or.inl ⟨by rfl, fun w _ => ?_⟩, ?_⟩
              rotate_left
              · (go_simp <;> with_reducible rfl)
              try simp only [Act.put, List.setIfInBounds_toArray, List.set_cons_zero, List.set_cons_succ]
              refine q_all (rs := [11]) (by as_aux_lemma => kernel_rfl) (by simp) ?_
              refine q_step 11 (by as_aux_lemma => kernel_rfl) (fun o ho K hK => ?_) AllReadyH.nil
              simp only [List.getElem?_toArray, List.getElem?_cons_succ, List.getElem?_cons_zero, Option.some.injEq] at ho
              subst ho
              go_simp
              refine hK.out _ _ ?_
              clear hK K
              try simp only [Act.put, List.setIfInBounds_toArray, List.set_cons_zero, List.set_cons_succ]
              refine q_all (rs := [12]) (by as_aux_lemma => kernel_rfl) (by simp) ?_
              refine q_step 12 (by as_aux_lemma => kernel_rfl) (fun o ho K hK => ?_) AllReadyH.nil
              simp only [List.getElem?_toArray, List.getElem?_cons_succ, List.getElem?_cons_zero, Option.some.injEq] at ho
              subst ho
              go_simp
              refine hK.out _ _ ?_
              clear hK K
              try simp only [Act.put, List.setIfInBounds_toArray, List.set_cons_zero, List.set_cons_succ]
              refine q_all (rs := [13]) (by as_aux_lemma => kernel_rfl) (by simp) ?_
              refine q_step 13 (by as_aux_lemma => kernel_rfl) (fun o ho K hK => ?_) AllReadyH.nil
              simp only [List.getElem?_toArray, List.getElem?_cons_succ, List.getElem?_cons_zero, Option.some.injEq] at ho
              subst ho
              refine step_end3 (HE1.out.below (bb (bal' w1 _) (bal' _ _))) rfl _ _ rfl m HLS.out rfl (w1.heap.size + 1) (.slice (some ⟨w1.heap.size, 0, none⟩) 1 1) [ofB 1] rfl rfl (cell_two w1 _ _ _ 0) (litOne w1 _) (fun b e => (HE1.out.fresh (.cells #[] 0) 1 1 b e).2.1) (by omega) (by have := HB1.out.size; simp; omega) ?_
              intro g3 c3 w3 hr3 he3 hk3
              have HR3 := Lib.hid hr3
              have HE3 := Lib.hid he3
              have HB3 := Lib.hid (below_app (below_more HB1.out (bb (bal' w1 _) (bal' _ _)) HB1.out.size) hk3 (fun b e => (HE1.out.o3.lt b e).1))
              clear hr3 he3 hk3
              refine hK.out _ _ ?_
              clear hK K
              try simp only [Act.put, List.setIfInBounds_toArray, List.set_cons_zero, List.set_cons_succ]
              refine q_all (rs := [14]) (by as_aux_lemma => kernel_rfl) (by simp) ?_
              refine q_step 14 (by as_aux_lemma => kernel_rfl) (fun o ho K hK => ?_) AllReadyH.nil
              simp only [List.getElem?_toArray, List.getElem?_cons_succ, List.getElem?_cons_zero, Option.some.injEq] at ho
              subst ho
              go_simp
              go_at_call 4
              refine (encCall w3 n k _ _ 0 HR3.out (by rw [List.length_append, HLS.out]; simp; omega) (wide_snoc HW3.out (by simp)) (by omega) (by omega)).mono ?_
              rintro e w4 ⟨rfl, hB4⟩
              have HE4 := Lib.hid (HE3.out.below hB4)
              have HB4 := Lib.hid (below_more HB3.out hB4 HB3.out.size)
              clear hB4
              go_wp2_with fail
              refine hK.out _ _ ?_
              clear hK K
              try simp only [Act.put, List.setIfInBounds_toArray, List.set_cons_zero, List.set_cons_succ]
              refine q_take 15 (by as_aux_lemma => kernel_rfl) (by as_aux_lemma => kernel_rfl) (by as_aux_lemma => kernel_rfl) (by as_aux_lemma => kernel_rfl) (fun oi ho => ?_)
              simp only [List.getElem?_toArray, List.getElem?_cons_succ, List.getElem?_cons_zero, Option.some.injEq] at ho
              subst ho
              refine ⟨?_, Or.inl ⟨by rfl, fun w _ => ?_⟩, ?_⟩
              rotate_left
              · (go_simp <;> with_reducible rfl)
              try simp only [Act.put, List.setIfInBounds_toArray, List.set_cons_zero, List.set_cons_succ]
              refine q_take 16 (by as_aux_lemma => kernel_rfl) (by as_aux_lemma => kernel_rfl) (by as_aux_lemma => kernel_rfl) (by as_aux_lemma => kernel_rfl) (fun oi ho => ?_)
              simp only [List.getElem?_toArray, List.getElem?_cons_succ, List.getElem?_cons_zero, Option.some.injEq] at ho
              subst ho
              refine ⟨?_, Or.inl ⟨by rfl, fun w _ => ?_⟩, ?_⟩
              rotate_left
              · (go_simp <;> with_reducible rfl)
              try simp only [Act.put, List.setIfInBounds_toArray, List.set_cons_zero, List.set_cons_succ]
              refine q_take 17 (by as_aux_lemma => kernel_rfl) (by as_aux_lemma => kernel_rfl) (by as_aux_lemma => kernel_rfl) (by as_aux_lemma => kernel_rfl) (fun oi ho => ?_)
              simp only [List.getElem?_toArray, List.getElem?_cons_succ, List.getElem?_cons_zero, Option.some.injEq] at ho
              subst ho
              refine ⟨?_, Or.inl ⟨by rfl, fun w _ => ?_⟩, ?_⟩
              rotate_left
              · (go_simp <;> with_reducible rfl)
              try simp only [Act.put, List.setIfInBounds_toArray, List.set_cons_zero, List.set_cons_succ]
              refine q_take 18 (by as_aux_lemma => kernel_rfl) (by as_aux_lemma => kernel_rfl) (by as_aux_lemma => kernel_rfl) (by as_aux_lemma => kernel_rfl) (fun oi ho => ?_)
              simp only [List.getElem?_toArray, List.getElem?_cons_succ, List.getElem?_cons_zero, Option.some.injEq] at ho
              subst ho
              refine ⟨?_, Or.inl ⟨by rfl, fun w _ => ?_⟩, ?_⟩
              rotate_left
              · (go_simp <;> with_reducible rfl)
              try simp only [Act.put, List.setIfInBounds_toArray, List.set_cons_zero, List.set_cons_succ]
              refine q_take 19 (by as_aux_lemma => kernel_rfl) (by as_aux_lemma => kernel_rfl) (by as_aux_lemma => kernel_rfl) (by as_aux_lemma => kernel_rfl) (fun oi ho => ?_)
              simp only [List.getElem?_toArray, List.getElem?_cons_succ, List.getElem?_cons_zero, Option.some.injEq] at ho
              subst ho
              refine ⟨?_, Or.inl ⟨by rfl, fun w _ => ?_⟩, ?_⟩
              rotate_left
              · (go_simp <;> with_reducible rfl)
              try simp only [Act.put, List.setIfInBounds_toArray, List.set_cons_zero, List.set_cons_succ]
              refine q_take 20 (by as_aux_lemma => kernel_rfl) (by as_aux_lemma => kernel_rfl) (by as_aux_lemma => kernel_rfl) (by as_aux_lemma => kernel_rfl) (fun oi ho => ?_)
              simp only [List.getElem?_toArray, List.getElem?_cons_succ, List.getElem?_cons_zero, Option.some.injEq] at ho
              subst ho
              refine ⟨?_, Or.inl ⟨by rfl, fun w _ => ?_⟩, ?_⟩
              rotate_left
              · (go_simp <;> with_reducible rfl)
              try simp only [Act.put, List.setIfInBounds_toArray, List.set_cons_zero, List.set_cons_succ]
              refine q_take 21 (by as_aux_lemma => kernel_rfl) (by as_aux_lemma => kernel_rfl) (by as_aux_lemma => kernel_rfl) (by as_aux_lemma => kernel_rfl) (fun oi ho => ?_)
              simp only [List.getElem?_toArray, List.getElem?_cons_succ, List.getElem?_cons_zero, Option.some.injEq] at ho
              subst ho
              refine ⟨?_, Or.inl ⟨by rfl, fun w _ => ?_⟩, ?_⟩
              rotate_left
              · (go_simp <;> with_reducible rfl)
              try simp only [Act.put, List.setIfInBounds_toArray, List.set_cons_zero, List.set_cons_succ]
              refine q_take 23 (by as_aux_lemma => kernel_rfl) (by as_aux_lemma => kernel_rfl) (by as_aux_lemma => kernel_rfl) (by as_aux_lemma => kernel_rfl) (fun oi ho => ?_)
              simp only [List.getElem?_toArray, List.getElem?_cons_succ, List.getElem?_cons_zero, Option.some.injEq] at ho
              subst ho
              refine ⟨?_, Or.inl ⟨by rfl, fun w _ => ?_⟩, ?_⟩
              rotate_left
              · (go_simp <;> with_reducible rfl)
              try simp only [Act.put, List.setIfInBounds_toArray, List.set_cons_zero, List.set_cons_succ]
              refine q_take 24 (by as_aux_lemma => kernel_rfl) (by as_aux_lemma => kernel_rfl) (by as_aux_lemma => kernel_rfl) (by as_aux_lemma => kernel_rfl) (fun oi ho => ?_)
              simp only [List.getElem?_toArray, List.getElem?_cons_succ, List.getElem?_cons_zero, Option.some.injEq] at ho
              subst ho
              refine ⟨?_, Or.inl ⟨by rfl, fun w _ => ?_⟩, ?_⟩
              rotate_left
              · (go_simp <;> with_reducible rfl)
              try simp only [Act.put, List.setIfInBounds_toArray, List.set_cons_zero, List.set_cons_succ]
              refine q_all (rs := [22]) (by as_aux_lemma => kernel_rfl) (by simp) ?_
              refine q_step 22 (by as_aux_lemma => kernel_rfl) (fun o ho K hK => ?_) AllReadyH.nil
              simp only [List.getElem?_toArray, List.getElem?_cons_succ, List.getElem?_cons_zero, Option.some.injEq] at ho
              subst ho
              go_simp
              refine hK.out _ _ ?_
              clear hK K
              try simp only [Act.put, List.setIfInBounds_toArray, List.set_cons_zero, List.set_cons_succ]
              refine q_all (rs := [25]) (by as_aux_lemma => kernel_rfl) (by simp) ?_
              refine q_step 25 (by as_aux_lemma => kernel_rfl) (fun o ho K hK => ?_) AllReadyH.nil
              simp only [List.getElem?_toArray, List.getElem?_cons_succ, List.getElem?_cons_zero, Option.some.injEq] at ho
              subst ho
              go_simp
              go_at_call 4
              refine (encCall _ n k _ _ (n - 1) (rows_made w4 K0) (by simp; omega) (fun j => by rw [List.getD_eq_getElem?_getD, List.getElem?_replicate]; split <;> simp) (by omega) (by omega)).mono ?_
              rintro e w5 ⟨rfl, hB5⟩
              have HE5 := Lib.hid ((HE4.out.below (bal' w4 _)).below hB5)
              have HB5 := Lib.hid (below_more (below_more HB4.out (bal' w4 _) HB4.out.size) hB5 (by have := HB4.out.size; simp; omega))
              clear hB5
              go_wp2_with fail
              refine hK.out _ _ ?_
              clear hK K
              try simp only [Act.put, List.setIfInBounds_toArray, List.set_cons_zero, List.set_cons_succ]
              refine q_take 26 (by as_aux_lemma => kernel_rfl) (by as_aux_lemma => kernel_rfl) (by as_aux_lemma => kernel_rfl) (by as_aux_lemma => kernel_rfl) (fun oi ho => ?_)
              simp only [List.getElem?_toArray, List.getElem?_cons_succ, List.getElem?_cons_zero, Option.some.injEq] at ho
              subst ho
              refine ⟨?_, Or.inl ⟨by rfl, fun w _ => ?_⟩, ?_⟩
              rotate_left
              · (go_simp <;> with_reducible rfl)
              try simp only [Act.put, List.setIfInBounds_toArray, List.set_cons_zero, List.set_cons_succ]
              refine q_take 27 (by as_aux_lemma => kernel_rfl) (by as_aux_lemma => kernel_rfl) (by as_aux_lemma => kernel_rfl) (by as_aux_lemma => kernel_rfl) (fun oi ho => ?_)
              simp only [List.getElem?_toArray, List.getElem?_cons_succ, List.getElem?_cons_zero, Option.some.injEq] at ho
              subst ho
              refine ⟨?_, Or.inl ⟨by rfl, fun w _ => ?_⟩, ?_⟩
              rotate_left
              · (go_simp <;> with_reducible rfl)
              try simp only [Act.put, List.setIfInBounds_toArray, List.set_cons_zero, List.set_cons_succ]
              refine q_take 28 (by as_aux_lemma => kernel_rfl) (by as_aux_lemma => kernel_rfl) (by as_aux_lemma => kernel_rfl) (by as_aux_lemma => kernel_rfl) (fun oi ho => ?_)
              simp only [List.getElem?_toArray, List.getElem?_cons_succ, List.getElem?_cons_zero, Option.some.injEq] at ho
              subst ho
              refine ⟨?_, Or.inl ⟨by rfl, fun w _ => ?_⟩, ?_⟩
              rotate_left
              · (go_simp <;> with_reducible rfl)
              try simp only [Act.put, List.setIfInBounds_toArray, List.set_cons_zero, List.set_cons_succ]
              refine q_take 29 (by as_aux_lemma => kernel_rfl) (by as_aux_lemma => kernel_rfl) (by as_aux_lemma => kernel_rfl) (by as_aux_lemma => kernel_rfl) (fun oi ho => ?_)
              simp only [List.getElem?_toArray, List.getElem?_cons_succ, List.getElem?_cons_zero, Option.some.injEq] at ho
              subst ho
              refine ⟨?_, Or.inl ⟨by rfl, fun w _ => ?_⟩, ?_⟩
              rotate_left
              · (go_simp <;> with_reducible rfl)
              try simp only [Act.put, List.setIfInBounds_toArray, List.set_cons_zero, List.set_cons_succ]
              refine q_take 30 (by as_aux_lemma => kernel_rfl) (by as_aux_lemma => kernel_rfl) (by as_aux_lemma => kernel_rfl) (by as_aux_lemma => kernel_rfl) (fun oi ho => ?_)
              simp only [List.getElem?_toArray, List.getElem?_cons_succ, List.getElem?_cons_zero, Option.some.injEq] at ho
              subst ho
              refine ⟨?_, Or.inl ⟨by rfl, fun w _ => ?_⟩, ?_⟩
              rotate_left
              · (go_simp <;> with_reducible rfl)
              try simp only [Act.put, List.setIfInBounds_toArray, List.set_cons_zero, List.set_cons_succ]
              refine q_take 31 (by as_aux_lemma => kernel_rfl) (by as_aux_lemma => kernel_rfl) (by as_aux_lemma => kernel_rfl) (by as_aux_lemma => kernel_rfl) (fun oi ho => ?_)
              simp only [List.getElem?_toArray, List.getElem?_cons_succ, List.getElem?_cons_zero, Option.some.injEq] at ho
              subst ho
              refine ⟨?_, Or.inl ⟨by rfl, fun w _ => ?_⟩, ?_⟩
              rotate_left
              · (go_simp <;> with_reducible rfl)
              try simp only [Act.put, List.setIfInBounds_toArray, List.set_cons_zero, List.set_cons_succ]
              refine q_take 32 (by as_aux_lemma => kernel_rfl) (by as_aux_lemma => kernel_rfl) (by as_aux_lemma => kernel_rfl) (by as_aux_lemma => kernel_rfl) (fun oi ho => ?_)
              simp only [List.getElem?_toArray, List.getElem?_cons_succ, List.getElem?_cons_zero, Option.some.injEq] at ho
              subst ho
              refine ⟨?_, Or.inl ⟨by rfl, fun w _ => ?_⟩, ?_⟩
              rotate_left
              · (go_simp <;> with_reducible rfl)
              try simp only [Act.put, List.setIfInBounds_toArray, List.set_cons_zero, List.set_cons_succ]
              refine q_take 33 (by as_aux_lemma => kernel_rfl) (by as_aux_lemma => kernel_rfl) (by as_aux_lemma => kernel_rfl) (by as_aux_lemma => kernel_rfl) (fun oi ho => ?_)
              simp only [List.getElem?_toArray, List.getElem?_cons_succ, List.getElem?_cons_zero, Option.some.injEq] at ho
              subst ho
              refine ⟨?_, Or.inl ⟨by rfl, fun w _ => ?_⟩, ?_⟩
              rotate_left
              · (go_simp <;> with_reducible rfl)
              try simp only [Act.put, List.setIfInBounds_toArray, List.set_cons_zero, List.set_cons_succ]
              refine q_take 34 (by as_aux_lemma => kernel_rfl) (by as_aux_lemma => kernel_rfl) (by as_aux_lemma => kernel_rfl) (by as_aux_lemma => kernel_rfl) (fun oi ho => ?_)
              simp only [List.getElem?_toArray, List.getElem?_cons_succ, List.getElem?_cons_zero, Option.some.injEq] at ho
              subst ho
              refine ⟨?_, Or.inl ⟨by rfl, fun w _ => ?_⟩, ?_⟩
              rotate_left
              · (go_simp <;> with_reducible rfl)
              try simp only [Act.put, List.setIfInBounds_toArray, List.set_cons_zero, List.set_cons_succ]
              refine q_all (rs := [35]) (by as_aux_lemma => kernel_rfl) (by simp) ?_
              refine q_step 35 (by as_aux_lemma => kernel_rfl) (fun o ho K hK => ?_) AllReadyH.nil
              simp only [List.getElem?_toArray, List.getElem?_cons_succ, List.getElem?_cons_zero, Option.some.injEq] at ho
              subst ho
              go_simp
              refine hK.out _ _ ?_
              clear hK K
              try simp only [Act.put, List.setIfInBounds_toArray, List.set_cons_zero, List.set_cons_succ]
              refine q_all (rs := [36]) (by as_aux_lemma => kernel_rfl) (by simp) ?_
              refine q_step 36 (by as_aux_lemma => kernel_rfl) (fun o ho K hK => ?_) AllReadyH.nil
              simp only [List.getElem?_toArray, List.getElem?_cons_succ, List.getElem?_cons_zero, Option.some.injEq] at ho
              subst ho
              go_simp
              go_at_call 3
              refine (decCall _ n k u4 _ hs _ (HE5.out.below (bal' w5 _)).held (ints4 w5 _ _ _ _) (by rw [HHS.out]; omega) HW4.out).mono ?_
              rintro e w6 ⟨rfl, hB6⟩
              have HE6 := Lib.hid ((HE5.out.below (bal' w5 _)).below hB6)
              have HB6 := Lib.hid (below_more (below_more HB5.out (bal' w5 _) HB5.out.size) hB6 (by have := HB5.out.size; simp; omega))
              clear hB6
              go_wp2_with fail
              refine hK.out _ _ ?_
              clear hK K
              try simp only [Act.put, List.setIfInBounds_toArray, List.set_cons_zero, List.set_cons_succ]
              refine q_take 37 (by as_aux_lemma => kernel_rfl) (by as_aux_lemma => kernel_rfl) (by as_aux_lemma => kernel_rfl) (by as_aux_lemma => kernel_rfl) (fun oi ho => ?_)
              simp only [List.getElem?_toArray, List.getElem?_cons_succ, List.getElem?_cons_zero, Option.some.injEq] at ho
              subst ho
              refine ⟨?_, Or.inl ⟨by rfl, fun w _ => ?_⟩, ?_⟩
              rotate_left
              · (go_simp <;> with_reducible rfl)
              try simp only [Act.put, List.setIfInBounds_toArray, List.set_cons_zero, List.set_cons_succ]
              refine q_take 38 (by as_aux_lemma => kernel_rfl) (by as_aux_lemma => kernel_rfl) (by as_aux_lemma => kernel_rfl) (by as_aux_lemma => kernel_rfl) (fun oi ho => ?_)
              simp only [List.getElem?_toArray, List.getElem?_cons_succ, List.getElem?_cons_zero, Option.some.injEq] at ho
              subst ho
              refine ⟨?_, Or.inl ⟨by rfl, fun w _ => ?_⟩, ?_⟩
              rotate_left
              · (go_simp <;> with_reducible rfl)
              try simp only [Act.put, List.setIfInBounds_toArray, List.set_cons_zero, List.set_cons_succ]
              refine q_take 39 (by as_aux_lemma => kernel_rfl) (by as_aux_lemma => kernel_rfl) (by as_aux_lemma => kernel_rfl) (by as_aux_lemma => kernel_rfl) (fun oi ho => ?_)
              simp only [List.getElem?_toArray, List.getElem?_cons_succ, List.getElem?_cons_zero, Option.some.injEq] at ho
              subst ho
              refine ⟨?_, Or.inl ⟨by rfl, fun w _ => ?_⟩, ?_⟩
              rotate_left
              · (go_simp <;> with_reducible rfl)
              try simp only [Act.put, List.setIfInBounds_toArray, List.set_cons_zero, List.set_cons_succ]
              refine q_take 40 (by as_aux_lemma => kernel_rfl) (by as_aux_lemma => kernel_rfl) (by as_aux_lemma => kernel_rfl) (by as_aux_lemma => kernel_rfl) (fun oi ho => ?_)
              simp only [List.getElem?_toArray, List.getElem?_cons_succ, List.getElem?_cons_zero, Option.some.injEq] at ho
              subst ho
              refine ⟨?_, Or.inl ⟨by rfl, fun w _ => ?_⟩, ?_⟩
              rotate_left
              · (go_simp <;> with_reducible rfl)
              try simp only [Act.put, List.setIfInBounds_toArray, List.set_cons_zero, List.set_cons_succ]
              refine q_take 41 (by as_aux_lemma => kernel_rfl) (by as_aux_lemma => kernel_rfl) (by as_aux_lemma => kernel_rfl) (by as_aux_lemma => kernel_rfl) (fun oi ho => ?_)
              simp only [List.getElem?_toArray, List.getElem?_cons_succ, List.getElem?_cons_zero, Option.some.injEq] at ho
              subst ho
              refine ⟨?_, Or.inl ⟨by rfl, fun w _ => ?_⟩, ?_⟩
              rotate_left
              · (go_simp <;> with_reducible rfl)
              try simp only [Act.put, List.setIfInBounds_toArray, List.set_cons_zero, List.set_cons_succ]
              refine q_take 42 (by as_aux_lemma => kernel_rfl) (by as_aux_lemma => kernel_rfl) (by as_aux_lemma => kernel_rfl) (by as_aux_lemma => kernel_rfl) (fun oi ho => ?_)
              simp only [List.getElem?_toArray, List.getElem?_cons_succ, List.getElem?_cons_zero, Option.some.injEq] at ho
              subst ho
              refine ⟨?_, Or.inl ⟨by rfl, fun w _ => ?_⟩, ?_⟩
              rotate_left
              · (go_simp <;> with_reducible rfl)
              try simp only [Act.put, List.setIfInBounds_toArray, List.set_cons_zero, List.set_cons_succ]
              refine q_take 43 (by as_aux_lemma => kernel_rfl) (by as_aux_lemma => kernel_rfl) (by as_aux_lemma => kernel_rfl) (by as_aux_lemma => kernel_rfl) (fun oi ho => ?_)
              simp only [List.getElem?_toArray, List.getElem?_cons_succ, List.getElem?_cons_zero, Option.some.injEq] at ho
              subst ho
              refine ⟨?_, Or.inl ⟨by rfl, fun w _ => ?_⟩, ?_⟩
              rotate_left
              · (go_simp <;> with_reducible rfl)
              try simp only [Act.put, List.setIfInBounds_toArray, List.set_cons_zero, List.set_cons_succ]
              refine q_take 44 (by as_aux_lemma => kernel_rfl) (by as_aux_lemma => kernel_rfl) (by as_aux_lemma => kernel_rfl) (by as_aux_lemma => kernel_rfl) (fun oi ho => ?_)
              simp only [List.getElem?_toArray, List.getElem?_cons_succ, List.getElem?_cons_zero, Option.some.injEq] at ho
              subst ho
              refine ⟨?_, Or.inl ⟨by rfl, fun w _ => ?_⟩, ?_⟩
              rotate_left
              · (go_simp <;> with_reducible rfl)
              try simp only [Act.put, List.setIfInBounds_toArray, List.set_cons_zero, List.set_cons_succ]
              refine q_take 50 (by as_aux_lemma => kernel_rfl) (by as_aux_lemma => kernel_rfl) (by as_aux_lemma => kernel_rfl) (by as_aux_lemma => kernel_rfl) (fun oi ho => ?_)
              simp only [List.getElem?_toArray, List.getElem?_cons_succ, List.getElem?_cons_zero, Option.some.injEq] at ho
              subst ho
              refine ⟨?_, Or.inl ⟨by rfl, fun w _ => ?_⟩, ?_⟩
              rotate_left
              · (go_simp <;> with_reducible rfl)
              try simp only [Act.put, List.setIfInBounds_toArray, List.set_cons_zero, List.set_cons_succ]
              refine q_take 51 (by as_aux_lemma => kernel_rfl) (by as_aux_lemma => kernel_rfl) (by as_aux_lemma => kernel_rfl) (by as_aux_lemma => kernel_rfl) (fun oi ho => ?_)
              simp only [List.getElem?_toArray, List.getElem?_cons_succ, List.getElem?_cons_zero, Option.some.injEq] at ho
              subst ho
              refine ⟨?_, Or.inl ⟨by rfl, fun w _ => ?_⟩, ?_⟩
              rotate_left
              · (go_simp <;> with_reducible rfl)
              try simp only [Act.put, List.setIfInBounds_toArray, List.set_cons_zero, List.set_cons_succ]
              refine q_take 52 (by as_aux_lemma => kernel_rfl) (by as_aux_lemma => kernel_rfl) (by as_aux_lemma => kernel_rfl) (by as_aux_lemma => kernel_rfl) (fun oi ho => ?_)
              simp only [List.getElem?_toArray, List.getElem?_cons_succ, List.getElem?_cons_zero, Option.some.injEq] at ho
              subst ho
              refine ⟨?_, Or.inl ⟨by rfl, fun w _ => ?_⟩, ?_⟩
              rotate_left
              · (go_simp <;> with_reducible rfl)
              try simp only [Act.put, List.setIfInBounds_toArray, List.set_cons_zero, List.set_cons_succ]
              refine q_all (rs := [45, 49]) (by as_aux_lemma => kernel_rfl) (by simp) ?_
              refine q_step 45 (by as_aux_lemma => kernel_rfl) (fun o ho K hK => ?_) ?_
              · simp only [List.getElem?_toArray, List.getElem?_cons_succ, List.getElem?_cons_zero, Option.some.injEq] at ho
                subst ho
                go_simp
                refine hK.out _ _ ?_
                clear hK K
                try simp only [Act.put, List.setIfInBounds_toArray, List.set_cons_zero, List.set_cons_succ]
                refine q_take 46 (by as_aux_lemma => kernel_rfl) (by as_aux_lemma => kernel_rfl) (by as_aux_lemma => kernel_rfl) (by as_aux_lemma => kernel_rfl) (fun oi ho => ?_)
                simp only [List.getElem?_toArray, List.getElem?_cons_succ, List.getElem?_cons_zero, Option.some.injEq] at ho
                subst ho
                refine ⟨?_, Or.inl ⟨by rfl, fun w _ => ?_⟩, ?_⟩
                rotate_left
                · (go_simp <;> with_reducible rfl)
                try simp only [Act.put, List.setIfInBounds_toArray, List.set_cons_zero, List.set_cons_succ]
                refine q_all (rs := [47, 49]) (by as_aux_lemma => kernel_rfl) (by simp) ?_
                refine q_step 47 (by as_aux_lemma => kernel_rfl) (fun o ho K hK => ?_) ?_
                · simp only [List.getElem?_toArray, List.getElem?_cons_succ, List.getElem?_cons_zero, Option.some.injEq] at ho
                  subst ho
                  go_simp
                  refine hK.out _ _ ?_
                  clear hK K
                  try simp only [Act.put, List.setIfInBounds_toArray, List.set_cons_zero, List.set_cons_succ]
                  refine q_all (rs := [48, 49]) (by as_aux_lemma => kernel_rfl) (by simp) ?_
                  refine q_step 48 (by as_aux_lemma => kernel_rfl) (fun o ho K hK => ?_) ?_
                  · simp only [List.getElem?_toArray, List.getElem?_cons_succ, List.getElem?_cons_zero, Option.some.injEq] at ho
                    subst ho
                    refine step_end4 (HE6.out.below (bb (bal' w6 _) (bal' _ _))) rfl _ _ rfl m HHS.out rfl (w6.heap.size + 1) (n - 1) (.slice (some ⟨w6.heap.size, 0, none⟩) 3 3) [ofB 4, ofB 4, ofB 4] rfl rfl (cell_two w6 _ _ _ 0) (cell_two w6 _ _ _ 1) (lit444 (alloc_cell (World.cell?_alloc_new w6 _ _ 0) _) (alloc_cell (World.cell?_alloc_new w6 _ _ 1) _) (alloc_cell (World.cell?_alloc_new w6 _ _ 2) _)) (HE6.out.far4 (Nat.le_refl _) 3 3) (by omega) (by have := HB6.out.size; simp; omega) ?_
                    intro g7 c7 w7 hh7 he7 hk7
                    have HHa := Lib.hid hh7
                    have HE7 := Lib.hid he7
                    have HB7 := Lib.hid (below_app (below_more HB6.out (bb (bal' w6 _) (bal' _ _)) HB6.out.size) hk7 (fun b e => (HE6.out.o4.lt b e).1))
                    clear hh7 he7 hk7
                    refine hK.out _ _ ?_
                    clear hK K
                    try simp only [Act.put, List.setIfInBounds_toArray, List.set_cons_zero, List.set_cons_succ]
                    refine q_all (rs := [49]) (by as_aux_lemma => kernel_rfl) (by simp) ?_
                    refine q_step 49 (by as_aux_lemma => kernel_rfl) (fun o ho K hK => ?_) AllReadyH.nil
                    simp only [List.getElem?_toArray, List.getElem?_cons_succ, List.getElem?_cons_zero, Option.some.injEq] at ho
                    subst ho
                    go_simp
                    refine hK.out _ _ ?_
                    clear hK K
                    try simp only [Act.put, List.setIfInBounds_toArray, List.set_cons_zero, List.set_cons_succ]
                    refine q_take 53 (by as_aux_lemma => kernel_rfl) (by as_aux_lemma => kernel_rfl) (by as_aux_lemma => kernel_rfl) (by as_aux_lemma => kernel_rfl) (fun oi ho => ?_)
                    simp only [List.getElem?_toArray, List.getElem?_cons_succ, List.getElem?_cons_zero, Option.some.injEq] at ho
                    subst ho
                    refine ⟨?_, Or.inl ⟨by rfl, fun w _ => ?_⟩, ?_⟩
                    rotate_left
                    · (go_simp <;> with_reducible rfl)
                    try simp only [Act.put, List.setIfInBounds_toArray, List.set_cons_zero, List.set_cons_succ]
                    refine q_all (rs := [54]) (by as_aux_lemma => kernel_rfl) (by simp) ?_
                    refine q_step 54 (by as_aux_lemma => kernel_rfl) (fun o ho K hK => ?_) AllReadyH.nil
                    simp only [List.getElem?_toArray, List.getElem?_cons_succ, List.getElem?_cons_zero, Option.some.injEq] at ho
                    subst ho
                    go_simp
                    go_at_call 3
                    refine (decCall _ n k _ _ _ _ (HHa.out.below (bal' w7 _)) (ints6 N6 HN66.out (fun i hi => World.cell?_alloc_new w7 six _ i)) (by rw [List.length_append, HHS.out]; simp; omega) (wide_snocH HW4.out (by simp))).mono ?_
                    rintro e w8 ⟨rfl, hB8⟩
                    have HE8 := Lib.hid ((HE7.out.below (bal' w7 _)).below hB8)
                    have HB8 := Lib.hid (below_more (below_more HB7.out (bal' w7 _) HB7.out.size) hB8 (by have := HB7.out.size; simp; omega))
                    clear hB8
                    go_wp2_with fail
                    refine hK.out _ _ ?_
                    clear hK K
                    try simp only [Act.put, List.setIfInBounds_toArray, List.set_cons_zero, List.set_cons_succ]
                    refine q_take 55 (by as_aux_lemma => kernel_rfl) (by as_aux_lemma => kernel_rfl) (by as_aux_lemma => kernel_rfl) (by as_aux_lemma => kernel_rfl) (fun oi ho => ?_)
                    simp only [List.getElem?_toArray, List.getElem?_cons_succ, List.getElem?_cons_zero, Option.some.injEq] at ho
                    subst ho
                    refine ⟨?_, Or.inl ⟨by rfl, fun w _ => ?_⟩, ?_⟩
                    rotate_left
                    · (go_simp <;> with_reducible rfl)
                    try simp only [Act.put, List.setIfInBounds_toArray, List.set_cons_zero, List.set_cons_succ]
                    refine q_take 56 (by as_aux_lemma => kernel_rfl) (by as_aux_lemma => kernel_rfl) (by as_aux_lemma => kernel_rfl) (by as_aux_lemma => kernel_rfl) (fun oi ho => ?_)
                    simp only [List.getElem?_toArray, List.getElem?_cons_succ, List.getElem?_cons_zero, Option.some.injEq] at ho
                    subst ho
                    refine ⟨?_, Or.inl ⟨by rfl, fun w _ => ?_⟩, ?_⟩
                    rotate_left
                    · (go_simp <;> with_reducible rfl)
                    try simp only [Act.put, List.setIfInBounds_toArray, List.set_cons_zero, List.set_cons_succ]
                    refine q_take 57 (by as_aux_lemma => kernel_rfl) (by as_aux_lemma => kernel_rfl) (by as_aux_lemma => kernel_rfl) (by as_aux_lemma => kernel_rfl) (fun oi ho => ?_)
                    simp only [List.getElem?_toArray, List.getElem?_cons_succ, List.getElem?_cons_zero, Option.some.injEq] at ho
                    subst ho
                    refine ⟨?_, Or.inl ⟨by rfl, fun w _ => ?_⟩, ?_⟩
                    rotate_left
                    · (go_simp <;> with_reducible rfl)
                    try simp only [Act.put, List.setIfInBounds_toArray, List.set_cons_zero, List.set_cons_succ]
                    refine q_take 58 (by as_aux_lemma => kernel_rfl) (by as_aux_lemma => kernel_rfl) (by as_aux_lemma => kernel_rfl) (by as_aux_lemma => kernel_rfl) (fun oi ho => ?_)
                    simp only [List.getElem?_toArray, List.getElem?_cons_succ, List.getElem?_cons_zero, Option.some.injEq] at ho
                    subst ho
                    refine ⟨?_, Or.inl ⟨by rfl, fun w _ => ?_⟩, ?_⟩
                    rotate_left
                    · (go_simp <;> with_reducible rfl)
                    try simp only [Act.put, List.setIfInBounds_toArray, List.set_cons_zero, List.set_cons_succ]
                    refine q_take 59 (by as_aux_lemma => kernel_rfl) (by as_aux_lemma => kernel_rfl) (by as_aux_lemma => kernel_rfl) (by as_aux_lemma => kernel_rfl) (fun oi ho => ?_)
                    simp only [List.getElem?_toArray, List.getElem?_cons_succ, List.getElem?_cons_zero, Option.some.injEq] at ho
                    subst ho
                    refine ⟨?_, Or.inl ⟨by rfl, fun w _ => ?_⟩, ?_⟩
                    rotate_left
                    · (go_simp <;> with_reducible rfl)
                    try simp only [Act.put, List.setIfInBounds_toArray, List.set_cons_zero, List.set_cons_succ]
                    refine q_take 60 (by as_aux_lemma => kernel_rfl) (by as_aux_lemma => kernel_rfl) (by as_aux_lemma => kernel_rfl) (by as_aux_lemma => kernel_rfl) (fun oi ho => ?_)
                    simp only [List.getElem?_toArray, List.getElem?_cons_succ, List.getElem?_cons_zero, Option.some.injEq] at ho
                    subst ho
                    refine ⟨?_, Or.inl ⟨by rfl, fun w _ => ?_⟩, ?_⟩
                    rotate_left
                    · (go_simp <;> with_reducible rfl)
                    try simp only [Act.put, List.setIfInBounds_toArray, List.set_cons_zero, List.set_cons_succ]
                    refine q_take 61 (by as_aux_lemma => kernel_rfl) (by as_aux_lemma => kernel_rfl) (by as_aux_lemma => kernel_rfl) (by as_aux_lemma => kernel_rfl) (fun oi ho => ?_)
                    simp only [List.getElem?_toArray, List.getElem?_cons_succ, List.getElem?_cons_zero, Option.some.injEq] at ho
                    subst ho
                    refine ⟨?_, Or.inl ⟨by rfl, fun w _ => ?_⟩, ?_⟩
                    rotate_left
                    · (go_simp <;> with_reducible rfl)
                    try simp only [Act.put, List.setIfInBounds_toArray, List.set_cons_zero, List.set_cons_succ]
                    refine q_take 62 (by as_aux_lemma => kernel_rfl) (by as_aux_lemma => kernel_rfl) (by as_aux_lemma => kernel_rfl) (by as_aux_lemma => kernel_rfl) (fun oi ho => ?_)
                    simp only [List.getElem?_toArray, List.getElem?_cons_succ, List.getElem?_cons_zero, Option.some.injEq] at ho
                    subst ho
                    refine ⟨?_, Or.inl ⟨by rfl, fun w _ => ?_⟩, ?_⟩
                    rotate_left
                    · (go_simp <;> with_reducible rfl)
                    try simp only [Act.put, List.setIfInBounds_toArray, List.set_cons_zero, List.set_cons_succ]
                    refine q_all (rs := [63]) (by as_aux_lemma => kernel_rfl) (by simp) ?_
                    refine q_step 63 (by as_aux_lemma => kernel_rfl) (fun o ho K hK => ?_) AllReadyH.nil
                    simp only [List.getElem?_toArray, List.getElem?_cons_succ, List.getElem?_cons_zero, Option.some.injEq] at ho
                    subst ho
                    go_simp
                    refine hK.out _ _ ?_
                    clear hK K
                    try simp only [Act.put, List.setIfInBounds_toArray, List.set_cons_zero, List.set_cons_succ]
                    refine q_all (rs := [64]) (by as_aux_lemma => kernel_rfl) (by simp) ?_
                    refine q_step 64 (by as_aux_lemma => kernel_rfl) (fun o ho K hK => ?_) AllReadyH.nil
                    simp only [List.getElem?_toArray, List.getElem?_cons_succ, List.getElem?_cons_zero, Option.some.injEq] at ho
                    subst ho
                    refine step_end4 (HE8.out.below (bal' w8 _)) rfl _ _ rfl m HHS.out rfl w8.heap.size n (.slice none 0 0) [] rfl rfl (World.cell?_alloc_new w8 _ _ 0) (World.cell?_alloc_new w8 _ _ 1) (bytes_nil _) (fun b e => (by cases e)) (by omega) (by have := HB8.out.size; simp; omega) ?_
                    intro g9 c9 w9 hh9 he9 hk9
                    have HH9 := Lib.hid hh9
                    have HB9 := Lib.hid (below_app (below_more HB8.out (bal' w8 _) HB8.out.size) hk9 (fun b e => (HE8.out.o4.lt b e).1))
                    clear hh9 he9 hk9
                    refine hK.out _ _ ?_
                    clear hK K
                    try simp only [Act.put, List.setIfInBounds_toArray, List.set_cons_zero, List.set_cons_succ]
                    refine q_all (rs := [65]) (by as_aux_lemma => kernel_rfl) (by simp) ?_
                    refine q_step 65 (by as_aux_lemma => kernel_rfl) (fun o ho K hK => ?_) AllReadyH.nil
                    simp only [List.getElem?_toArray, List.getElem?_cons_succ, List.getElem?_cons_zero, Option.some.injEq] at ho
                    subst ho
                    go_simp
                    go_at_call 3
                    refine (decCall _ n k _ (.slice none 0 0) _ [] HH9.out (ints_nil _) (by rw [List.length_append, HHS.out]; simp; omega) (wide_snocH HW4.out (by simp))).mono ?_
                    rintro e w10 ⟨rfl, hB10⟩
                    have HB10 := Lib.hid (below_more HB9.out hB10 HB9.out.size)
                    clear hB10
                    go_wp2_with fail
                    refine hK.out _ _ ?_
                    clear hK K
                    try simp only [Act.put, List.setIfInBounds_toArray, List.set_cons_zero, List.set_cons_succ]
                    refine q_take 66 (by as_aux_lemma => kernel_rfl) (by as_aux_lemma => kernel_rfl) (by as_aux_lemma => kernel_rfl) (by as_aux_lemma => kernel_rfl) (fun oi ho => ?_)
                    simp only [List.getElem?_toArray, List.getElem?_cons_succ, List.getElem?_cons_zero, Option.some.injEq] at ho
                    subst ho
                    refine ⟨?_, Or.inl ⟨by rfl, fun w _ => ?_⟩, ?_⟩
                    rotate_left
                    · (go_simp <;> with_reducible rfl)
                    try simp only [Act.put, List.setIfInBounds_toArray, List.set_cons_zero, List.set_cons_succ]
                    refine q_take 67 (by as_aux_lemma => kernel_rfl) (by as_aux_lemma => kernel_rfl) (by as_aux_lemma => kernel_rfl) (by as_aux_lemma => kernel_rfl) (fun oi ho => ?_)
                    simp only [List.getElem?_toArray, List.getElem?_cons_succ, List.getElem?_cons_zero, Option.some.injEq] at ho
                    subst ho
                    refine ⟨?_, Or.inl ⟨by rfl, fun w _ => ?_⟩, ?_⟩
                    rotate_left
                    · (go_simp <;> with_reducible rfl)
                    try simp only [Act.put, List.setIfInBounds_toArray, List.set_cons_zero, List.set_cons_succ]
                    refine q_done (by as_aux_lemma => kernel_rfl) ?_
                    go_wp2
                    go_roundw
                    case rel => exact ⟨k + 1, by go_num, by omega, by omega, HB10.out⟩
                    case measure => simp [intOf]; omega
                  refine q_step 49 (by as_aux_lemma => kernel_rfl) (fun o ho K hK => ?_) ?_
                  · simp only [List.getElem?_toArray, List.getElem?_cons_succ, List.getElem?_cons_zero, Option.some.injEq] at ho
                    subst ho
                    go_simp
                    refine hK.out _ _ ?_
                    clear hK K
                    try simp only [Act.put, List.setIfInBounds_toArray, List.set_cons_zero, List.set_cons_succ]
                    refine q_take 53 (by as_aux_lemma => kernel_rfl) (by as_aux_lemma => kernel_rfl) (by as_aux_lemma => kernel_rfl) (by as_aux_lemma => kernel_rfl) (fun oi ho => ?_)
                    simp only [List.getElem?_toArray, List.getElem?_cons_succ, List.getElem?_cons_zero, Option.some.injEq] at ho
                    subst ho
                    refine ⟨?_, Or.inl ⟨by rfl, fun w _ => ?_⟩, ?_⟩
                    rotate_left
                    · (go_simp <;> with_reducible rfl)
                    try simp only [Act.put, List.setIfInBounds_toArray, List.set_cons_zero, List.set_cons_succ]
                    refine q_all (rs := [48]) (by as_aux_lemma => kernel_rfl) (by simp) ?_
                    refine q_step 48 (by as_aux_lemma => kernel_rfl) (fun o ho K hK => ?_) AllReadyH.nil
                    simp only [List.getElem?_toArray, List.getElem?_cons_succ, List.getElem?_cons_zero, Option.some.injEq] at ho
                    subst ho
                    refine step_end4s HE6.out (bb (bb (bal' w6 _) (bal' _ _)) (bal' _ _)) rfl _ _ rfl m HHS.out rfl (w6.heap.size + 1) (w6.heap.size + 0) (w6.heap.size + 2) (n - 1) rfl (alloc_cell (cell_two w6 _ _ _ 0) _) (alloc_cell (cell_two w6 _ _ _ 1) _) (lit444 (alloc_cell (alloc_cell (World.cell?_alloc_new w6 _ _ 0) _) _) (alloc_cell (alloc_cell (World.cell?_alloc_new w6 _ _ 1) _) _) (alloc_cell (alloc_cell (World.cell?_alloc_new w6 _ _ 2) _) _)) (Nat.le_add_right _ _) (Nat.le_add_right _ _) (fun i hi => cell_three w6 _ _ six _ i) (by omega) (by have := HB6.out.size; simp; omega) ?_
                    intro g7 c7 w7 hh7 he7 hk7 hs7
                    have HHb := Lib.hid hh7
                    have HE7 := Lib.hid he7
                    have HS7 := Lib.hid (hs7 N6 HN66.out)
                    have HB7 := Lib.hid (below_app (below_more HB6.out (bb (bb (bal' w6 _) (bal' _ _)) (bal' _ _)) HB6.out.size) hk7 (fun b e => (HE6.out.o4.lt b e).1))
                    clear hh7 he7 hk7 hs7
                    refine hK.out _ _ ?_
                    clear hK K
                    try simp only [Act.put, List.setIfInBounds_toArray, List.set_cons_zero, List.set_cons_succ]
                    refine q_all (rs := [54]) (by as_aux_lemma => kernel_rfl) (by simp) ?_
                    refine q_step 54 (by as_aux_lemma => kernel_rfl) (fun o ho K hK => ?_) AllReadyH.nil
                    simp only [List.getElem?_toArray, List.getElem?_cons_succ, List.getElem?_cons_zero, Option.some.injEq] at ho
                    subst ho
                    go_simp
                    go_at_call 3
                    refine (decCall _ n k _ _ _ _ HHb.out HS7.out (by rw [List.length_append, HHS.out]; simp; omega) (wide_snocH HW4.out (by simp))).mono ?_
                    rintro e w8 ⟨rfl, hB8⟩
                    have HE8 := Lib.hid (HE7.out.below hB8)
                    have HB8 := Lib.hid (below_more HB7.out hB8 HB7.out.size)
                    clear hB8
                    go_wp2_with fail
                    refine hK.out _ _ ?_
                    clear hK K
                    try simp only [Act.put, List.setIfInBounds_toArray, List.set_cons_zero, List.set_cons_succ]
                    refine q_take 55 (by as_aux_lemma => kernel_rfl) (by as_aux_lemma => kernel_rfl) (by as_aux_lemma => kernel_rfl) (by as_aux_lemma => kernel_rfl) (fun oi ho => ?_)
                    simp only [List.getElem?_toArray, List.getElem?_cons_succ, List.getElem?_cons_zero, Option.some.injEq] at ho
                    subst ho
                    refine ⟨?_, Or.inl ⟨by rfl, fun w _ => ?_⟩, ?_⟩
                    rotate_left
                    · (go_simp <;> with_reducible rfl)
                    try simp only [Act.put, List.setIfInBounds_toArray, List.set_cons_zero, List.set_cons_succ]
                    refine q_take 56 (by as_aux_lemma => kernel_rfl) (by as_aux_lemma => kernel_rfl) (by as_aux_lemma => kernel_rfl) (by as_aux_lemma => kernel_rfl) (fun oi ho => ?_)
                    simp only [List.getElem?_toArray, List.getElem?_cons_succ, List.getElem?_cons_zero, Option.some.injEq] at ho
                    subst ho
                    refine ⟨?_, Or.inl ⟨by rfl, fun w _ => ?_⟩, ?_⟩
                    rotate_left
                    · (go_simp <;> with_reducible rfl)
                    try simp only [Act.put, List.setIfInBounds_toArray, List.set_cons_zero, List.set_cons_succ]
                    refine q_take 57 (by as_aux_lemma => kernel_rfl) (by as_aux_lemma => kernel_rfl) (by as_aux_lemma => kernel_rfl) (by as_aux_lemma => kernel_rfl) (fun oi ho => ?_)
                    simp only [List.getElem?_toArray, List.getElem?_cons_succ, List.getElem?_cons_zero, Option.some.injEq] at ho
                    subst ho
                    refine ⟨?_, Or.inl ⟨by rfl, fun w _ => ?_⟩, ?_⟩
                    rotate_left
                    · (go_simp <;> with_reducible rfl)
                    try simp only [Act.put, List.setIfInBounds_toArray, List.set_cons_zero, List.set_cons_succ]
                    refine q_take 58 (by as_aux_lemma => kernel_rfl) (by as_aux_lemma => kernel_rfl) (by as_aux_lemma => kernel_rfl) (by as_aux_lemma => kernel_rfl) (fun oi ho => ?_)
                    simp only [List.getElem?_toArray, List.getElem?_cons_succ, List.getElem?_cons_zero, Option.some.injEq] at ho
                    subst ho
                    refine ⟨?_, Or.inl ⟨by rfl, fun w _ => ?_⟩, ?_⟩
                    rotate_left
                    · (go_simp <;> with_reducible rfl)
                    try simp only [Act.put, List.setIfInBounds_toArray, List.set_cons_zero, List.set_cons_succ]
                    refine q_take 59 (by as_aux_lemma => kernel_rfl) (by as_aux_lemma => kernel_rfl) (by as_aux_lemma => kernel_rfl) (by as_aux_lemma => kernel_rfl) (fun oi ho => ?_)
                    simp only [List.getElem?_toArray, List.getElem?_cons_succ, List.getElem?_cons_zero, Option.some.injEq] at ho
                    subst ho
                    refine ⟨?_, Or.inl ⟨by rfl, fun w _ => ?_⟩, ?_⟩
                    rotate_left
                    · (go_simp <;> with_reducible rfl)
                    try simp only [Act.put, List.setIfInBounds_toArray, List.set_cons_zero, List.set_cons_succ]
                    refine q_take 60 (by as_aux_lemma => kernel_rfl) (by as_aux_lemma => kernel_rfl) (by as_aux_lemma => kernel_rfl) (by as_aux_lemma => kernel_rfl) (fun oi ho => ?_)
                    simp only [List.getElem?_toArray, List.getElem?_cons_succ, List.getElem?_cons_zero, Option.some.injEq] at ho
                    subst ho
                    refine ⟨?_, Or.inl ⟨by rfl, fun w _ => ?_⟩, ?_⟩
                    rotate_left
                    · (go_simp <;> with_reducible rfl)
                    try simp only [Act.put, List.setIfInBounds_toArray, List.set_cons_zero, List.set_cons_succ]
                    refine q_take 61 (by as_aux_lemma => kernel_rfl) (by as_aux_lemma => kernel_rfl) (by as_aux_lemma => kernel_rfl) (by as_aux_lemma => kernel_rfl) (fun oi ho => ?_)
                    simp only [List.getElem?_toArray, List.getElem?_cons_succ, List.getElem?_cons_zero, Option.some.injEq] at ho
                    subst ho
                    refine ⟨?_, Or.inl ⟨by rfl, fun w _ => ?_⟩, ?_⟩
                    rotate_left
                    · (go_simp <;> with_reducible rfl)
                    try simp only [Act.put, List.setIfInBounds_toArray, List.set_cons_zero, List.set_cons_succ]
                    refine q_take 62 (by as_aux_lemma => kernel_rfl) (by as_aux_lemma => kernel_rfl) (by as_aux_lemma => kernel_rfl) (by as_aux_lemma => kernel_rfl) (fun oi ho => ?_)
                    simp only [List.getElem?_toArray, List.getElem?_cons_succ, List.getElem?_cons_zero, Option.some.injEq] at ho
                    subst ho
                    refine ⟨?_, Or.inl ⟨by rfl, fun w _ => ?_⟩, ?_⟩
                    rotate_left
                    · (go_simp <;> with_reducible rfl)
                    try simp only [Act.put, List.setIfInBounds_toArray, List.set_cons_zero, List.set_cons_succ]
                    refine q_all (rs := [63]) (by as_aux_lemma => kernel_rfl) (by simp) ?_
                    refine q_step 63 (by as_aux_lemma => kernel_rfl) (fun o ho K hK => ?_) AllReadyH.nil
                    simp only [List.getElem?_toArray, List.getElem?_cons_succ, List.getElem?_cons_zero, Option.some.injEq] at ho
                    subst ho
                    go_simp
                    refine hK.out _ _ ?_
                    clear hK K
                    try simp only [Act.put, List.setIfInBounds_toArray, List.set_cons_zero, List.set_cons_succ]
                    refine q_all (rs := [64]) (by as_aux_lemma => kernel_rfl) (by simp) ?_
                    refine q_step 64 (by as_aux_lemma => kernel_rfl) (fun o ho K hK => ?_) AllReadyH.nil
                    simp only [List.getElem?_toArray, List.getElem?_cons_succ, List.getElem?_cons_zero, Option.some.injEq] at ho
                    subst ho
                    refine step_end4 (HE8.out.below (bal' w8 _)) rfl _ _ rfl m HHS.out rfl w8.heap.size n (.slice none 0 0) [] rfl rfl (World.cell?_alloc_new w8 _ _ 0) (World.cell?_alloc_new w8 _ _ 1) (bytes_nil _) (fun b e => (by cases e)) (by omega) (by have := HB8.out.size; simp; omega) ?_
                    intro g9 c9 w9 hh9 he9 hk9
                    have HH9 := Lib.hid hh9
                    have HB9 := Lib.hid (below_app (below_more HB8.out (bal' w8 _) HB8.out.size) hk9 (fun b e => (HE8.out.o4.lt b e).1))
                    clear hh9 he9 hk9
                    refine hK.out _ _ ?_
                    clear hK K
                    try simp only [Act.put, List.setIfInBounds_toArray, List.set_cons_zero, List.set_cons_succ]
                    refine q_all (rs := [65]) (by as_aux_lemma => kernel_rfl) (by simp) ?_
                    refine q_step 65 (by as_aux_lemma => kernel_rfl) (fun o ho K hK => ?_) AllReadyH.nil
                    simp only [List.getElem?_toArray, List.getElem?_cons_succ, List.getElem?_cons_zero, Option.some.injEq] at ho
                    subst ho
                    go_simp
                    go_at_call 3
                    refine (decCall _ n k _ (.slice none 0 0) _ [] HH9.out (ints_nil _) (by rw [List.length_append, HHS.out]; simp; omega) (wide_snocH HW4.out (by simp))).mono ?_
                    rintro e w10 ⟨rfl, hB10⟩
                    have HB10 := Lib.hid (below_more HB9.out hB10 HB9.out.size)
                    clear hB10
                    go_wp2_with fail
                    refine hK.out _ _ ?_
                    clear hK K
                    try simp only [Act.put, List.setIfInBounds_toArray, List.set_cons_zero, List.set_cons_succ]
                    refine q_take 66 (by as_aux_lemma => kernel_rfl) (by as_aux_lemma => kernel_rfl) (by as_aux_lemma => kernel_rfl) (by as_aux_lemma => kernel_rfl) (fun oi ho => ?_)
                    simp only [List.getElem?_toArray, List.getElem?_cons_succ, List.getElem?_cons_zero, Option.some.injEq] at ho
                    subst ho
                    refine ⟨?_, Or.inl ⟨by rfl, fun w _ => ?_⟩, ?_⟩
                    rotate_left
                    · (go_simp <;> with_reducible rfl)
                    try simp only [Act.put, List.setIfInBounds_toArray, List.set_cons_zero, List.set_cons_succ]
                    refine q_take 67 (by as_aux_lemma => kernel_rfl) (by as_aux_lemma => kernel_rfl) (by as_aux_lemma => kernel_rfl) (by as_aux_lemma => kernel_rfl) (fun oi ho => ?_)
                    simp only [List.getElem?_toArray, List.getElem?_cons_succ, List.getElem?_cons_zero, Option.some.injEq] at ho
                    subst ho
                    refine ⟨?_, Or.inl ⟨by rfl, fun w _ => ?_⟩, ?_⟩
                    rotate_left
                    · (go_simp <;> with_reducible rfl)
                    try simp only [Act.put, List.setIfInBounds_toArray, List.set_cons_zero, List.set_cons_succ]
                    refine q_done (by as_aux_lemma => kernel_rfl) ?_
                    go_wp2
                    go_roundw
                    case rel => exact ⟨k + 1, by go_num, by omega, by omega, HB10.out⟩
                    case measure => simp [intOf]; omega
                  exact AllReadyH.nil
                refine q_step 49 (by as_aux_lemma => kernel_rfl) (fun o ho K hK => ?_) ?_
                · simp only [List.getElem?_toArray, List.getElem?_cons_succ, List.getElem?_cons_zero, Option.some.injEq] at ho
                  subst ho
                  go_simp
                  refine hK.out _ _ ?_
                  clear hK K
                  try simp only [Act.put, List.setIfInBounds_toArray, List.set_cons_zero, List.set_cons_succ]
                  refine q_take 53 (by as_aux_lemma => kernel_rfl) (by as_aux_lemma => kernel_rfl) (by as_aux_lemma => kernel_rfl) (by as_aux_lemma => kernel_rfl) (fun oi ho => ?_)
                  simp only [List.getElem?_toArray, List.getElem?_cons_succ, List.getElem?_cons_zero, Option.some.injEq] at ho
                  subst ho
                  refine ⟨?_, Or.inl ⟨by rfl, fun w _ => ?_⟩, ?_⟩
                  rotate_left
                  · (go_simp <;> with_reducible rfl)
                  try simp only [Act.put, List.setIfInBounds_toArray, List.set_cons_zero, List.set_cons_succ]
                  refine q_all (rs := [47]) (by as_aux_lemma => kernel_rfl) (by simp) ?_
                  refine q_step 47 (by as_aux_lemma => kernel_rfl) (fun o ho K hK => ?_) AllReadyH.nil
                  simp only [List.getElem?_toArray, List.getElem?_cons_succ, List.getElem?_cons_zero, Option.some.injEq] at ho
                  subst ho
                  go_simp
                  refine hK.out _ _ ?_
                  clear hK K
                  try simp only [Act.put, List.setIfInBounds_toArray, List.set_cons_zero, List.set_cons_succ]
                  refine q_all (rs := [48]) (by as_aux_lemma => kernel_rfl) (by simp) ?_
                  refine q_step 48 (by as_aux_lemma => kernel_rfl) (fun o ho K hK => ?_) AllReadyH.nil
                  simp only [List.getElem?_toArray, List.getElem?_cons_succ, List.getElem?_cons_zero, Option.some.injEq] at ho
                  subst ho
                  refine step_end4s HE6.out (bb (bb (bal' w6 _) (bal' _ _)) (bal' _ _)) rfl _ _ rfl m HHS.out rfl (w6.heap.size + 2) (w6.heap.size + 0) (w6.heap.size + 1) (n - 1) rfl (cell_three w6 _ _ _ _ 0) (cell_three w6 _ _ _ _ 1) (lit444 (alloc_cell (alloc_cell (World.cell?_alloc_new w6 _ _ 0) _) _) (alloc_cell (alloc_cell (World.cell?_alloc_new w6 _ _ 1) _) _) (alloc_cell (alloc_cell (World.cell?_alloc_new w6 _ _ 2) _) _)) (Nat.le_add_right _ _) (Nat.le_add_right _ _) (fun i hi => alloc_six (cell_two w6 _ six _ i) hi _) (by omega) (by have := HB6.out.size; simp; omega) ?_
                  intro g7 c7 w7 hh7 he7 hk7 hs7
                  have HHb := Lib.hid hh7
                  have HE7 := Lib.hid he7
                  have HS7 := Lib.hid (hs7 N6 HN66.out)
                  have HB7 := Lib.hid (below_app (below_more HB6.out (bb (bb (bal' w6 _) (bal' _ _)) (bal' _ _)) HB6.out.size) hk7 (fun b e => (HE6.out.o4.lt b e).1))
                  clear hh7 he7 hk7 hs7
                  refine hK.out _ _ ?_
                  clear hK K
                  try simp only [Act.put, List.setIfInBounds_toArray, List.set_cons_zero, List.set_cons_succ]
                  refine q_all (rs := [54]) (by as_aux_lemma => kernel_rfl) (by simp) ?_
                  refine q_step 54 (by as_aux_lemma => kernel_rfl) (fun o ho K hK => ?_) AllReadyH.nil
                  simp only [List.getElem?_toArray, List.getElem?_cons_succ, List.getElem?_cons_zero, Option.some.injEq] at ho
                  subst ho
                  go_simp
                  go_at_call 3
                  refine (decCall _ n k _ _ _ _ HHb.out HS7.out (by rw [List.length_append, HHS.out]; simp; omega) (wide_snocH HW4.out (by simp))).mono ?_
                  rintro e w8 ⟨rfl, hB8⟩
                  have HE8 := Lib.hid (HE7.out.below hB8)
                  have HB8 := Lib.hid (below_more HB7.out hB8 HB7.out.size)
                  clear hB8
                  go_wp2_with fail
                  refine hK.out _ _ ?_
                  clear hK K
                  try simp only [Act.put, List.setIfInBounds_toArray, List.set_cons_zero, List.set_cons_succ]
                  refine q_take 55 (by as_aux_lemma => kernel_rfl) (by as_aux_lemma => kernel_rfl) (by as_aux_lemma => kernel_rfl) (by as_aux_lemma => kernel_rfl) (fun oi ho => ?_)
                  simp only [List.getElem?_toArray, List.getElem?_cons_succ, List.getElem?_cons_zero, Option.some.injEq] at ho
                  subst ho
                  refine ⟨?_, Or.inl ⟨by rfl, fun w _ => ?_⟩, ?_⟩
                  rotate_left
                  · (go_simp <;> with_reducible rfl)
                  try simp only [Act.put, List.setIfInBounds_toArray, List.set_cons_zero, List.set_cons_succ]
                  refine q_take 56 (by as_aux_lemma => kernel_rfl) (by as_aux_lemma => kernel_rfl) (by as_aux_lemma => kernel_rfl) (by as_aux_lemma => kernel_rfl) (fun oi ho => ?_)
                  simp only [List.getElem?_toArray, List.getElem?_cons_succ, List.getElem?_cons_zero, Option.some.injEq] at ho
                  subst ho
                  refine ⟨?_, Or.inl ⟨by rfl, fun w _ => ?_⟩, ?_⟩
                  rotate_left
                  · (go_simp <;> with_reducible rfl)
                  try simp only [Act.put, List.setIfInBounds_toArray, List.set_cons_zero, List.set_cons_succ]
                  refine q_take 57 (by as_aux_lemma => kernel_rfl) (by as_aux_lemma => kernel_rfl) (by as_aux_lemma => kernel_rfl) (by as_aux_lemma => kernel_rfl) (fun oi ho => ?_)
                  simp only [List.getElem?_toArray, List.getElem?_cons_succ, List.getElem?_cons_zero, Option.some.injEq] at ho
                  subst ho
                  refine ⟨?_, Or.inl ⟨by rfl, fun w _ => ?_⟩, ?_⟩
                  rotate_left
                  · (go_simp <;> with_reducible rfl)
                  try simp only [Act.put, List.setIfInBounds_toArray, List.set_cons_zero, List.set_cons_succ]
                  refine q_take 58 (by as_aux_lemma => kernel_rfl) (by as_aux_lemma => kernel_rfl) (by as_aux_lemma => kernel_rfl) (by as_aux_lemma => kernel_rfl) (fun oi ho => ?_)
                  simp only [List.getElem?_toArray, List.getElem?_cons_succ, List.getElem?_cons_zero, Option.some.injEq] at ho
                  subst ho
                  refine ⟨?_, Or.inl ⟨by rfl, fun w _ => ?_⟩, ?_⟩
                  rotate_left
                  · (go_simp <;> with_reducible rfl)
                  try simp only [Act.put, List.setIfInBounds_toArray, List.set_cons_zero, List.set_cons_succ]
                  refine q_take 59 (by as_aux_lemma => kernel_rfl) (by as_aux_lemma => kernel_rfl) (by as_aux_lemma => kernel_rfl) (by as_aux_lemma => kernel_rfl) (fun oi ho => ?_)
                  simp only [List.getElem?_toArray, List.getElem?_cons_succ, List.getElem?_cons_zero, Option.some.injEq] at ho
                  subst ho
                  refine ⟨?_, Or.inl ⟨by rfl, fun w _ => ?_⟩, ?_⟩
                  rotate_left
                  · (go_simp <;> with_reducible rfl)
                  try simp only [Act.put, List.setIfInBounds_toArray, List.set_cons_zero, List.set_cons_succ]
                  refine q_take 60 (by as_aux_lemma => kernel_rfl) (by as_aux_lemma => kernel_rfl) (by as_aux_lemma => kernel_rfl) (by as_aux_lemma => kernel_rfl) (fun oi ho => ?_)
                  simp only [List.getElem?_toArray, List.getElem?_cons_succ, List.getElem?_cons_zero, Option.some.injEq] at ho
                  subst ho
                  refine ⟨?_, Or.inl ⟨by rfl, fun w _ => ?_⟩, ?_⟩
                  rotate_left
                  · (go_simp <;> with_reducible rfl)
                  try simp only [Act.put, List.setIfInBounds_toArray, List.set_cons_zero, List.set_cons_succ]
                  refine q_take 61 (by as_aux_lemma => kernel_rfl) (by as_aux_lemma => kernel_rfl) (by as_aux_lemma => kernel_rfl) (by as_aux_lemma => kernel_rfl) (fun oi ho => ?_)
                  simp only [List.getElem?_toArray, List.getElem?_cons_succ, List.getElem?_cons_zero, Option.some.injEq] at ho
                  subst ho
                  refine ⟨?_, Or.inl ⟨by rfl, fun w _ => ?_⟩, ?_⟩
                  rotate_left
                  · (go_simp <;> with_reducible rfl)
                  try simp only [Act.put, List.setIfInBounds_toArray, List.set_cons_zero, List.set_cons_succ]
                  refine q_take 62 (by as_aux_lemma => kernel_rfl) (by as_aux_lemma => kernel_rfl) (by as_aux_lemma => kernel_rfl) (by as_aux_lemma => kernel_rfl) (fun oi ho => ?_)
                  simp only [List.getElem?_toArray, List.getElem?_cons_succ, List.getElem?_cons_zero, Option.some.injEq] at ho
                  subst ho
                  refine ⟨?_, Or.inl ⟨by rfl, fun w _ => ?_⟩, ?_⟩
                  rotate_left
                  · (go_simp <;> with_reducible rfl)
                  try simp only [Act.put, List.setIfInBounds_toArray, List.set_cons_zero, List.set_cons_succ]
                  refine q_all (rs := [63]) (by as_aux_lemma => kernel_rfl) (by simp) ?_
                  refine q_step 63 (by as_aux_lemma => kernel_rfl) (fun o ho K hK => ?_) AllReadyH.nil
                  simp only [List.getElem?_toArray, List.getElem?_cons_succ, List.getElem?_cons_zero, Option.some.injEq] at ho
                  subst ho
                  go_simp
                  refine hK.out _ _ ?_
                  clear hK K
                  try simp only [Act.put, List.setIfInBounds_toArray, List.set_cons_zero, List.set_cons_succ]
                  refine q_all (rs := [64]) (by as_aux_lemma => kernel_rfl) (by simp) ?_
                  refine q_step 64 (by as_aux_lemma => kernel_rfl) (fun o ho K hK => ?_) AllReadyH.nil
                  simp only [List.getElem?_toArray, List.getElem?_cons_succ, List.getElem?_cons_zero, Option.some.injEq] at ho
                  subst ho
                  refine step_end4 (HE8.out.below (bal' w8 _)) rfl _ _ rfl m HHS.out rfl w8.heap.size n (.slice none 0 0) [] rfl rfl (World.cell?_alloc_new w8 _ _ 0) (World.cell?_alloc_new w8 _ _ 1) (bytes_nil _) (fun b e => (by cases e)) (by omega) (by have := HB8.out.size; simp; omega) ?_
                  intro g9 c9 w9 hh9 he9 hk9
                  have HH9 := Lib.hid hh9
                  have HB9 := Lib.hid (below_app (below_more HB8.out (bal' w8 _) HB8.out.size) hk9 (fun b e => (HE8.out.o4.lt b e).1))
                  clear hh9 he9 hk9
                  refine hK.out _ _ ?_
                  clear hK K
                  try simp only [Act.put, List.setIfInBounds_toArray, List.set_cons_zero, List.set_cons_succ]
                  refine q_all (rs := [65]) (by as_aux_lemma => kernel_rfl) (by simp) ?_
                  refine q_step 65 (by as_aux_lemma => kernel_rfl) (fun o ho K hK => ?_) AllReadyH.nil
                  simp only [List.getElem?_toArray, List.getElem?_cons_succ, List.getElem?_cons_zero, Option.some.injEq] at ho
                  subst ho
                  go_simp
                  go_at_call 3
                  refine (decCall _ n k _ (.slice none 0 0) _ [] HH9.out (ints_nil _) (by rw [List.length_append, HHS.out]; simp; omega) (wide_snocH HW4.out (by simp))).mono ?_
                  rintro e w10 ⟨rfl, hB10⟩
                  have HB10 := Lib.hid (below_more HB9.out hB10 HB9.out.size)
                  clear hB10
                  go_wp2_with fail
                  refine hK.out _ _ ?_
                  clear hK K
                  try simp only [Act.put, List.setIfInBounds_toArray, List.set_cons_zero, List.set_cons_succ]
                  refine q_take 66 (by as_aux_lemma => kernel_rfl) (by as_aux_lemma => kernel_rfl) (by as_aux_lemma => kernel_rfl) (by as_aux_lemma => kernel_rfl) (fun oi ho => ?_)
                  simp only [List.getElem?_toArray, List.getElem?_cons_succ, List.getElem?_cons_zero, Option.some.injEq] at ho
                  subst ho
                  refine ⟨?_, Or.inl ⟨by rfl, fun w _ => ?_⟩, ?_⟩
                  rotate_left
                  · (go_simp <;> with_reducible rfl)
                  try simp only [Act.put, List.setIfInBounds_toArray, List.set_cons_zero, List.set_cons_succ]
                  refine q_take 67 (by as_aux_lemma => kernel_rfl) (by as_aux_lemma => kernel_rfl) (by as_aux_lemma => kernel_rfl) (by as_aux_lemma => kernel_rfl) (fun oi ho => ?_)
                  simp only [List.getElem?_toArray, List.getElem?_cons_succ, List.getElem?_cons_zero, Option.some.injEq] at ho
                  subst ho
                  refine ⟨?_, Or.inl ⟨by rfl, fun w _ => ?_⟩, ?_⟩
                  rotate_left
                  · (go_simp <;> with_reducible rfl)
                  try simp only [Act.put, List.setIfInBounds_toArray, List.set_cons_zero, List.set_cons_succ]
                  refine q_done (by as_aux_lemma => kernel_rfl) ?_
                  go_wp2
                  go_roundw
                  case rel => exact ⟨k + 1, by go_num, by omega, by omega, HB10.out⟩
                  case measure => simp [intOf]; omega
                exact AllReadyH.nil
              refine q_step 49 (by as_aux_lemma => kernel_rfl) (fun o ho K hK => ?_) ?_
              · simp only [List.getElem?_toArray, List.getElem?_cons_succ, List.getElem?_cons_zero, Option.some.injEq] at ho
                subst ho
                go_simp
                refine hK.out _ _ ?_
                clear hK K
                try simp only [Act.put, List.setIfInBounds_toArray, List.set_cons_zero, List.set_cons_succ]
                refine q_take 53 (by as_aux_lemma => kernel_rfl) (by as_aux_lemma => kernel_rfl) (by as_aux_lemma => kernel_rfl) (by as_aux_lemma => kernel_rfl) (fun oi ho => ?_)
                simp only [List.getElem?_toArray, List.getElem?_cons_succ, List.getElem?_cons_zero, Option.some.injEq] at ho
                subst ho
                refine ⟨?_, Or.inl ⟨by rfl, fun w _ => ?_⟩, ?_⟩
                rotate_left
                · (go_simp <;> with_reducible rfl)
                try simp only [Act.put, List.setIfInBounds_toArray, List.set_cons_zero, List.set_cons_succ]
                refine q_all (rs := [45]) (by as_aux_lemma => kernel_rfl) (by simp) ?_
                refine q_step 45 (by as_aux_lemma => kernel_rfl) (fun o ho K hK => ?_) AllReadyH.nil
                simp only [List.getElem?_toArray, List.getElem?_cons_succ, List.getElem?_cons_zero, Option.some.injEq] at ho
                subst ho
                go_simp
                refine hK.out _ _ ?_
                clear hK K
                try simp only [Act.put, List.setIfInBounds_toArray, List.set_cons_zero, List.set_cons_succ]
                refine q_take 46 (by as_aux_lemma => kernel_rfl) (by as_aux_lemma => kernel_rfl) (by as_aux_lemma => kernel_rfl) (by as_aux_lemma => kernel_rfl) (fun oi ho => ?_)
                simp only [List.getElem?_toArray, List.getElem?_cons_succ, List.getElem?_cons_zero, Option.some.injEq] at ho
                subst ho
                refine ⟨?_, Or.inl ⟨by rfl, fun w _ => ?_⟩, ?_⟩
                rotate_left
                · (go_simp <;> with_reducible rfl)
                try simp only [Act.put, List.setIfInBounds_toArray, List.set_cons_zero, List.set_cons_succ]
                refine q_all (rs := [47]) (by as_aux_lemma => kernel_rfl) (by simp) ?_
                refine q_step 47 (by as_aux_lemma => kernel_rfl) (fun o ho K hK => ?_) AllReadyH.nil
                simp only [List.getElem?_toArray, List.getElem?_cons_succ, List.getElem?_cons_zero, Option.some.injEq] at ho
                subst ho
                go_simp
                refine hK.out _ _ ?_
                clear hK K
                try simp only [Act.put, List.setIfInBounds_toArray, List.set_cons_zero, List.set_cons_succ]
                refine q_all (rs := [48]) (by as_aux_lemma => kernel_rfl) (by simp) ?_
                refine q_step 48 (by as_aux_lemma => kernel_rfl) (fun o ho K hK => ?_) AllReadyH.nil
                simp only [List.getElem?_toArray, List.getElem?_cons_succ, List.getElem?_cons_zero, Option.some.injEq] at ho
                subst ho
                refine step_end4s HE6.out (bb (bb (bal' w6 _) (bal' _ _)) (bal' _ _)) rfl _ _ rfl m HHS.out rfl (w6.heap.size + 2) (w6.heap.size + 1) (w6.heap.size + 0) (n - 1) rfl (cell_three w6 _ _ _ _ 0) (cell_three w6 _ _ _ _ 1) (lit444 (alloc_cell (cell_two w6 _ _ _ 0) _) (alloc_cell (cell_two w6 _ _ _ 1) _) (alloc_cell (cell_two w6 _ _ _ 2) _)) (Nat.le_add_right _ _) (Nat.le_add_right _ _) (fun i hi => alloc_six (alloc_six (World.cell?_alloc_new w6 six _ i) hi _) hi _) (by omega) (by have := HB6.out.size; simp; omega) ?_
                intro g7 c7 w7 hh7 he7 hk7 hs7
                have HHb := Lib.hid hh7
                have HE7 := Lib.hid he7
                have HS7 := Lib.hid (hs7 N6 HN66.out)
                have HB7 := Lib.hid (below_app (below_more HB6.out (bb (bb (bal' w6 _) (bal' _ _)) (bal' _ _)) HB6.out.size) hk7 (fun b e => (HE6.out.o4.lt b e).1))
                clear hh7 he7 hk7 hs7
                refine hK.out _ _ ?_
                clear hK K
                try simp only [Act.put, List.setIfInBounds_toArray, List.set_cons_zero, List.set_cons_succ]
                refine q_all (rs := [54]) (by as_aux_lemma => kernel_rfl) (by simp) ?_
                refine q_step 54 (by as_aux_lemma => kernel_rfl) (fun o ho K hK => ?_) AllReadyH.nil
                simp only [List.getElem?_toArray, List.getElem?_cons_succ, List.getElem?_cons_zero, Option.some.injEq] at ho
                subst ho
                go_simp
                go_at_call 3
                refine (decCall _ n k _ _ _ _ HHb.out HS7.out (by rw [List.length_append, HHS.out]; simp; omega) (wide_snocH HW4.out (by simp))).mono ?_
                rintro e w8 ⟨rfl, hB8⟩
                have HE8 := Lib.hid (HE7.out.below hB8)
                have HB8 := Lib.hid (below_more HB7.out hB8 HB7.out.size)
                clear hB8
                go_wp2_with fail
                refine hK.out _ _ ?_
                clear hK K
                try simp only [Act.put, List.setIfInBounds_toArray, List.set_cons_zero, List.set_cons_succ]
                refine q_take 55 (by as_aux_lemma => kernel_rfl) (by as_aux_lemma => kernel_rfl) (by as_aux_lemma => kernel_rfl) (by as_aux_lemma => kernel_rfl) (fun oi ho => ?_)
                simp only [List.getElem?_toArray, List.getElem?_cons_succ, List.getElem?_cons_zero, Option.some.injEq] at ho
                subst ho
                refine ⟨?_, Or.inl ⟨by rfl, fun w _ => ?_⟩, ?_⟩
                rotate_left
                · (go_simp <;> with_reducible rfl)
                try simp only [Act.put, List.setIfInBounds_toArray, List.set_cons_zero, List.set_cons_succ]
                refine q_take 56 (by as_aux_lemma => kernel_rfl) (by as_aux_lemma => kernel_rfl) (by as_aux_lemma => kernel_rfl) (by as_aux_lemma => kernel_rfl) (fun oi ho => ?_)
                simp only [List.getElem?_toArray, List.getElem?_cons_succ, List.getElem?_cons_zero, Option.some.injEq] at ho
                subst ho
                refine ⟨?_, Or.inl ⟨by rfl, fun w _ => ?_⟩, ?_⟩
                rotate_left
                · (go_simp <;> with_reducible rfl)
                try simp only [Act.put, List.setIfInBounds_toArray, List.set_cons_zero, List.set_cons_succ]
                refine q_take 57 (by as_aux_lemma => kernel_rfl) (by as_aux_lemma => kernel_rfl) (by as_aux_lemma => kernel_rfl) (by as_aux_lemma => kernel_rfl) (fun oi ho => ?_)
                simp only [List.getElem?_toArray, List.getElem?_cons_succ, List.getElem?_cons_zero, Option.some.injEq] at ho
                subst ho
                refine ⟨?_, Or.inl ⟨by rfl, fun w _ => ?_⟩, ?_⟩
                rotate_left
                · (go_simp <;> with_reducible rfl)
                try simp only [Act.put, List.setIfInBounds_toArray, List.set_cons_zero, List.set_cons_succ]
                refine q_take 58 (by as_aux_lemma => kernel_rfl) (by as_aux_lemma => kernel_rfl) (by as_aux_lemma => kernel_rfl) (by as_aux_lemma => kernel_rfl) (fun oi ho => ?_)
                simp only [List.getElem?_toArray, List.getElem?_cons_succ, List.getElem?_cons_zero, Option.some.injEq] at ho
                subst ho
                refine ⟨?_, Or.inl ⟨by rfl, fun w _ => ?_⟩, ?_⟩
                rotate_left
                · (go_simp <;> with_reducible rfl)
                try simp only [Act.put, List.setIfInBounds_toArray, List.set_cons_zero, List.set_cons_succ]
                refine q_take 59 (by as_aux_lemma => kernel_rfl) (by as_aux_lemma => kernel_rfl) (by as_aux_lemma => kernel_rfl) (by as_aux_lemma => kernel_rfl) (fun oi ho => ?_)
                simp only [List.getElem?_toArray, List.getElem?_cons_succ, List.getElem?_cons_zero, Option.some.injEq] at ho
                subst ho
                refine ⟨?_, Or.inl ⟨by rfl, fun w _ => ?_⟩, ?_⟩
                rotate_left
                · (go_simp <;> with_reducible rfl)
                try simp only [Act.put, List.setIfInBounds_toArray, List.set_cons_zero, List.set_cons_succ]
                refine q_take 60 (by as_aux_lemma => kernel_rfl) (by as_aux_lemma => kernel_rfl) (by as_aux_lemma => kernel_rfl) (by as_aux_lemma => kernel_rfl) (fun oi ho => ?_)
                simp only [List.getElem?_toArray, List.getElem?_cons_succ, List.getElem?_cons_zero, Option.some.injEq] at ho
                subst ho
                refine ⟨?_, Or.inl ⟨by rfl, fun w _ => ?_⟩, ?_⟩
                rotate_left
                · (go_simp <;> with_reducible rfl)
                try simp only [Act.put, List.setIfInBounds_toArray, List.set_cons_zero, List.set_cons_succ]
                refine q_take 61 (by as_aux_lemma => kernel_rfl) (by as_aux_lemma => kernel_rfl) (by as_aux_lemma => kernel_rfl) (by as_aux_lemma => kernel_rfl) (fun oi ho => ?_)
                simp only [List.getElem?_toArray, List.getElem?_cons_succ, List.getElem?_cons_zero, Option.some.injEq] at ho
                subst ho
                refine ⟨?_, Or.inl ⟨by rfl, fun w _ => ?_⟩, ?_⟩
                rotate_left
                · (go_simp <;> with_reducible rfl)
                try simp only [Act.put, List.setIfInBounds_toArray, List.set_cons_zero, List.set_cons_succ]
                refine q_take 62 (by as_aux_lemma => kernel_rfl) (by as_aux_lemma => kernel_rfl) (by as_aux_lemma => kernel_rfl) (by as_aux_lemma => kernel_rfl) (fun oi ho => ?_)
                simp only [List.getElem?_toArray, List.getElem?_cons_succ, List.getElem?_cons_zero, Option.some.injEq] at ho
                subst ho
                refine ⟨?_, Or.inl ⟨by rfl, fun w _ => ?_⟩, ?_⟩
                rotate_left
                · (go_simp <;> with_reducible rfl)
                try simp only [Act.put, List.setIfInBounds_toArray, List.set_cons_zero, List.set_cons_succ]
                refine q_all (rs := [63]) (by as_aux_lemma => kernel_rfl) (by simp) ?_
                refine q_step 63 (by as_aux_lemma => kernel_rfl) (fun o ho K hK => ?_) AllReadyH.nil
                simp only [List.getElem?_toArray, List.getElem?_cons_succ, List.getElem?_cons_zero, Option.some.injEq] at ho
                subst ho
                go_simp
                refine hK.out _ _ ?_
                clear hK K
                try simp only [Act.put, List.setIfInBounds_toArray, List.set_cons_zero, List.set_cons_succ]
                refine q_all (rs := [64]) (by as_aux_lemma => kernel_rfl) (by simp) ?_
                refine q_step 64 (by as_aux_lemma => kernel_rfl) (fun o ho K hK => ?_) AllReadyH.nil
                simp only [List.getElem?_toArray, List.getElem?_cons_succ, List.getElem?_cons_zero, Option.some.injEq] at ho
                subst ho
                refine step_end4 (HE8.out.below (bal' w8 _)) rfl _ _ rfl m HHS.out rfl w8.heap.size n (.slice none 0 0) [] rfl rfl (World.cell?_alloc_new w8 _ _ 0) (World.cell?_alloc_new w8 _ _ 1) (bytes_nil _) (fun b e => (by cases e)) (by omega) (by have := HB8.out.size; simp; omega) ?_
                intro g9 c9 w9 hh9 he9 hk9
                have HH9 := Lib.hid hh9
                have HB9 := Lib.hid (below_app (below_more HB8.out (bal' w8 _) HB8.out.size) hk9 (fun b e => (HE8.out.o4.lt b e).1))
                clear hh9 he9 hk9
                refine hK.out _ _ ?_
                clear hK K
                try simp only [Act.put, List.setIfInBounds_toArray, List.set_cons_zero, List.set_cons_succ]
                refine q_all (rs := [65]) (by as_aux_lemma => kernel_rfl) (by simp) ?_
                refine q_step 65 (by as_aux_lemma => kernel_rfl) (fun o ho K hK => ?_) AllReadyH.nil
                simp only [List.getElem?_toArray, List.getElem?_cons_succ, List.getElem?_cons_zero, Option.some.injEq] at ho
                subst ho
                go_simp
                go_at_call 3
                refine (decCall _ n k _ (.slice none 0 0) _ [] HH9.out (ints_nil _) (by rw [List.length_append, HHS.out]; simp; omega) (wide_snocH HW4.out (by simp))).mono ?_
                rintro e w10 ⟨rfl, hB10⟩
                have HB10 := Lib.hid (below_more HB9.out hB10 HB9.out.size)
                clear hB10
                go_wp2_with fail
                refine hK.out _ _ ?_
                clear hK K
                try simp only [Act.put, List.setIfInBounds_toArray, List.set_cons_zero, List.set_cons_succ]
                refine q_take 66 (by as_aux_lemma => kernel_rfl) (by as_aux_lemma => kernel_rfl) (by as_aux_lemma => kernel_rfl) (by as_aux_lemma => kernel_rfl) (fun oi ho => ?_)
                simp only [List.getElem?_toArray, List.getElem?_cons_succ, List.getElem?_cons_zero, Option.some.injEq] at ho
                subst ho
                refine ⟨?_, Or.inl ⟨by rfl, fun w _ => ?_⟩, ?_⟩
                rotate_left
                · (go_simp <;> with_reducible rfl)
                try simp only [Act.put, List.setIfInBounds_toArray, List.set_cons_zero, List.set_cons_succ]
                refine q_take 67 (by as_aux_lemma => kernel_rfl) (by as_aux_lemma => kernel_rfl) (by as_aux_lemma => kernel_rfl) (by as_aux_lemma => kernel_rfl) (fun oi ho => ?_)
                simp only [List.getElem?_toArray, List.getElem?_cons_succ, List.getElem?_cons_zero, Option.some.injEq] at ho
                subst ho
                refine ⟨?_, Or.inl ⟨by rfl, fun w _ => ?_⟩, ?_⟩
                rotate_left
                · (go_simp <;> with_reducible rfl)
                try simp only [Act.put, List.setIfInBounds_toArray, List.set_cons_zero, List.set_cons_succ]
                refine q_done (by as_aux_lemma => kernel_rfl) ?_
                go_wp2
                go_roundw
                case rel => exact ⟨k + 1, by go_num, by omega, by omega, HB10.out⟩
                case measure => simp [intOf]; omega
              exact AllReadyH.nil
        · obtain rfl : k = 7 := by omega
          go_wp2
          go_roundw
          case rel => exact ⟨n + 1, by go_num, by omega, by omega, HBK.out⟩
          case measure => simp [intOf]; omega
    · obtain rfl : n = 6 := by omega
      obtain ⟨wo, rfl⟩ : ∃ wo : World, wo = wr := ⟨_, rfl⟩
      go_wp2_with fail
      go_loopw [7] (fun i wi => ∃ k : Nat, i = .int .i64 (k : Int) ∧ k ≤ 4 ∧ Below w.heap.size w wi ∧ wo.heap.size < wi.heap.size ∧ (∀ j, j < 4 → wi.cell? ⟨wo.heap.size, j, none⟩ = some (.int .i64 (ends j)))) (fun i _ => 4 - (intOf i).toNat)
      case atStart => exact ⟨0, rfl, by omega, HB.out.trans (Kept.toBelow (Kept.alloc (fun _ => False) wo _) HB.out.size (fun _ h => h.elim)), by simp, fun j hj => ends_at wo _ rfl j hj⟩
      case round =>
        obtain ⟨k, rfl, hk4, hB, hsz, hc⟩ := hrel
        have HB2 := Lib.hid hB
        have HC := Lib.hid hc
        clear hB hc
        by_cases hltk : k < 4
        · have hx := HC.out k hltk
          generalize ends k = x at hx
          have hk0 : (0 : Int) ≤ (k : Int) := by omega
          have hk44 : (k : Int) < 4 := by omega
          have hB' := HB2.out
          have hgl : wo.heap.size < wr.drew.heap.size := hsz
          have d0 : wr.drew.cell? ⟨wo.heap.size, k, none⟩ = some (.int .i64 x) := hx
          clear hx hB'
          go_wp2_with fail
          go_region_held3 (fun w' => w'.cell? ⟨wo.heap.size, k, none⟩ = some (.int .i64 x))
            (first | with_reducible exact d0 | with_reducible exact y0 | with_reducible exact z0)
            ((first
              | (go_at_call_of 4 (Value.int .i64 3); refine (encCall wr.drew x 3 (.slice none 0 0) [] 0 (rows_nil _) (by simp) (by simp) (by omega) (by omega)).mono ?_; rintro e w1 ⟨rfl, hB1⟩; have y0 := (hB1.cell (p := ⟨wo.heap.size, k, none⟩) hgl).trans d0; have hsy := hB1.size; have HB5 := Lib.hid (below_more (belowDrew HB2.out) hB1 HB2.out.size); have HBA := Lib.hid hB1; clear hB1)
              | (go_at_call 4; refine (encCall _ x x (.slice none 0 0) [] 0 (rows_nil _) (by simp) (by simp) (by omega) (by omega)).mono ?_; rintro e w2 ⟨rfl, hB2⟩; have z0 := (hB2.cell (p := ⟨wo.heap.size, k, none⟩) (Nat.lt_of_lt_of_le hgl hsy)).trans y0; have HB6 := Lib.hid (below_more HB5.out hB2 HB5.out.size); have HBC := Lib.hid (bb HBA.out hB2); clear hB2)))
          go_wp2
          go_roundw
          case rel => exact ⟨k + 1, by go_num, by omega, HB6.out, Nat.lt_of_lt_of_le hgl HBC.out.size, fun j hj => (HBC.out.cell (p := ⟨wo.heap.size, j, none⟩) hgl).trans (HC.out j hj)⟩
          case measure => simp [intOf]; omega
        · obtain rfl : k = 4 := by omega
          go_wp2_with fail
          refine (decCall _ 3 2 _ _ [(1, [ofB 1]), (1, [ofB 1])] [1, 1] ((litH wr 1 1 (ofB 1) (ofB 1) _ _ _ rfl rfl rfl).below (bal' _ _)) (ints2 _ 1 1 _ (by simp)) (by simp) (fun j => by rcases j with _ | _ | j <;> simp)).mono ?_
          rintro e w1 ⟨rfl, hB1⟩
          have HB3 := Lib.hid (below_more HB2.out (bb (bb (bb (bb (bal' wr _) (bal' _ _)) (bal' _ _)) (bal' _ _)) hB1) HB2.out.size)
          clear hB1
          go_wp2_with fail
          refine (decCall _ 3 2 _ _ [(0, [ofB 1]), (1, [ofB 1, ofB 2])] [0, 3, 3] ((litH12 w1 0 1 (ofB 1) (ofB 1) (ofB 2) _ _ _ rfl rfl rfl).below (bal' _ _)) (ints3 _ 0 3 3 _ (by simp)) (by simp) (fun j => by rcases j with _ | _ | j <;> simp)).mono ?_
          rintro e w2 ⟨rfl, hB1⟩
          have HB4 := Lib.hid (below_more HB3.out (bb (bb (bb (bb (bal' w1 _) (bal' _ _)) (bal' _ _)) (bal' _ _)) hB1) HB3.out.size)
          clear hB1
          go_wp2_with fail
          refine (none_any _).mono ?_
          rintro e w3 ⟨rfl, hB1⟩
          have HB5 := Lib.hid (below_more HB4.out hB1 HB4.out.size)
          clear hB1
          go_wp2_with fail
          refine (awake_any _).mono ?_
          rintro e w4 ⟨rfl, hB1⟩
          have HB6 := Lib.hid (below_more HB5.out hB1 HB5.out.size)
          clear hB1
          go_wp2
          go_ret
          exact ⟨rfl, HB6.out⟩

end Go.Proofs.YtaaahbpeaamjgaaGreat
