/-
  CacheEnds: the walk.
-/
import Derived.Test.YtlmpagicjgldkaaGreatRcL
import Derived.Test.YtlmpagicjgldkaaGreatRcM
namespace Go.Proofs.YtlmpagicjgldkaaGreat
open Go.RowKit Go.Maps
set_option linter.unusedVariables false
set_option linter.unusedSimpArgs false
set_option maxRecDepth 100000
set_option maxHeartbeats 8000000

/-- Where the ends lie. -/
def endsA (j : Nat) : Int := [255, 64, 256, 1, 1, 65, 0, 1, 1, 0, -1, 5].getD j 0
theorem endsA_at (w : World) (j : Nat) (hj : j < 12) : (w.alloc (.cells #[.int .i64 255, .int .i64 64, .int .i64 256, .int .i64 1, .int .i64 1, .int .i64 65, .int .i64 0, .int .i64 1, .int .i64 1, .int .i64 0, .int .i64 (-1), .int .i64 5] 55)).cell? ⟨w.heap.size, j, none⟩ = some (.int .i64 (endsA j)) := by
  refine (World.cell?_alloc_new w _ _ j).trans ?_
  obtain rfl | rfl | rfl | rfl | rfl | rfl | rfl | rfl | rfl | rfl | rfl | rfl : j = 0 ∨ j = 1 ∨ j = 2 ∨ j = 3 ∨ j = 4 ∨ j = 5 ∨ j = 6 ∨ j = 7 ∨ j = 8 ∨ j = 9 ∨ j = 10 ∨ j = 11 := by omega
  all_goals rfl
theorem endsA_bad (m : Nat) (h0 : 1 ≤ m) (h6 : m < 6) : endsA (m * 2) < 1 ∨ 255 < endsA (m * 2) ∨ endsA (m * 2 + 1) < 1 ∨ 64 < endsA (m * 2 + 1) := by
  obtain rfl | rfl | rfl | rfl | rfl : m = 1 ∨ m = 2 ∨ m = 3 ∨ m = 4 ∨ m = 5 := by omega
  all_goals decide
/-- A literal of numbers, as far as one takes it. -/
theorem lit_take (w : World) (xs : List Int) (k : Nat) (hk : k ≤ xs.length) (c : Nat) (hc : k ≤ c) : IntsAt (w.alloc (.cells (xs.map (Value.int .i64)).toArray 3)) (.slice (some ⟨w.heap.size, 0, none⟩) k c) (xs.take k) := by
  have hl : (xs.take k).length = k := by rw [List.length_take]; omega
  refine ⟨_, c, by rw [hl], by omega, fun _ => ⟨w.heap.size, 0, rfl, fun i hi => ?_⟩⟩
  rw [hl] at hi
  rw [Nat.zero_add, World.cell?_alloc_new, List.getD_eq_getElem?_getD, List.getElem?_take, if_pos hi]
  have : i < xs.length := by omega
  simp [this]
theorem own_some {g o n c k : Nat} (h : (Value.slice (some ⟨g, o, none⟩) n c).ownBlock = some k) : k = g := by
  have : some g = some k := h
  exact (Option.some.inj this).symm

theorem new_ends (w : World) (m : Nat) (h : m < 6) :
    Calls Tryz.prog 7 #[.int .i64 (endsA (m * 2)), .int .i64 (endsA (m * 2 + 1))] w fun e w' => ∃ v er, e = .returned (.tuple #[v, .int .i64 er]) ∧ ((m = 0 ∧ er = 0) ∨ (m ≠ 0 ∧ er = 2)) ∧ Below w.heap.size w w' := by
  by_cases h0 : m = 0
  · subst h0
    refine (new_any w 255 64 (by omega) (by omega) (by omega) (by omega)).mono ?_
    rintro e w' ⟨b, bm, rfl, _, _, _, hB⟩
    exact ⟨_, _, rfl, .inl ⟨rfl, rfl⟩, hB⟩
  · refine (new_bad w _ _ (endsA_bad m (by omega) h)).mono ?_
    rintro e w' ⟨rfl, rfl⟩
    exact ⟨_, _, rfl, .inr ⟨h0, rfl⟩, Below.refl _ _⟩

theorem ends_any (w : World) :
    Calls Tryz.prog 4 #[] w fun e w' => e = .returned (.bool true) ∧ Below w.heap.size w w' := by
  go_enter Tryz.func4, Tryz.ntmps4
  go_wp2
  go_loopw [1] (fun i wr => ∃ n : Int, i = .int .i64 n ∧ -1 ≤ n ∧ n ≤ 4 ∧ Below w.heap.size w wr) (fun i _ => (4 - intOf i).toNat)
  case atStart => exact ⟨-1, rfl, by omega, by omega, Below.refl _ _⟩
  case round =>
    obtain ⟨n, rfl, hn1, hn6, hB⟩ := hrel
    have HB := Lib.hid hB
    clear hB
    by_cases hlt : n < 4
    · go_wp2
      go_loopw [2] (fun i wk => ∃ k : Int, i = .int .i64 k ∧ -1 ≤ k ∧ k ≤ 5 ∧ Below w.heap.size w wk) (fun i _ => (5 - intOf i).toNat)
      case atStart => exact ⟨-1, rfl, by omega, by omega, HB.out⟩
      case round =>
        obtain ⟨k, rfl, hk1, hk7, hBk⟩ := hrel
        have HBK := Lib.hid hBk
        clear hBk
        by_cases hltk : k < 5
        · go_wp2
          go_loopw [3, 4] (fun v3 i wi => ∃ (m : Nat) (l : List AskI) (us uv : List Value), i = .int .i64 (m : Int) ∧ m ≤ 24 ∧ l.length = m ∧ AskRow wi w.heap.size v3 l us uv ∧ Below w.heap.size w wi) (fun _ i _ => 24 - (intOf i).toNat)
          case atStart => exact ⟨0, [], [], [], rfl, by omega, rfl, AskRow.nil _ _, HBK.out⟩
          case round =>
            obtain ⟨wo, rfl⟩ : ∃ wo, wo = wr := ⟨_, rfl⟩
            obtain ⟨m, l, us, uv, rfl, hm, hlm, hA, hBi⟩ := hrel
            have HLM := Lib.hid hlm
            have HA := Lib.hid hA
            have HBI := Lib.hid hBi
            clear hlm hA hBi
            by_cases hltm : m < 24
            · obtain ⟨j, hj, hj4⟩ : ∃ j : Nat, (m : Int) % 4 = (j : Int) ∧ j < 4 := ⟨m % 4, by omega, by omega⟩
              have hba := balC wo (.cells #[.int .i64 ((m : Int) % 3), .int .i64 (((m : Int) + 1 + (m : Int) / 6) % 4), .int .i64 (2 - (j : Int))] 3)
              have HAL := Lib.hid (HA.out.below hba)
              have HOW := Lib.hid (show (wo.alloc (.cells #[.int .i64 ((m : Int) % 3), .int .i64 (((m : Int) + 1 + (m : Int) / 6) % 4), .int .i64 (2 - (j : Int))] 3)).ownsRow w.heap.size 34 5 u3 m us by have := HAL.out.1; rw [HLM.out] at this; exact this)
              have HLT := Lib.hid (show IntsAt (wo.alloc (.cells #[.int .i64 ((m : Int) % 3), .int .i64 (((m : Int) + 1 + (m : Int) / 6) % 4), .int .i64 (2 - (j : Int))] 3)) (.slice (some ⟨wo.heap.size, 0, none⟩) j 3) ([(m : Int) % 3, ((m : Int) + 1 + (m : Int) / 6) % 4, 2 - (j : Int)].take j) from lit_take wo [(m : Int) % 3, ((m : Int) + 1 + (m : Int) / 6) % 4, 2 - (j : Int)] j (by first | (simp; done) | (simp; omega)) 3 (by omega))
              have HUB := Lib.hid (show ∀ b, (Value.slice (some ⟨wo.heap.size, 0, none⟩) j 3).ownBlock = some b → b < (wo.alloc (.cells #[.int .i64 ((m : Int) % 3), .int .i64 (((m : Int) + 1 + (m : Int) / 6) % 4), .int .i64 (2 - (j : Int))] 3)).heap.size ∧ u3.ownBlock ≠ some b from fun b e => by
                have e2 := own_some e
                subst e2
                exact ⟨by simp, fun h => by have := (World.ownsRow.lt HA.out.1 _ h).2; omega⟩)
              have HBW := Lib.hid (show Below w.heap.size w (wo.alloc (.cells #[.int .i64 ((m : Int) % 3), .int .i64 (((m : Int) + 1 + (m : Int) / 6) % 4), .int .i64 (2 - (j : Int))] 3)) from HBI.out.alloc HBI.out.size _)
              have HSL := Lib.hid (show Value.slice (some ⟨wo.heap.size + 1, 0, none⟩) 1 1 = .slice (some ⟨(wo.alloc (.cells #[.int .i64 ((m : Int) % 3), .int .i64 (((m : Int) + 1 + (m : Int) / 6) % 4), .int .i64 (2 - (j : Int))] 3)).heap.size, 0, none⟩) 1 1 by simp)
              have HSB := Lib.hid (show w.heap.size ≤ (wo.alloc (.cells #[.int .i64 ((m : Int) % 3), .int .i64 (((m : Int) + 1 + (m : Int) / 6) % 4), .int .i64 (2 - (j : Int))] 3)).heap.size from HBW.out.size)
              clear hba
              go_wp2_with (at_builtin; refine app_el 22 34 5 56 (.agg #[.int .i64 0, .int .i64 0, .int .i64 0, .int .u8 0, .slice none 0 0]) Tryz.underlying22 infoAsk rfl (by decide) rfl _ _ rfl w.heap.size m u3 us rfl HOW.out [.int .i64 ((m : Int) % 5), .int .i64 ((j : Int) - 1 + (m : Int) / 20), .int .i64 ((m : Int) % 3), .int .u8 0, .slice (some ⟨wo.heap.size, 0, none⟩) j 3] rfl (by simp [Value.oneCell']) (by exact HSL.out) (by omega) HSB.out ?_; intro g8 c8 w8 hR8 hk8 hs8 hg8; refine Hid.out ?_)
              have HAP := Lib.hid (HAL.out.push (a := ⟨(m : Int) % 5, (j : Int) - 1 + (m : Int) / 20, (m : Int) % 3, 0, _⟩) HLT.out HUB.out (by show ([(m : Int) % 3, ((m : Int) + 1 + (m : Int) / 6) % 4, 2 - (j : Int)].take j).length ≤ 3; rw [List.length_take]; first | (simp; done) | (simp; omega)) (by rw [HLM.out]; exact hR8) hk8 (fun b e => by
                have e2 := own_some e
                subst e2
                exact hg8.imp id (fun q => Nat.le_of_lt q)))
              have HB8 := Lib.hid (HBW.out.trans (hk8.toBelow HBW.out.size (fun i hi => (World.ownsRow.lt HAL.out.1 i hi).1)))
              clear hR8 hk8 hs8 hg8
              refine Lib.hid ?_
              go_wp2
              go_roundw
              case rel => exact ⟨m + 1, _, _, _, by go_num, by omega, by rw [List.length_append, HLM.out]; rfl, HAP.out, HB8.out⟩
              case measure => simp [intOf]; omega
            · obtain rfl : m = 24 := by omega
              go_wp2_with fail
              refine (asks_any wo n k u3 l HA.out.asks (by have := HLM.out; omega) HA.out.bulk).mono ?_
              rintro e wx ⟨rfl, hbx⟩
              have HAX := Lib.hid (HA.out.below hbx)
              have HBX := Lib.hid (below_more HBI.out hbx HBI.out.size)
              clear hbx
              go_wp2_with fail
              refine (asks_any wx 6 k u3 l HAX.out.asks (by have := HLM.out; omega) HAX.out.bulk).mono ?_
              rintro e wy ⟨rfl, hby⟩
              have HBY := Lib.hid (below_more HBX.out hby HBX.out.size)
              clear hby
              go_wp2
              go_roundw
              case rel => exact ⟨k + 1, by go_num, by omega, by omega, HBY.out⟩
              case measure => simp [intOf]; omega
        · go_wp2
          go_roundw
          case rel => exact ⟨n + 1, by go_num, by omega, by omega, HBK.out⟩
          case measure => simp [intOf]; omega
    · have hn4 : n = 4 := by omega
      subst hn4
      go_wp2
      go_loopw [5] (fun i wk => ∃ r : Nat, i = .int .i64 (r : Int) ∧ 1 ≤ r ∧ r ≤ 5 ∧ Below w.heap.size w wk) (fun i _ => 5 - (intOf i).toNat)
      case atStart => exact ⟨1, rfl, by omega, by omega, HB.out⟩
      case round =>
        obtain ⟨r, rfl, hr1, hr5, hBk⟩ := hrel
        have HBK := Lib.hid hBk
        clear hBk
        by_cases hltk : (r : Int) < 5
        · go_wp2
          go_loopw [6] (fun i wk => ∃ t : Nat, i = .int .i64 (t : Int) ∧ t ≤ 6 ∧ Below w.heap.size w wk) (fun i _ => 6 - (intOf i).toNat)
          case atStart => exact ⟨0, rfl, by omega, HBK.out⟩
          case round =>
            obtain ⟨t, rfl, ht6, hBt⟩ := hrel
            have HBT := Lib.hid hBt
            clear hBt
            by_cases hltt : (t : Int) < 6
            · go_wp2
              go_loopw [7, 8] (fun v7 i wi => ∃ (m : Nat) (l : List AskI) (us uv : List Value), i = .int .i64 (m : Int) ∧ m ≤ 20 ∧ l.length = m ∧ AskRow wi w.heap.size v7 l us uv ∧ Below w.heap.size w wi) (fun _ i _ => 20 - (intOf i).toNat)
              case atStart => exact ⟨0, [], [], [], rfl, by omega, rfl, AskRow.nil _ _, HBT.out⟩
              case round =>
                obtain ⟨wo, rfl⟩ : ∃ wo, wo = wr := ⟨_, rfl⟩
                obtain ⟨m, l, us, uv, rfl, hm, hlm, hA, hBi⟩ := hrel
                have HLM := Lib.hid hlm
                have HA := Lib.hid hA
                have HBI := Lib.hid hBi
                clear hlm hA hBi
                by_cases hltm : m < 20
                · have n1 : (m : Int) * (1 + (t : Int)) ≤ 19 * 6 := Int.mul_le_mul (by omega) (by omega) (by omega) (by omega)
                  have n2 : (m : Int) * (m : Int) ≤ 19 * 19 := Int.mul_le_mul (by omega) (by omega) (by omega) (by omega)
                  have p1 : 0 ≤ (m : Int) * (1 + (t : Int)) := Int.mul_nonneg (by omega) (by omega)
                  have p2 : 0 ≤ (m : Int) * (m : Int) := Int.mul_nonneg (by omega) (by omega)
                  have n3 : (m : Int) * (m : Int) * (t : Int) ≤ 361 * 6 := Int.mul_le_mul (by omega) (by omega) (by omega) (by omega)
                  have p3 : 0 ≤ (m : Int) * (m : Int) * (t : Int) := Int.mul_nonneg p2 (by omega)
                  have w1 : IntKind.i64.wrap ((m : Int) * (1 + (t : Int))) = (m : Int) * (1 + (t : Int)) := IntWalk.i64_in _ (by omega)
                  have w2 : IntKind.i64.wrap ((m : Int) * (m : Int)) = (m : Int) * (m : Int) := IntWalk.i64_in _ (by omega)
                  have w3 : IntKind.i64.wrap ((m : Int) * (m : Int) * (t : Int)) = (m : Int) * (m : Int) * (t : Int) := IntWalk.i64_in _ (by omega)
                  have w4 : IntKind.i64.wrap ((m : Int) * (1 + (t : Int)) + (m : Int) * (m : Int) * (t : Int)) = (m : Int) * (1 + (t : Int)) + (m : Int) * (m : Int) * (t : Int) := IntWalk.i64_in _ (by omega)
                  have hba := balC wo (.cells #[.int .i64 (((m : Int) * (1 + (t : Int)) + (m : Int) * (m : Int) * (t : Int)) % ((r : Int) + 1))] 3)
                  have HAL := Lib.hid (HA.out.below hba)
                  have HOW := Lib.hid (show (wo.alloc (.cells #[.int .i64 (((m : Int) * (1 + (t : Int)) + (m : Int) * (m : Int) * (t : Int)) % ((r : Int) + 1))] 3)).ownsRow w.heap.size 34 5 u7 m us by have := HAL.out.1; rw [HLM.out] at this; exact this)
                  have HLT := Lib.hid (show IntsAt (wo.alloc (.cells #[.int .i64 (((m : Int) * (1 + (t : Int)) + (m : Int) * (m : Int) * (t : Int)) % ((r : Int) + 1))] 3)) (.slice (some ⟨wo.heap.size, 0, none⟩) 1 1) ([((m : Int) * (1 + (t : Int)) + (m : Int) * (m : Int) * (t : Int)) % ((r : Int) + 1)].take 1) from lit_take wo [((m : Int) * (1 + (t : Int)) + (m : Int) * (m : Int) * (t : Int)) % ((r : Int) + 1)] 1 (by first | (simp; done) | (simp; omega)) 1 (by omega))
                  have HUB := Lib.hid (show ∀ b, (Value.slice (some ⟨wo.heap.size, 0, none⟩) 1 1).ownBlock = some b → b < (wo.alloc (.cells #[.int .i64 (((m : Int) * (1 + (t : Int)) + (m : Int) * (m : Int) * (t : Int)) % ((r : Int) + 1))] 3)).heap.size ∧ u7.ownBlock ≠ some b from fun b e => by
                    have e2 := own_some e
                    subst e2
                    exact ⟨by simp, fun h => by have := (World.ownsRow.lt HA.out.1 _ h).2; omega⟩)
                  have HBW := Lib.hid (show Below w.heap.size w (wo.alloc (.cells #[.int .i64 (((m : Int) * (1 + (t : Int)) + (m : Int) * (m : Int) * (t : Int)) % ((r : Int) + 1))] 3)) from HBI.out.alloc HBI.out.size _)
                  have HSL := Lib.hid (show Value.slice (some ⟨wo.heap.size + 1, 0, none⟩) 1 1 = .slice (some ⟨(wo.alloc (.cells #[.int .i64 (((m : Int) * (1 + (t : Int)) + (m : Int) * (m : Int) * (t : Int)) % ((r : Int) + 1))] 3)).heap.size, 0, none⟩) 1 1 by simp)
                  have HSB := Lib.hid (show w.heap.size ≤ (wo.alloc (.cells #[.int .i64 (((m : Int) * (1 + (t : Int)) + (m : Int) * (m : Int) * (t : Int)) % ((r : Int) + 1))] 3)).heap.size from HBW.out.size)
                  clear hba
                  clear n1 n2 n3 p2
                  go_wp2_with (at_builtin; refine app_el 22 34 5 56 (.agg #[.int .i64 0, .int .i64 0, .int .i64 0, .int .u8 0, .slice none 0 0]) Tryz.underlying22 infoAsk rfl (by decide) rfl _ _ rfl w.heap.size m u7 us rfl HOW.out [.int .i64 ((m : Int) / 9), .int .i64 1, .int .i64 1, .int .u8 0, .slice (some ⟨wo.heap.size, 0, none⟩) 1 1] rfl (by simp [Value.oneCell']) (by exact HSL.out) (by omega) HSB.out ?_; intro g8 c8 w8 hR8 hk8 hs8 hg8; refine Hid.out ?_)
                  have HAP := Lib.hid (HAL.out.push (a := ⟨(m : Int) / 9, 1, 1, 0, _⟩) HLT.out HUB.out (by show ([((m : Int) * (1 + (t : Int)) + (m : Int) * (m : Int) * (t : Int)) % ((r : Int) + 1)].take 1).length ≤ 3; rw [List.length_take]; first | (simp; done) | (simp; omega)) (by rw [HLM.out]; exact hR8) hk8 (fun b e => by
                    have e2 := own_some e
                    subst e2
                    exact hg8.imp id (fun q => Nat.le_of_lt q)))
                  have HB8 := Lib.hid (HBW.out.trans (hk8.toBelow HBW.out.size (fun i hi => (World.ownsRow.lt HAL.out.1 i hi).1)))
                  clear hR8 hk8 hs8 hg8
                  refine Lib.hid ?_
                  go_wp2
                  go_roundw
                  case rel => exact ⟨m + 1, _, _, _, by go_num, by omega, by rw [List.length_append, HLM.out]; rfl, HAP.out, HB8.out⟩
                  case measure => simp [intOf]; omega
                · obtain rfl : m = 20 := by omega
                  go_wp2_with fail
                  refine (asks_any wo 8 r u7 l HA.out.asks (by have := HLM.out; omega) HA.out.bulk).mono ?_
                  rintro e wx ⟨rfl, hbx⟩
                  have HBX := Lib.hid (below_more HBI.out hbx HBI.out.size)
                  clear hbx
                  go_wp2
                  go_roundw
                  case rel => exact ⟨t + 1, by go_num, by omega, HBX.out⟩
                  case measure => simp [intOf]; omega
            · go_wp2
              go_roundw
              case rel => exact ⟨r + 1, by go_num, by omega, by omega, HBT.out⟩
              case measure => simp [intOf]; omega
        · have HE := Lib.hid (endsA_at wr)
          have HBE := Lib.hid (show Below w.heap.size w (wr.alloc (.cells #[.int .i64 255, .int .i64 64, .int .i64 256, .int .i64 1, .int .i64 1, .int .i64 65, .int .i64 0, .int .i64 1, .int .i64 1, .int .i64 0, .int .i64 (-1), .int .i64 5] 55)) from HBK.out.alloc HBK.out.size _)
          have HGE := Lib.hid (show wr.heap.size < (wr.alloc (.cells #[.int .i64 255, .int .i64 64, .int .i64 256, .int .i64 1, .int .i64 1, .int .i64 65, .int .i64 0, .int .i64 1, .int .i64 1, .int .i64 0, .int .i64 (-1), .int .i64 5] 55)).heap.size by simp)
          go_wp2
          generalize wr.alloc (.cells #[.int .i64 255, .int .i64 64, .int .i64 256, .int .i64 1, .int .i64 1, .int .i64 65, .int .i64 0, .int .i64 1, .int .i64 1, .int .i64 0, .int .i64 (-1), .int .i64 5] 55) = we at *
          generalize wr.heap.size = ge at *
          go_loopw [10, 11, 12] (fun i _ _ wk => ∃ m : Nat, m ≤ 6 ∧ i = .int .i64 (m : Int) ∧ Below we.heap.size we wk) (fun i _ _ _ => 6 - (intOf i).toNat)
          case atStart => exact ⟨0, by omega, rfl, Below.refl _ _⟩
          case round =>
            obtain ⟨w9, rfl⟩ : ∃ wo, wo = wr := ⟨_, rfl⟩
            obtain ⟨m, hm, rfl, hB⟩ := hrel
            have HBM := Lib.hid hB
            clear hB
            by_cases hlt6 : m < 6
            · have HC0 := Lib.hid ((HBM.out.cell (p := ⟨ge, m * 2, none⟩) HGE.out).trans (HE.out (m * 2) (by omega)))
              have HC1 := Lib.hid ((HBM.out.cell (p := ⟨ge, m * 2 + 1, none⟩) HGE.out).trans (HE.out (m * 2 + 1) (by omega)))
              have HGE := Lib.hid (show ge < w9.heap.size from Nat.lt_of_lt_of_le HGE.out HBM.out.size)
              have HKD := Lib.hid (show Below w9.heap.size w9 w9.drew from drewBelow w9 1)
              go_wp2_with fail
              refine s_start 16 (fun w' => Below w9.heap.size w9 w') (by as_aux_lemma => kernel_rfl) (by as_aux_lemma => kernel_rfl) HKD.out ?_
              refine s_take 0 (by as_aux_lemma => kernel_rfl) (by as_aux_lemma => kernel_rfl) (by as_aux_lemma => kernel_rfl) (by as_aux_lemma => kernel_rfl) HKD.out (fun oi ho => ?_)
              simp only [List.getElem?_toArray, List.getElem?_cons_succ, List.getElem?_cons_zero, Option.some.injEq] at ho
              subst ho
              refine ⟨?_, Or.inl ⟨by rfl, fun w _ => ?_⟩, ?_⟩
              rotate_left
              · (go_simp <;> with_reducible rfl)
              try simp only [Act.put, List.setIfInBounds_toArray, List.set_cons_zero, List.set_cons_succ]
              refine s_take 1 (by as_aux_lemma => kernel_rfl) (by as_aux_lemma => kernel_rfl) (by as_aux_lemma => kernel_rfl) (by as_aux_lemma => kernel_rfl) HKD.out (fun oi ho => ?_)
              simp only [List.getElem?_toArray, List.getElem?_cons_succ, List.getElem?_cons_zero, Option.some.injEq] at ho
              subst ho
              refine ⟨?_, Or.inl ⟨by rfl, fun w _ => ?_⟩, ?_⟩
              rotate_left
              · (go_simp <;> with_reducible rfl)
              try simp only [Act.put, List.setIfInBounds_toArray, List.set_cons_zero, List.set_cons_succ]
              refine s_take 2 (by as_aux_lemma => kernel_rfl) (by as_aux_lemma => kernel_rfl) (by as_aux_lemma => kernel_rfl) (by as_aux_lemma => kernel_rfl) HKD.out (fun oi ho => ?_)
              simp only [List.getElem?_toArray, List.getElem?_cons_succ, List.getElem?_cons_zero, Option.some.injEq] at ho
              subst ho
              refine ⟨?_, Or.inl ⟨by rfl, fun w _ => ?_⟩, ?_⟩
              rotate_left
              · (go_simp <;> with_reducible rfl)
              try simp only [Act.put, List.setIfInBounds_toArray, List.set_cons_zero, List.set_cons_succ]
              refine s_take 3 (by as_aux_lemma => kernel_rfl) (by as_aux_lemma => kernel_rfl) (by as_aux_lemma => kernel_rfl) (by as_aux_lemma => kernel_rfl) HKD.out (fun oi ho => ?_)
              simp only [List.getElem?_toArray, List.getElem?_cons_succ, List.getElem?_cons_zero, Option.some.injEq] at ho
              subst ho
              refine ⟨?_, Or.inl ⟨by rfl, fun w _ => ?_⟩, ?_⟩
              rotate_left
              · (go_simp <;> with_reducible rfl)
              try simp only [Act.put, List.setIfInBounds_toArray, List.set_cons_zero, List.set_cons_succ]
              refine s_take 4 (by as_aux_lemma => kernel_rfl) (by as_aux_lemma => kernel_rfl) (by as_aux_lemma => kernel_rfl) (by as_aux_lemma => kernel_rfl) HKD.out (fun oi ho => ?_)
              simp only [List.getElem?_toArray, List.getElem?_cons_succ, List.getElem?_cons_zero, Option.some.injEq] at ho
              subst ho
              refine ⟨.int .i64 (endsA (m * 2)), Or.inl ⟨by rfl, fun w' hS' => ?_⟩, ?_⟩
              · have q := (hS'.cell (p := ⟨ge, m * 2, none⟩) HGE.out).trans HC0.out
                (go_simp <;> with_reducible rfl)
              try simp only [Act.put, List.setIfInBounds_toArray, List.set_cons_zero, List.set_cons_succ]
              refine s_take 5 (by as_aux_lemma => kernel_rfl) (by as_aux_lemma => kernel_rfl) (by as_aux_lemma => kernel_rfl) (by as_aux_lemma => kernel_rfl) HKD.out (fun oi ho => ?_)
              simp only [List.getElem?_toArray, List.getElem?_cons_succ, List.getElem?_cons_zero, Option.some.injEq] at ho
              subst ho
              refine ⟨?_, Or.inl ⟨by rfl, fun w _ => ?_⟩, ?_⟩
              rotate_left
              · (go_simp <;> with_reducible rfl)
              try simp only [Act.put, List.setIfInBounds_toArray, List.set_cons_zero, List.set_cons_succ]
              refine s_take 6 (by as_aux_lemma => kernel_rfl) (by as_aux_lemma => kernel_rfl) (by as_aux_lemma => kernel_rfl) (by as_aux_lemma => kernel_rfl) HKD.out (fun oi ho => ?_)
              simp only [List.getElem?_toArray, List.getElem?_cons_succ, List.getElem?_cons_zero, Option.some.injEq] at ho
              subst ho
              refine ⟨?_, Or.inl ⟨by rfl, fun w _ => ?_⟩, ?_⟩
              rotate_left
              · (go_simp <;> with_reducible rfl)
              try simp only [Act.put, List.setIfInBounds_toArray, List.set_cons_zero, List.set_cons_succ]
              refine s_take 7 (by as_aux_lemma => kernel_rfl) (by as_aux_lemma => kernel_rfl) (by as_aux_lemma => kernel_rfl) (by as_aux_lemma => kernel_rfl) HKD.out (fun oi ho => ?_)
              simp only [List.getElem?_toArray, List.getElem?_cons_succ, List.getElem?_cons_zero, Option.some.injEq] at ho
              subst ho
              refine ⟨?_, Or.inl ⟨by rfl, fun w _ => ?_⟩, ?_⟩
              rotate_left
              · (go_simp <;> with_reducible rfl)
              try simp only [Act.put, List.setIfInBounds_toArray, List.set_cons_zero, List.set_cons_succ]
              refine s_take 8 (by as_aux_lemma => kernel_rfl) (by as_aux_lemma => kernel_rfl) (by as_aux_lemma => kernel_rfl) (by as_aux_lemma => kernel_rfl) HKD.out (fun oi ho => ?_)
              simp only [List.getElem?_toArray, List.getElem?_cons_succ, List.getElem?_cons_zero, Option.some.injEq] at ho
              subst ho
              refine ⟨?_, Or.inl ⟨by rfl, fun w _ => ?_⟩, ?_⟩
              rotate_left
              · (go_simp <;> with_reducible rfl)
              try simp only [Act.put, List.setIfInBounds_toArray, List.set_cons_zero, List.set_cons_succ]
              refine s_take 9 (by as_aux_lemma => kernel_rfl) (by as_aux_lemma => kernel_rfl) (by as_aux_lemma => kernel_rfl) (by as_aux_lemma => kernel_rfl) HKD.out (fun oi ho => ?_)
              simp only [List.getElem?_toArray, List.getElem?_cons_succ, List.getElem?_cons_zero, Option.some.injEq] at ho
              subst ho
              refine ⟨.int .i64 (endsA (m * 2 + 1)), Or.inl ⟨by rfl, fun w' hS' => ?_⟩, ?_⟩
              · have q := (hS'.cell (p := ⟨ge, m * 2 + 1, none⟩) HGE.out).trans HC1.out
                (go_simp <;> with_reducible rfl)
              try simp only [Act.put, List.setIfInBounds_toArray, List.set_cons_zero, List.set_cons_succ]
              refine s_all (rs := [10]) (by as_aux_lemma => kernel_rfl) (by simp) ?_
              refine s_step 10 (by as_aux_lemma => kernel_rfl) (fun o ho K hK => ?_) AllReadyH.nil
              simp only [List.getElem?_toArray, List.getElem?_cons_succ, List.getElem?_cons_zero, Option.some.injEq] at ho
              subst ho
              go_simp
              refine (new_ends w9.drew m hlt6).mono ?_
              rintro e wa ⟨vn, er, rfl, her, hba⟩
              have HER := Lib.hid her
              have HKA := Lib.hid (below_more HKD.out hba HKD.out.size)
              clear her hba
              go_wp2_with fail
              refine hK.out _ _ HKA.out ?_
              clear hK K
              try simp only [Act.put, List.setIfInBounds_toArray, List.set_cons_zero, List.set_cons_succ]
              refine s_take 11 (by as_aux_lemma => kernel_rfl) (by as_aux_lemma => kernel_rfl) (by as_aux_lemma => kernel_rfl) (by as_aux_lemma => kernel_rfl) HKA.out (fun oi ho => ?_)
              simp only [List.getElem?_toArray, List.getElem?_cons_succ, List.getElem?_cons_zero, Option.some.injEq] at ho
              subst ho
              refine ⟨?_, Or.inl ⟨by rfl, fun w _ => ?_⟩, ?_⟩
              rotate_left
              · (go_simp <;> with_reducible rfl)
              try simp only [Act.put, List.setIfInBounds_toArray, List.set_cons_zero, List.set_cons_succ]
              refine s_take 12 (by as_aux_lemma => kernel_rfl) (by as_aux_lemma => kernel_rfl) (by as_aux_lemma => kernel_rfl) (by as_aux_lemma => kernel_rfl) HKA.out (fun oi ho => ?_)
              simp only [List.getElem?_toArray, List.getElem?_cons_succ, List.getElem?_cons_zero, Option.some.injEq] at ho
              subst ho
              refine ⟨?_, Or.inl ⟨by rfl, fun w _ => ?_⟩, ?_⟩
              rotate_left
              · (go_simp <;> with_reducible rfl)
              try simp only [Act.put, List.setIfInBounds_toArray, List.set_cons_zero, List.set_cons_succ]
              refine s_take 13 (by as_aux_lemma => kernel_rfl) (by as_aux_lemma => kernel_rfl) (by as_aux_lemma => kernel_rfl) (by as_aux_lemma => kernel_rfl) HKA.out (fun oi ho => ?_)
              simp only [List.getElem?_toArray, List.getElem?_cons_succ, List.getElem?_cons_zero, Option.some.injEq] at ho
              subst ho
              refine ⟨?_, Or.inl ⟨by rfl, fun w _ => ?_⟩, ?_⟩
              rotate_left
              · (go_simp <;> with_reducible rfl)
              try simp only [Act.put, List.setIfInBounds_toArray, List.set_cons_zero, List.set_cons_succ]
              refine s_take 14 (by as_aux_lemma => kernel_rfl) (by as_aux_lemma => kernel_rfl) (by as_aux_lemma => kernel_rfl) (by as_aux_lemma => kernel_rfl) HKA.out (fun oi ho => ?_)
              simp only [List.getElem?_toArray, List.getElem?_cons_succ, List.getElem?_cons_zero, Option.some.injEq] at ho
              subst ho
              refine ⟨?_, Or.inl ⟨by rfl, fun w _ => ?_⟩, ?_⟩
              rotate_left
              · (go_simp <;> with_reducible rfl)
              try simp only [Act.put, List.setIfInBounds_toArray, List.set_cons_zero, List.set_cons_succ]
              refine s_take 15 (by as_aux_lemma => kernel_rfl) (by as_aux_lemma => kernel_rfl) (by as_aux_lemma => kernel_rfl) (by as_aux_lemma => kernel_rfl) HKA.out (fun oi ho => ?_)
              simp only [List.getElem?_toArray, List.getElem?_cons_succ, List.getElem?_cons_zero, Option.some.injEq] at ho
              subst ho
              refine ⟨?_, Or.inl ⟨by rfl, fun w _ => ?_⟩, ?_⟩
              rotate_left
              · (go_simp <;> with_reducible rfl)
              try simp only [Act.put, List.setIfInBounds_toArray, List.set_cons_zero, List.set_cons_succ]
              refine s_done (by as_aux_lemma => kernel_rfl) ?_
              rcases HER.out with ⟨rfl, rfl⟩ | ⟨hm0, rfl⟩
              · go_wp2
                go_roundw
                case rel => exact ⟨1, by omega, rfl, below_more HBM.out HKA.out HBM.out.size⟩
                case measure => simp [intOf]
              · have hb : ((m : Int) == 0) = false := by simp; omega
                go_wp2
                go_roundw
                case rel => exact ⟨m + 1, by omega, by go_num, below_more HBM.out HKA.out HBM.out.size⟩
                case measure => simp [intOf]; omega
            · obtain rfl : m = 6 := by omega
              go_wp2_with fail
              refine (cnone_any w9).mono ?_
              rintro e wx ⟨rfl, hbx⟩
              have HBX := Lib.hid (below_more (below_more HBE.out HBM.out HBE.out.size) hbx (Nat.le_trans HBE.out.size HBM.out.size))
              clear hbx
              go_wp2_with fail
              refine (awake_any wx).mono ?_
              rintro e wy ⟨rfl, hby⟩
              have HBY := Lib.hid (below_more HBX.out hby HBX.out.size)
              clear hby
              go_wp2
              go_ret
              exact ⟨rfl, HBY.out⟩
end Go.Proofs.YtlmpagicjgldkaaGreat
