/-
  HistExact's walk.
-/
import Derived.Test.YtacbmpffpfaciaaHistI
namespace Go.Proofs.Ytacbmpffpfaciaa
open Go.RowKit Go.Maps Go.Shelf Go.Sort

set_option maxRecDepth 100000
set_option maxHeartbeats 4000000

theorem exact_long (w : World) (n : Int) (p : Option Addr) (len cap : Nat) (hl : 300 < len) (_hl2 : len ≤ maxLen) :
    Calls Try.prog 3 #[.int .i64 n, .slice p len cap] w fun e w' => e = .returned (.bool true) ∧ Below w.heap.size w w' := by
  go_enter Try.func3, Try.ntmps3
  go_wp2_with fail
  refine (awake_any _).mono ?_
  rintro e w1 ⟨rfl, hb1⟩
  go_wp2
  go_ret
  exact ⟨rfl, hb1⟩

theorem exact_bad (w : World) (n : Int) (p : Option Addr) (len cap : Nat) (hl : len ≤ 300) (hn : n < 1 ∨ 255 < n) :
    Calls Try.prog 3 #[.int .i64 n, .slice p len cap] w fun e w' => e = .returned (.bool true) ∧ Below w.heap.size w w' := by
  have HN := Lib.hid hn
  clear hn
  go_enter Try.func3, Try.ntmps3
  go_wp2_with fail
  refine (awake_any _).mono ?_
  rintro e w1 ⟨rfl, hb1⟩
  go_wp2_with fail
  refine (new_no _ n HN.out).mono ?_
  rintro e w2 ⟨rfl, rfl⟩
  go_wp2_with fail
  refine (new_no _ n HN.out).mono ?_
  rintro e w2 ⟨rfl, rfl⟩
  go_wp2
  go_ret
  exact ⟨rfl, hb1⟩

theorem exact_good (w : World) (n : Nat) (h1 : 1 ≤ n) (h2 : n ≤ 255) (p : Option Addr) (xs : List Int) (cap : Nat) (hl : xs.length ≤ 300)
    (hp : 0 < xs.length → ∃ g off, p = some ⟨g, off, none⟩ ∧ g < w.heap.size ∧ ∀ j x, xs[j]? = some x → w.cell? ⟨g, off + j, none⟩ = some (.int .i64 x)) :
    Calls Try.prog 3 #[.int .i64 (n : Int), .slice p xs.length cap] w fun e w' => e = .returned (.bool true) ∧ Below w.heap.size w w' := by
  have HP := Lib.hid hp
  clear hp
  go_enter Try.func3, Try.ntmps3
  go_wp2_with fail
  refine (awake_any _).mono ?_
  rintro e w1 ⟨rfl, hb1⟩
  go_wp2_with fail
  refine (new_hist _ n h1 h2).mono ?_
  rintro e w2 ⟨rfl, hh2, hb2⟩
  have H2 := Lib.hid hh2
  clear hh2
  go_wp2_with fail
  refine (new_hist _ n h1 h2).mono ?_
  rintro e w3 ⟨rfl, hh3, hb3⟩
  have H3 := Lib.hid (And.intro hh3 (H2.out.kept (Kept.below hb3) (fun h => h) (fun h => h)))
  clear hh3
  have s1 := hb1.size
  have s2 := hb2.size
  have s3 := hb3.size
  have s4 : w1.heap.size + 1 < w2.heap.size := H2.out.lt
  go_wp2_with fail
  go_loopw [9, 10, 11] (fun all i _ wr => ∃ k : Nat, k ≤ xs.length ∧ i = .int .i64 k ∧ all = .int .i64 (framesOf n (tallyOf n (xs.take k))) ∧ HistAt wr (w1.heap.size + 1) w1.heap.size n (tallyOf n (xs.take k)) ∧ Kept (fun i => i = w1.heap.size) w3 wr) (fun _ i _ _ => xs.length - (intOf i).toNat)
  case atStart => exact ⟨0, Nat.zero_le _, rfl, by rw [List.take_zero, tallyOf_nil, framesOf_empty], by rw [List.take_zero, tallyOf_nil]; exact H3.out.2, Kept.refl _ _⟩
  case round =>
    obtain ⟨k, hk, rfl, rfl, hh, hK⟩ := hrel
    have HH := Lib.hid hh
    clear hh
    by_cases hlt : k < xs.length
    · obtain ⟨g, off, rfl, hg, hcs⟩ := HP.out (by omega)
      obtain ⟨x, hx⟩ : ∃ x, xs[k]? = some x := ⟨_, List.getElem?_eq_getElem hlt⟩
      have hcell : wr.cell? ⟨g, off + k, none⟩ = some (.int .i64 x) := by
        rw [hK.cell (p := ⟨g, off + k, none⟩) (by simp only; omega) (by simp only; omega), hb3.cell (p := ⟨g, off + k, none⟩) (by simp only; omega), hb2.cell (p := ⟨g, off + k, none⟩) (by simp only; omega), hb1.cell (p := ⟨g, off + k, none⟩) hg]
        exact hcs k x hx
      have HX := Lib.hid hx
      have hfb := framesOf_tally_le n (xs.take k)
      have hfl : (xs.take k).length ≤ 300 := by rw [List.length_take]; omega
      clear hx hcs
      by_cases hin : 1 ≤ x ∧ x ≤ n
      · obtain ⟨hi1, hi2⟩ := hin
        go_wp2_with fail
        refine (add_ok _ _ _ _ _ HH.out x hi1 hi2 (fun j => by have := (tallyOf_le n (xs.take k) j).2; omega)).mono ?_
        rintro e w5 ⟨rfl, hh5, hk5⟩
        have HH5 := Lib.hid hh5
        clear hh5
        have hcell5 : w5.cell? ⟨g, off + k, none⟩ = some (.int .i64 x) := (hk5.cell (p := ⟨g, off + k, none⟩) (by have := hK.size; simp only; omega) (by simp only; omega)).trans hcell
        go_wp2
        have hTn : tallyOf n (xs.take (k + 1)) = upd (tallyOf n (xs.take k)) x 1 := by rw [List.take_add_one, HX.out, Option.toList_some, tallyOf_in hi1 hi2]
        go_roundw
        case rel => exact ⟨k + 1, by omega, by go_num, by rw [hTn, framesOf_upd hi1 hi2], by rw [hTn]; exact HH5.out, hK.trans hk5 (fun _ _ h => h)⟩
        case measure => simp [intOf]; omega
      · have hin' : x < 1 ∨ (n : Int) < x := by omega
        have HIN := Lib.hid hin
        have hTn := Lib.hid (show tallyOf n (xs.take (k + 1)) = tallyOf n (xs.take k) by rw [List.take_add_one, HX.out, Option.toList_some, tallyOf_out hin])
        clear hin
        go_wp2_with fail
        refine (add_odd _ _ _ _ _ HH.out x hin').mono ?_
        rintro e w5 ⟨rfl, hk5⟩
        have HH5 := Lib.hid (HH.out.kept hk5 (fun h => h) (fun h => h))
        have hcell5 : w5.cell? ⟨g, off + k, none⟩ = some (.int .i64 x) := (hk5.cell (p := ⟨g, off + k, none⟩) (by have := hK.size; simp only; omega) (fun h => h)).trans hcell
        rcases hin' with hx1 | hx2
        · go_wp2
          go_roundw
          case rel => exact ⟨k + 1, by omega, by go_num, by rw [hTn.out], by rw [hTn.out]; exact HH5.out, hK.trans hk5 (fun _ _ h => h.elim)⟩
          case measure => simp [intOf]; omega
        · have hx1 : 1 ≤ x := by omega
          go_wp2
          go_roundw
          case rel => exact ⟨k + 1, by omega, by go_num, by rw [hTn.out], by rw [hTn.out]; exact HH5.out, hK.trans hk5 (fun _ _ h => h.elim)⟩
          case measure => simp [intOf]; omega
    · obtain rfl : k = xs.length := by omega
      have HH1 : Hid (HistAt wr (w1.heap.size + 1) w1.heap.size n (tallyOf n xs)) := Lib.hid (by have := HH.out; rwa [List.take_length] at this)
      have e0 : (xs.take xs.length) = xs := List.take_length
      have HO : Hid (HistAt wr (w2.heap.size + 1) w2.heap.size n emptyF) := Lib.hid (H3.out.1.kept hK (by show ¬ _ = _; omega) (by show ¬ _ = _; omega))
      rw [e0]
      have hB0 : Below w.heap.size w wr := (((hb1.trans (hb2.mono s1)).trans (hb3.mono (by omega)))).trans (hK.toBelow (by omega) (fun i (h : i = _) => by omega))
      have HB0 := Lib.hid hB0
      clear HH e0 hB0
      have hfr := framesOf_tally_le n xs
      go_wp2_with fail
      refine (counts_any _ _ _ _ _ HH1.out).mono ?_
      rintro e w5 ⟨v, rfl, hr5, hn5, hb5⟩
      obtain ⟨p2, cap2, rfl⟩ := (countsAt_of_row hr5).shape
      have hk5 : Kept (fun _ => False) wr w5 := Kept.below hb5
      have HH5 := Lib.hid (HH1.out.kept hk5 (fun h => h) (fun h => h))
      have HO5 := Lib.hid (HO.out.kept hk5 (fun h => h) (fun h => h))
      have HB5 := Lib.hid (HB0.out.trans (hb5.mono HB0.out.size))
      have HR5 := Lib.hid hr5
      have hle := countsOf_length_le n (tallyOf n xs)
      have HG := Lib.hid HH1.out.good
      have HC5 := Lib.hid (countsAt_of_row hr5)
      have HP5 : Hid (0 < xs.length → ∃ g off, p = some ⟨g, off, none⟩ ∧ g < w5.heap.size ∧ ∀ j x, xs[j]? = some x → w5.cell? ⟨g, off + j, none⟩ = some (.int .i64 x)) := Lib.hid (by
        intro h0
        obtain ⟨g, off, e, hg, hh⟩ := HP.out h0
        exact ⟨g, off, e, Nat.lt_of_lt_of_le hg HB5.out.size, fun j x hj => (HB5.out.cell (p := ⟨g, off + j, none⟩) hg).trans (hh j x hj)⟩)
      clear hr5 hn5 hb5 hK
      obtain ⟨cs, hcs⟩ : ∃ cs, countsOf n (tallyOf n xs) = cs := ⟨_, rfl⟩
      rw [hcs] at HR5 HC5 hle ⊢
      have HCS := Lib.hid hcs
      have HTA : Hid (timesIn cs = framesOf n (tallyOf n xs)) := Lib.hid (by
        rw [← hcs]
        exact timesIn_counts HG.out (fun k => by have := (tallyOf_le n xs k).2; omega))
      have HTB : Hid (∀ m, 0 ≤ timesIn (cs.take m) ∧ timesIn (cs.take m) ≤ 300) := Lib.hid (by
        intro m
        have hp : ∀ c ∈ cs, 0 ≤ c.2 := by
          intro c hc
          rw [← hcs] at hc
          have := countsOf_mem hc
          omega
        have t1 := timesIn_pos (cs.take m) (fun c hc => hp c (List.mem_of_mem_take hc))
        have t2 := timesIn_take_le cs hp m
        have := HTA.out
        omega)
      clear hcs
      go_wp2_with fail
      go_loopw [13, 14, 15, 16] (fun told i _ _ wq => ∃ m : Nat, m ≤ cs.length ∧ i = .int .i64 m ∧ told = .int .i64 (timesIn (cs.take m)) ∧ Below w5.heap.size w5 wq) (fun _ i _ _ _ => cs.length - (intOf i).toNat)
      case atStart => exact ⟨0, Nat.zero_le _, rfl, by simp [timesIn], Below.refl _ _⟩
      case round =>
        obtain ⟨m, hm, rfl, rfl, hBq⟩ := hrel
        by_cases hlt : m < cs.length
        · obtain ⟨c, hc⟩ : ∃ c, cs[m]? = some c := ⟨_, List.getElem?_eq_getElem hlt⟩
          have hcm : c ∈ countsOf n (tallyOf n xs) := by rw [HCS.out]; exact List.mem_of_getElem? hc
          obtain ⟨⟨hc1, hc2⟩, hc3, hc4⟩ := countsOf_mem hcm
          have hcnt : ((xs.count c.1 : Nat) : Int) = c.2 := by
            have e : tallyOf n xs c.1 = (xs.count c.1 : Int) := by unfold tallyOf; rw [if_pos ⟨hc1, hc2⟩]
            have := List.count_le_length (l := xs) (a := c.1)
            rw [hc4, e]; omega
          have hc0 : 0 < c.2 := by omega
          have hc9 : c.2 ≤ 300 := by have := List.count_le_length (l := xs) (a := c.1); omega
          have HCNT := Lib.hid hcnt
          have HCM := Lib.hid hc
          clear hcm hc3 hc4 hcnt hc
          rcases HC5.out with ⟨e1, e2⟩ | ⟨g2, o2, cap3, e1, hg2, hh2⟩
          · rw [e2] at hlt; exact absurd hlt (by simp)
          · obtain ⟨rfl, _, rfl⟩ : p2 = some ⟨g2, o2, none⟩ ∧ True ∧ cap2 = cap3 := by simpa using e1
            have HH2 := Lib.hid hh2
            clear e1 hh2
            have d1 := (hBq.cell (p := ⟨g2, o2 + m * 2, none⟩) hg2).trans (HH2.out m c HCM.out).1
            have d2 := (hBq.cell (p := ⟨g2, o2 + m * 2 + 1, none⟩) hg2).trans (HH2.out m c HCM.out).2
            obtain ⟨wo, rfl⟩ : ∃ wo : World, wo = wr := ⟨_, rfl⟩
            go_wp2_with fail
            go_loopw [15, 16] (fun times k wz => ∃ k' : Nat, k' ≤ xs.length ∧ k = .int .i64 k' ∧ times = .int .i64 (((xs.take k').count c.1 : Nat) : Int) ∧ Below w5.heap.size w5 wz) (fun _ k _ => xs.length - (intOf k).toNat)
            case atStart => exact ⟨0, Nat.zero_le _, rfl, by simp, hBq⟩
            case round =>
              obtain ⟨k', hk', rfl, rfl, hBz⟩ := hrel
              have e1 := (hBz.cell (p := ⟨g2, o2 + m * 2, none⟩) hg2).trans (HH2.out m c HCM.out).1
              have e2 := (hBz.cell (p := ⟨g2, o2 + m * 2 + 1, none⟩) hg2).trans (HH2.out m c HCM.out).2
              have hct : (xs.take k').count c.1 ≤ 300 := by
                have := List.count_le_length (l := xs.take k') (a := c.1)
                rw [List.length_take] at this
                omega
              clear d1 d2
              by_cases hlk : k' < xs.length
              · obtain ⟨g, off, rfl, hg, hh⟩ := HP5.out (by omega)
                obtain ⟨x, hx⟩ : ∃ x, xs[k']? = some x := ⟨_, List.getElem?_eq_getElem hlk⟩
                have e3 := (hBz.cell (p := ⟨g, off + k', none⟩) hg).trans (hh k' x hx)
                have HX := Lib.hid hx
                clear hh hx
                by_cases hxc : x = c.1
                · have hxb : (x == c.1) = true := by simpa using hxc
                  have HXC := Lib.hid hxc
                  clear hxc
                  go_wp2_with fail
                  go_quiet (fail)
                  go_wp2
                  go_roundw
                  case rel => exact ⟨k' + 1, by omega, by go_num, by rw [List.take_add_one, HX.out, List.count_append]; simp [HXC.out], ⟨hBz.os, hBz.tape, hBz.output, hBz.size, hBz.block⟩⟩
                  case measure => simp [intOf]; omega
                · have hxb : (x == c.1) = false := by simpa using hxc
                  have HXC := Lib.hid hxc
                  clear hxc
                  go_wp2_with fail
                  go_quiet (fail)
                  go_wp2
                  go_roundw
                  case rel => exact ⟨k' + 1, by omega, by go_num, by rw [List.take_add_one, HX.out, List.count_append]; simp [HXC.out], ⟨hBz.os, hBz.tape, hBz.output, hBz.size, hBz.block⟩⟩
                  case measure => simp [intOf]; omega
              · obtain rfl : k' = xs.length := by omega
                have e5 : ((((xs.take xs.length).count c.1 : Nat)) : Int) = c.2 := by rw [List.take_length]; exact HCNT.out
                rw [e5]
                clear e5 hct
                have hz : (c.2 == 0) = false := by simp; omega
                have htk : timesIn (cs.take (m + 1)) = timesIn (cs.take m) + c.2 := by rw [List.take_add_one, HCM.out, Option.toList_some, timesIn_snoc]
                have hb1 := HTB.out m
                have HTK := Lib.hid htk
                clear htk
                rcases m with _ | m
                · have t0 : timesIn (cs.take 0) = 0 := by simp [timesIn]
                  rw [t0] at hb1 HTK ⊢
                  clear t0
                  go_wp2_with fail
                  go_quiet (fail)
                  go_wp2
                  go_roundw
                  case rel => exact ⟨1, by omega, by go_num, by rw [HTK.out, Int.zero_add], ⟨hBz.os, hBz.tape, hBz.output, hBz.size, hBz.block⟩⟩
                  case measure => simp [intOf]; omega
                · obtain ⟨cp, hcp⟩ : ∃ c, cs[m]? = some c := ⟨_, List.getElem?_eq_getElem (by omega)⟩
                  have f1 := (hBz.cell (p := ⟨g2, o2 + m * 2, none⟩) hg2).trans (HH2.out m cp hcp).1
                  have hlt2 : cp.1 < c.1 := by
                    have k1 := HCM.out
                    rw [← HCS.out] at k1 hcp
                    exact keysOf_rise (countsOf_get hcp).1 (countsOf_get k1).1
                  have hge : decide (c.1 ≤ cp.1) = false := decide_eq_false (by omega)
                  clear hcp
                  go_wp2_with fail
                  go_quiet (fail)
                  go_wp2
                  go_roundw
                  case rel => exact ⟨m + 1 + 1, by omega, by go_num, by rw [HTK.out], ⟨hBz.os, hBz.tape, hBz.output, hBz.size, hBz.block⟩⟩
                  case measure => simp [intOf]; omega
        · obtain rfl : m = cs.length := by omega
          rw [show timesIn (cs.take cs.length) = framesOf n (tallyOf n xs) by rw [List.take_length]; exact HTA.out]
          have hfr' := hfr
          have HB6 := Lib.hid (HB5.out.trans (hBq.mono HB5.out.size))
          have HH6 := Lib.hid (HH5.out.kept (Kept.below hBq) (fun h => h) (fun h => h))
          have HO6 := Lib.hid (HO5.out.kept (Kept.below hBq) (fun h => h) (fun h => h))
          have HR6 := Lib.hid (ownsRow_keptS HR5.out (Kept.below hBq) (fun _ _ h => h))
          clear hBq
          go_wp2_with fail
          refine (frames_any _ _ _ _ _ HH6.out).mono ?_
          rintro e w7 ⟨rfl, hk7⟩
          have HH7 := Lib.hid (HH6.out.kept hk7 (fun h => h) (fun h => h))
          have HO7 := Lib.hid (HO6.out.kept hk7 (fun h => h) (fun h => h))
          have HR7 := Lib.hid (ownsRow_keptS HR6.out hk7 (fun _ _ h => h))
          have hft : ∀ k, tallyOf n xs k ≤ 65535 := fun k => by have := (tallyOf_le n xs k).2; omega
          have hfit : Fits n emptyF cs := by rw [← HCS.out]; exact fits_counts HG.out hft
          have hwf : ∀ c ∈ cs, Wf64 c.2 := by
            intro c hc
            rw [← HCS.out] at hc
            have h3 := countsOf_mem hc
            have h4 := hft c.1
            unfold Wf64
            omega
          have hno : cs.any (oddC n) = false := by
            rw [List.any_eq_false]
            intro c hc
            rw [← HCS.out] at hc
            have h3 := countsOf_mem hc
            have h4 := hft c.1
            simp [oddC]
            omega
          have HJ := Lib.hid (join_ok _ _ _ _ _ HO7.out _ cs (by omega) (countsAt_of_row HR7.out) hfit hwf hno)
          have HE : Hid (joinF emptyF cs = tallyOf n xs) := Lib.hid (by rw [← HCS.out]; exact join_counts HG.out hft)
          clear hfit hwf hno hft
          go_wp2_with fail
          refine HJ.out.mono ?_
          rintro e w8 ⟨rfl, hh8, hk8⟩
          rw [HE.out] at hh8
          have HO8 := Lib.hid hh8
          have HH8 := Lib.hid (HH7.out.kept hk8 (by show ¬ _ = _; omega) (by show ¬ _ = _; omega))
          have HR8 := Lib.hid (ownsRow_keptS HR7.out hk8 (HO7.out.row_ne HR7.out))
          clear hh8
          go_wp2_with fail
          refine (take_any _ _ _ _ _ HO8.out).mono ?_
          rintro e w9 ⟨v9, rfl, hr9, hn9, hh9, hk9⟩
          rw [HCS.out] at hr9
          have HO9 := Lib.hid hh9
          have HH9 := Lib.hid (HH8.out.kept hk9 (by show ¬ _ = _; omega) (by show ¬ _ = _; omega))
          have HR9 := Lib.hid (ownsRow_keptS HR8.out hk9 (HO8.out.row_ne HR8.out))
          have HS9 := Lib.hid (sameCounts_true _ _ _ cs (countsAt_of_row hr9) (countsAt_of_row HR9.out) (by omega))
          clear hr9 hn9 hh9
          go_wp2_with fail
          refine HS9.out.mono ?_
          rintro e w10 ⟨rfl, hk10⟩
          have HO10 := Lib.hid (HO9.out.kept hk10 (fun h => h) (fun h => h))
          have HH10 := Lib.hid (HH9.out.kept hk10 (fun h => h) (fun h => h))
          have HR10 := Lib.hid (ownsRow_keptS HR9.out hk10 (fun _ _ h => h))
          go_wp2_with fail
          refine (frames_any _ _ _ _ _ HO10.out).mono ?_
          rintro e w11 ⟨rfl, hk11⟩
          rw [framesOf_empty]
          have HH11 := Lib.hid (HH10.out.kept hk11 (fun h => h) (fun h => h))
          have HR11 := Lib.hid (ownsRow_keptS HR10.out hk11 (fun _ _ h => h))
          go_wp2_with fail
          refine (take_any _ _ _ _ _ HH11.out).mono ?_
          rintro e w12 ⟨v12, rfl, hr12, hn12, hh12, hk12⟩
          rw [HCS.out] at hr12
          have HH12 := Lib.hid hh12
          have HR12 := Lib.hid (ownsRow_keptS HR11.out hk12 (HH11.out.row_ne HR11.out))
          have HS12 := Lib.hid (sameCounts_true _ _ _ cs (countsAt_of_row hr12) (countsAt_of_row HR12.out) (by omega))
          clear hr12 hn12 hh12
          go_wp2_with fail
          refine HS12.out.mono ?_
          rintro e w13 ⟨rfl, hk13⟩
          have HH13 := Lib.hid (HH12.out.kept hk13 (fun h => h) (fun h => h))
          go_wp2_with fail
          refine (frames_any _ _ _ _ _ HH13.out).mono ?_
          rintro e w14 ⟨rfl, hk14⟩
          rw [framesOf_empty]
          have HH14 := Lib.hid (HH13.out.kept hk14 (fun h => h) (fun h => h))
          go_wp2_with fail
          refine (counts_any _ _ _ _ _ HH14.out).mono ?_
          rintro e w15 ⟨v15, rfl, hr15, hn15, hb15⟩
          rw [countsOf_empty] at hn15
          obtain rfl := hn15.2 rfl
          clear hr15 hn15
          go_wp2
          go_ret
          refine ⟨rfl, ?_⟩
          have q0 := Kept.below HB6.out
          have q1 := q0.trans hk7 (fun _ _ h => h)
          have q2 := q1.trans hk8 (fun i h (e : i = _) => by omega)
          have q3 := q2.trans hk9 (fun i h (e : i = _) => by omega)
          have q4 := (q3.trans hk10 (fun _ _ h => h)).trans hk11 (fun _ _ h => h)
          have q5 := q4.trans hk12 (fun i h (e : i = _) => by omega)
          have q6 := (q5.trans hk13 (fun _ _ h => h)).trans hk14 (fun _ _ h => h)
          have q7 := q6.trans (Kept.below hb15) (fun _ _ h => h)
          exact q7.toBelow (Nat.le_refl _) (fun i h => h.elim)

end Go.Proofs.Ytacbmpffpfaciaa
