/-
  TellExact's walk.
-/
import Derived.Test.YtacbmpffpfaciaaTellO
import Derived.Test.YtacbmpffpfaciaaOpen
namespace Go.Proofs.Ytacbmpffpfaciaa
open Go.RowKit Go.Maps Go.Shelf Go.Sort

set_option maxRecDepth 100000
set_option maxHeartbeats 4000000

theorem frames_none {n : Nat} {f : Int → Int} (h : Good n f) : decide (0 < framesOf n f) = !(noneB f) := by
  rw [framesOf_keys h]
  cases hk : keysOf n f with
  | nil =>
    have : noneB f = true := by
      have := lessK_all h
      rwa [hk, lessK_nil] at this
    rw [this]; simp
  | cons a r =>
    have hm : a ∈ keysOf n f := by rw [hk]; simp
    have hma := mem_keysOf.1 hm
    have : noneB f = false := by
      unfold noneB
      rw [List.all_eq_false]
      refine ⟨a.toNat, by simp; have := h.n255; omega, ?_⟩
      rw [show (a.toNat : Int) = a from by omega]
      simp; omega
    rw [this]
    have h2 := (sum_bound f (fun k => ⟨h.pos k, h.top k⟩) r).1
    simp; omega

theorem counts_ne {n : Nat} {f : Int → Int} (h : 0 < framesOf n f) (hg : Good n f) : 0 < (countsOf n f).length := by
  rw [framesOf_keys hg] at h
  simp only [countsOf, List.length_map]
  cases hk : keysOf n f with
  | nil => rw [hk] at h; simp at h
  | cons a r => simp

theorem exact_long (w : World) (n every : Int) (p : Option Addr) (len cap : Nat) (hl : 300 < len) (_hl2 : len ≤ maxLen) :
    Calls Try.prog 6 #[.int .i64 n, .int .i64 every, .slice p len cap] w fun e w' => e = .returned (.bool true) ∧ Below w.heap.size w w' := by
  go_enter Try.func6, Try.ntmps6
  go_wp2_with fail
  refine (tawake_any _).mono ?_
  rintro e w1 ⟨rfl, hb1⟩
  go_wp2
  go_ret
  exact ⟨rfl, hb1⟩

theorem exact_bad (w : World) (n every : Int) (p : Option Addr) (len cap : Nat) (hl : len ≤ 300) (hn : badT 5 n every) :
    Calls Try.prog 6 #[.int .i64 n, .int .i64 every, .slice p len cap] w fun e w' => e = .returned (.bool true) ∧ Below w.heap.size w w' := by
  have HN := Lib.hid hn
  clear hn
  go_enter Try.func6, Try.ntmps6
  go_wp2_with fail
  refine (tawake_any _).mono ?_
  rintro e w1 ⟨rfl, hb1⟩
  go_wp2_with fail
  refine (tnew_no _ 5 n every (by omega) (by omega) HN.out).mono ?_
  rintro e w2 ⟨rfl, hb2⟩
  go_wp2
  go_ret
  exact ⟨rfl, hb1.trans (hb2.mono hb1.size)⟩

theorem exact_good (w : World) (n : Nat) (every : Int) (h1 : 1 ≤ n) (h2 : n ≤ 255) (e1 : 1 ≤ every) (e2 : every ≤ 1000) (p : Option Addr) (xs : List (Int × Int)) (cap : Nat) (hl : xs.length ≤ 300)
    (hwf : ∀ x ∈ xs, Wf64 x.1 ∧ Wf64 x.2)
    (hp : 0 < xs.length → ∃ g off, p = some ⟨g, off, none⟩ ∧ g < w.heap.size ∧ ∀ j x, xs[j]? = some x → w.cell? ⟨g, off + j * 2, none⟩ = some (.int .i64 x.1) ∧ w.cell? ⟨g, off + j * 2 + 1, none⟩ = some (.int .i64 x.2)) :
    Calls Try.prog 6 #[.int .i64 (n : Int), .int .i64 every, .slice p xs.length cap] w fun e w' => e = .returned (.bool true) ∧ Below w.heap.size w w' := by
  have HP := Lib.hid hp
  have HW := Lib.hid hwf
  clear hp hwf
  have hne : (every == 0) = false := by simp; omega
  go_enter Try.func6, Try.ntmps6
  go_wp2_with fail
  refine (tawake_any _).mono ?_
  rintro e w1 ⟨rfl, hb1⟩
  go_wp2_with fail
  refine (tnew_yes _ 5 every n h1 h2 (by omega) (by omega) e1 e2).mono ?_
  rintro e w2 ⟨bt, be, bv, br, b, bm, rfl, hh2, hb2, hl2⟩
  have H2 := Lib.hid hh2
  clear hh2
  go_wp2_with fail
  have y1 := hb1.size
  have y2 := hb2.size
  have L2 := H2.out.lts
  have hA := ArrAt.new w2 (C := Try.zeroCells62) (f := emptyF) (by rw [zero62]; exact zeroV)
  have k3 : Kept (fun _ => False) w2 (w2.alloc (.cells Try.zeroCells62 62)) := Kept.alloc _ _ _
  have y3 : w2.heap.size < (w2.alloc (.cells Try.zeroCells62 62)).heap.size := by simp
  have H3 := Lib.hid (And.intro (H2.out.kept k3 (fun _ h => h.elim)) hA)
  clear hA
  generalize w2.alloc (.cells Try.zeroCells62 62) = w3 at *
  go_loopw [10, 11] (fun s i wr => ∃ k : Nat, k ≤ xs.length ∧ i = .int .i64 k ∧ (∃ (f : Int → Int) (seq : Int), s = .int .i64 seq ∧ TellerAt wr bt be bv br b bm n 5 every seq f ∧ ArrAt wr w2.heap.size f ∧ ((∀ j, f j ≤ k) ∧ seq ≤ k)) ∧ Kept (fun i => i = bt ∨ i = bm ∨ i = w2.heap.size) w3 wr) (fun _ i _ => xs.length - (intOf i).toNat)
  case atStart => exact ⟨0, Nat.zero_le _, rfl, ⟨emptyF, 0, rfl, H3.out.1, H3.out.2, fun j => by simp [emptyF], by simp⟩, Kept.refl _ _⟩
  case round =>
    obtain ⟨k, hk, rfl, ⟨f, seq, rfl, ht, ha, hfk, hsk⟩, hK⟩ := hrel
    have hsq0 := ht.sq1
    have hsq9 := ht.sq2
    have HT := Lib.hid ht
    have HA := Lib.hid ha
    have HF := Lib.hid hfk
    clear ht ha hfk
    have sK := hK.size
    by_cases hlt : k < xs.length
    · obtain ⟨g, off, rfl, hg, hcs⟩ := HP.out (by omega)
      obtain ⟨x, hx⟩ : ∃ x, xs[k]? = some x := ⟨_, List.getElem?_eq_getElem hlt⟩
      obtain ⟨hw1, hw2⟩ := HW.out x (List.mem_of_getElem? hx)
      have cc : ∀ o v, w.cell? ⟨g, o, none⟩ = some v → wr.cell? ⟨g, o, none⟩ = some v := by
        intro o v hv
        rw [hK.cell (p := ⟨g, o, none⟩) (by simp only; omega) (by simp only; omega), k3.cell (p := ⟨g, o, none⟩) (by simp only; omega) (fun h => h), hb2.cell (p := ⟨g, o, none⟩) (by simp only; omega), hb1.cell (p := ⟨g, o, none⟩) (by simp only; omega)]
        exact hv
      have c1 := cc _ _ (hcs k x hx).1
      have c2 := cc _ _ (hcs k x hx).2
      clear cc hcs hx
      obtain ⟨xa, xb⟩ := x
      simp only at c1 c2 hw1 hw2
      have kA : Kept (fun _ => False) wr (wr.alloc (.cells #[.int .i64 xa, .int .i64 xb] 45)) := Kept.alloc _ _ _
      have HT1 := Lib.hid (HT.out.kept kA (fun _ h => h.elim))
      have HA1 := Lib.hid (HA.out.kept kA (fun h => h))
      have d1 : (wr.alloc (.cells #[.int .i64 xa, .int .i64 xb] 45)).cell? ⟨wr.heap.size, 1, none⟩ = some (.int .i64 xb) := World.cell?_alloc_new wr #[.int .i64 xa, .int .i64 xb] 45 1
      have hlt0 : wr.heap.size < (wr.alloc (.cells #[.int .i64 xa, .int .i64 xb] 45)).heap.size := by simp
      by_cases hd : xa % 3 = 2
      · have HD := Lib.hid hd
        clear hd
        by_cases hp0 : 0 < xb
        · have hp1 : 0 ≤ xb := by omega
          by_cases hq : xb % every = 0
          · cases hnb : noneB f
            · have HN := Lib.hid hnb
              clear hnb
              have hfr := Lib.hid (show 0 < framesOf n f by have := frames_none HT.out.hist.good; rw [HN.out] at this; simpa using this)
              have HB := Lib.hid (show tickB xb every seq n f = true by unfold tickB dueB; simp [hp0, hq, hfr.out]; omega)
              go_wp2_with fail
              refine (pick_any _ xa 3 (by omega) (by omega) hw1).mono ?_
              rintro e w' ⟨rfl, rfl⟩
              rw [HD.out]
              go_wp2_with fail
              refine (tick_yes _ HT1.out xb HB.out).mono ?_
              rintro e v1 ⟨q1, rfl, hr1, hT1, hk1⟩
              obtain ⟨p1, c1', rfl⟩ := (countsAt_of_row hr1).shape
              have d2 : v1.cell? ⟨wr.heap.size, 1, none⟩ = some (.int .i64 xb) := (hk1.cell (p := ⟨wr.heap.size, 1, none⟩) hlt0 (by simp only; omega)).trans d1
              have u1 : wr.heap.size < v1.heap.size := by have := hk1.size; omega
              have HT2 := Lib.hid hT1
              have HR1 := Lib.hid hr1
              clear hT1 hr1
              have hcl := counts_ne hfr.out HT.out.hist.good
              have hle0 := countsOf_length_le n f
              have kB : Kept (fun _ => False) v1 (v1.alloc (.cells #[.int .i64 5, .int .i64 (seq + 1), .int .i64 (n : Int), .slice p1 (countsOf n f).length c1'] 48)) := Kept.alloc _ _ _
              have HT3 := Lib.hid (HT2.out.kept kB (fun _ h => h.elim))
              have hA3 := (HA1.out.kept hk1 (by omega)).kept kB (fun h => h)
              have hHB := World.alloc_heap_new v1 (.cells #[.int .i64 5, .int .i64 (seq + 1), .int .i64 (n : Int), .slice p1 (countsOf n f).length c1'] 48)
              have HHB := Lib.hid hHB
              clear hHB
              obtain ⟨D, hD1, hD2⟩ := hA3
              have hs : (Try.prog.info? 62).map (·.size) = some D.size := by rw [hD2.1]; exact size62
              have HD1 := Lib.hid hD1
              have HD2 := Lib.hid hD2
              have HC1 := Lib.hid ((countsAt_of_row HR1.out).kept kB (fun _ _ h => h))
              clear hD1 hD2
              obtain ⟨ln, hln⟩ : ∃ ln, (countsOf n f).length = ln := ⟨_, rfl⟩
              have HLN := Lib.hid hln
              rw [hln] at kB HT3 HHB HD1 HC1 hcl hle0 ⊢
              clear hln
              go_wp2_with fail
              refine wp_load_row _ _ rfl w2.heap.size rfl _ D (0, 0) _ HD1.out und62 rfl hs ?_
              go_wp2_with fail
              refine (some_any _ D f HD2.out).mono ?_
              rintro e v2 ⟨rfl, hk2⟩
              rw [HN.out]
              have k12 : Kept (fun _ => False) v1 v2 := kB.trans hk2 (fun _ _ h => h)
              have hB2 := (hk2.block v1.heap.size (by simp) (fun h => h)).trans HHB.out
              have x0 : v2.cell? ⟨v1.heap.size, 0, none⟩ = some (.int .i64 5) := by simp [World.cell?, hB2]
              have x1 : v2.cell? ⟨v1.heap.size, 1, none⟩ = some (.int .i64 (seq + 1)) := by simp [World.cell?, hB2]
              have x2 : v2.cell? ⟨v1.heap.size, 2, none⟩ = some (.int .i64 (n : Int)) := by simp [World.cell?, hB2]
              have x3 : v2.cell? ⟨v1.heap.size, 3, none⟩ = some (.slice p1 ln c1') := by simp [World.cell?, hB2]
              have u2 : v1.heap.size < v2.heap.size := by have := hk2.size; simp at this; omega
              have HD3 := Lib.hid ((hk2.block w2.heap.size (Array.getElem?_eq_some_iff.1 HD1.out).1 (fun h => h)).trans HD1.out)
              have HC2 := Lib.hid (HC1.out.kept hk2 (fun _ _ h => h))
              clear hB2 d2
              go_wp2_with fail
              refine wp_load_row _ _ rfl w2.heap.size rfl _ D (0, 0) _ HD3.out und62 rfl hs ?_
              go_wp2_with fail
              refine (told_true _ _ D n f HT.out.hist.good (fun j => by have := HF.out j; omega) HD2.out HC2.out).mono ?_
              rintro e v3 ⟨rfl, hk3⟩
              have x3' : v3.cell? ⟨v1.heap.size, 3, none⟩ = some (.slice p1 ln c1') := (hk3.cell (p := ⟨v1.heap.size, 3, none⟩) u2 (fun h => h)).trans x3
              have HD4 := Lib.hid ((hk3.block w2.heap.size (Array.getElem?_eq_some_iff.1 HD3.out).1 (fun h => h)).trans HD3.out)
              clear x0 x1 x2 x3
              have hcl0 : ((ln : Int) == 0) = false := by simp; omega
              have hsc : (storeCells ⟨w2.heap.size, 0, none⟩ Try.zeroCells62.toList 0).run Try.prog v3 = .ok () (v3.setRow w2.heap.size Try.zeroCells62) := by
                rw [zero62]
                have := run_storeVar_row (P := Try.prog) v3 w2.heap.size 62 62 D (Array.replicate 256 (Value.int .i64 0)) HD4.out (by simpa using size62) (by rw [HD2.out.1]; simp) zeroV.one
                obtain ⟨i6, hi6⟩ : ∃ i, Try.prog.info? 62 = some i := by cases hq : Try.prog.info? 62 with | none => have := size62; rw [hq] at this; cases this | some i => exact ⟨i, rfl⟩
                have h6 : i6.size = 256 := by have := size62; rw [hi6] at this; simpa using this
                simpa [storeVar, sizeOf, typeInfo, hi6, Value.cells, h6] using this
              have hk4 : Kept (fun i => i = w2.heap.size) v3 (v3.setRow w2.heap.size Try.zeroCells62) := ⟨rfl, rfl, rfl, by simp, fun i _ hi => setRow_other _ _ _ _ hi⟩
              have HA4 := Lib.hid (show ArrAt (v3.setRow w2.heap.size Try.zeroCells62) w2.heap.size emptyF from ⟨_, setRow_heap _ _ _ _ _ _ HD4.out, by rw [zero62]; exact zeroV⟩)
              have k13 : Kept (fun _ => False) v1 v3 := k12.trans hk3 (fun _ _ h => h)
              have HT4 := Lib.hid ((HT2.out.kept k13 (fun _ h => h.elim)).kept hk4 (fun i h => by omega))
              go_wp2
              go_roundw
              case rel =>
                refine ⟨k + 1, by omega, by go_num, ⟨emptyF, seq + 1, rfl, HT4.out, HA4.out, fun j => by simp [emptyF]; omega, by omega⟩, ?_⟩
                exact (((hK.trans kA (fun _ _ h => h.elim)).trans hk1 (fun i _ h => by omega)).trans k13 (fun _ _ h => h.elim)).trans hk4 (fun i _ h => by omega)
              case measure => simp [intOf]; omega
            · have HN := Lib.hid hnb
              clear hnb
              have HB := Lib.hid (show tickB xb every seq n f = false by unfold tickB; have := frames_none HT.out.hist.good; rw [HN.out] at this; rw [this]; simp)
              go_wp2_with fail
              refine (pick_any _ xa 3 (by omega) (by omega) hw1).mono ?_
              rintro e w' ⟨rfl, rfl⟩
              rw [HD.out]
              go_wp2_with fail
              refine (tick_no _ HT1.out xb HB.out).mono ?_
              rintro e v1 ⟨rfl, hk1⟩
              have d2 : v1.cell? ⟨wr.heap.size, 1, none⟩ = some (.int .i64 xb) := (hk1.cell (p := ⟨wr.heap.size, 1, none⟩) hlt0 (fun h => h)).trans d1
              have u1 : wr.heap.size < v1.heap.size := by have := hk1.size; omega
              have kB : Kept (fun _ => False) v1 (v1.alloc (.cells #[.int .i64 0, .int .i64 0, .int .i64 0, .slice none 0 0] 48)) := Kept.alloc _ _ _
              have HT3 := Lib.hid ((HT1.out.kept hk1 (fun _ h => h.elim)).kept kB (fun _ h => h.elim))
              have HA3 := Lib.hid ((HA1.out.kept hk1 (fun h => h)).kept kB (fun h => h))
              obtain ⟨D, hD1, hD2⟩ := HA3.out
              have hs : (Try.prog.info? 62).map (·.size) = some D.size := by rw [hD2.1]; exact size62
              have HD1 := Lib.hid hD1
              have HD2 := Lib.hid hD2
              clear hD1 hD2
              go_wp2_with fail
              refine wp_load_row _ _ rfl w2.heap.size rfl _ D (0, 0) _ HD1.out und62 rfl hs ?_
              go_wp2_with fail
              refine (some_any _ D f HD2.out).mono ?_
              rintro e v2 ⟨rfl, hk2⟩
              rw [HN.out]
              go_wp2
              go_roundw
              case rel =>
                refine ⟨k + 1, by omega, by go_num, ⟨f, seq, rfl, HT3.out.kept hk2 (fun _ h => h.elim), HA3.out.kept hk2 (fun h => h), fun j => by have := HF.out j; omega, by omega⟩, ?_⟩
                exact (((hK.trans kA (fun _ _ h => h.elim)).trans hk1 (fun _ _ h => h.elim)).trans kB (fun _ _ h => h.elim)).trans hk2 (fun _ _ h => h.elim)
              case measure => simp [intOf]; omega
          · have hq2 : (xb % every == 0) = false := by simp; exact hq
            clear hq
            have HB := Lib.hid (show tickB xb every seq n f = false by unfold tickB dueB; rw [hq2]; simp)
            go_wp2_with fail
            refine (pick_any _ xa 3 (by omega) (by omega) hw1).mono ?_
            rintro e w' ⟨rfl, rfl⟩
            rw [HD.out]
            go_wp2_with fail
            refine (tick_no _ HT1.out xb HB.out).mono ?_
            rintro e v1 ⟨rfl, hk1⟩
            have d2 : v1.cell? ⟨wr.heap.size, 1, none⟩ = some (.int .i64 xb) := (hk1.cell (p := ⟨wr.heap.size, 1, none⟩) hlt0 (fun h => h)).trans d1
            have u1 : wr.heap.size < v1.heap.size := by have := hk1.size; omega
            have kB : Kept (fun _ => False) v1 (v1.alloc (.cells #[.int .i64 0, .int .i64 0, .int .i64 0, .slice none 0 0] 48)) := Kept.alloc _ _ _
            have HT3 := Lib.hid ((HT1.out.kept hk1 (fun _ h => h.elim)).kept kB (fun _ h => h.elim))
            have HA3 := Lib.hid ((HA1.out.kept hk1 (fun h => h)).kept kB (fun h => h))
            go_wp2
            go_roundw
            case rel =>
              refine ⟨k + 1, by omega, by go_num, ⟨f, seq, rfl, HT3.out, HA3.out, fun j => by have := HF.out j; omega, by omega⟩, ?_⟩
              exact ((hK.trans kA (fun _ _ h => h.elim)).trans hk1 (fun _ _ h => h.elim)).trans kB (fun _ _ h => h.elim)
            case measure => simp [intOf]; omega
        · have HB := Lib.hid (show tickB xb every seq n f = false by unfold tickB dueB; simp [hp0])
          go_wp2_with fail
          refine (pick_any _ xa 3 (by omega) (by omega) hw1).mono ?_
          rintro e w' ⟨rfl, rfl⟩
          rw [HD.out]
          go_wp2_with fail
          refine (tick_no _ HT1.out xb HB.out).mono ?_
          rintro e v1 ⟨rfl, hk1⟩
          have d2 : v1.cell? ⟨wr.heap.size, 1, none⟩ = some (.int .i64 xb) := (hk1.cell (p := ⟨wr.heap.size, 1, none⟩) hlt0 (fun h => h)).trans d1
          have u1 : wr.heap.size < v1.heap.size := by have := hk1.size; omega
          have kB : Kept (fun _ => False) v1 (v1.alloc (.cells #[.int .i64 0, .int .i64 0, .int .i64 0, .slice none 0 0] 48)) := Kept.alloc _ _ _
          have HT3 := Lib.hid ((HT1.out.kept hk1 (fun _ h => h.elim)).kept kB (fun _ h => h.elim))
          have HA3 := Lib.hid ((HA1.out.kept hk1 (fun h => h)).kept kB (fun h => h))
          go_wp2
          go_roundw
          case rel =>
            refine ⟨k + 1, by omega, by go_num, ⟨f, seq, rfl, HT3.out, HA3.out, fun j => by have := HF.out j; omega, by omega⟩, ?_⟩
            exact ((hK.trans kA (fun _ _ h => h.elim)).trans hk1 (fun _ _ h => h.elim)).trans kB (fun _ _ h => h.elim)
          case measure => simp [intOf]; omega
      · have hd3 : (xa % 3 != 2) = true := by rw [bne_iff_ne]; exact hd
        clear hd
        go_wp2_with fail
        refine (pick_any _ xa 3 (by omega) (by omega) hw1).mono ?_
        rintro e w' ⟨rfl, rfl⟩
        by_cases hin : 1 ≤ xb ∧ xb ≤ n
        · obtain ⟨hi1, hi2⟩ := hin
          generalize hW : wr.alloc (.cells #[.int .i64 xa, .int .i64 xb] 45) = W at *
          have hft : ∀ j, f j < 1099511627776 := fun j => by have := HF.out j; omega
          have HFT := Lib.hid hft
          clear hft hW
          go_wp2_with fail
          refine (closed_ok _ HT1.out xb hi1 hi2 HFT.out).mono ?_
          rintro e w5 ⟨rfl, hh5, hk5⟩
          have m1 := (hk5.cell (p := ⟨wr.heap.size, 1, none⟩) hlt0 (by simp only; omega)).trans d1
          have HT5 := Lib.hid hh5
          have hA5 := HA1.out.kept hk5 (by omega)
          have i1 : 0 ≤ xb := by omega
          have i2 : xb < 256 := by omega
          have m2 := hA5.cell i1 i2
          have mf := hA5.fz xb.toNat
          have hq := HT.out.hist.good.pos xb
          have hq2 := HF.out xb
          have HA5 := Lib.hid hA5
          clear hh5 hA5
          have y5 := hk5.size
          obtain ⟨z, hz⟩ : ∃ z, f xb = z := ⟨_, rfl⟩
          rw [hz] at m2 hq hq2
          have HZ := Lib.hid hz
          clear hz
          go_wp2
          go_roundw
          case rel =>
            have hk6 : Kept (fun i => i = w2.heap.size) w5 (w5.setCell ⟨w2.heap.size, xb.toNat, none⟩ (.int .i64 (z + 1))) := (Kept.refl (fun i => i = w2.heap.size) w5).setCell' (S := fun i => i = w2.heap.size) (p := ⟨w2.heap.size, xb.toNat, none⟩) rfl _
            refine ⟨k + 1, by omega, by go_num, ⟨upd f xb 1, seq, rfl, HT5.out.kept hk6 (fun i h => by omega), HA5.out.set i1 i2 (by simp [upd, HZ.out]) (fun j hj => by simp [upd, hj]), fun j => by have := HF.out j; unfold upd; split <;> omega, by omega⟩, ?_⟩
            exact ((hK.trans kA (fun _ _ h => h.elim)).trans hk5 (fun i _ h => by omega)).trans hk6 (fun i _ h => by omega)
          case measure => simp [intOf]; omega
        · have hin' : xb < 1 ∨ (n : Int) < xb := by omega
          generalize hW : wr.alloc (.cells #[.int .i64 xa, .int .i64 xb] 45) = W at *
          have HIN := Lib.hid hin'
          clear hin hin' hW
          go_wp2_with fail
          refine (closed_odd _ HT1.out xb HIN.out).mono ?_
          rintro e w5 ⟨rfl, hk5⟩
          go_wp2
          go_roundw
          case rel =>
            refine ⟨k + 1, by omega, by go_num, ⟨f, seq, rfl, HT1.out.kept hk5 (fun i h => h.elim), HA1.out.kept hk5 (fun h => h), fun j => by have := HF.out j; omega, by omega⟩, ?_⟩
            exact (hK.trans kA (fun _ _ h => h.elim)).trans hk5 (fun _ _ h => h.elim)
          case measure => simp [intOf]; omega
    · obtain ⟨D, hD1, hD2⟩ := HA.out
      obtain ⟨L, rfl⟩ : ∃ L : List Value, D = L.toArray := ⟨D.toList, by simp⟩
      have hr : wr.rangeAt w2.heap.size 0 L := fun j v hv => by rw [Nat.zero_add]; simp [World.cell?, hD1, hv]
      have hrd : wr.drew.rangeAt w2.heap.size 0 L := hr
      have hu62 := und62
      have hs62 : (Try.prog.info? 62).map (·.size) = some L.length := by rw [size62]; have := hD2.1; simp at this; rw [this]
      have HD2 := Lib.hid hD2
      have HGG := Lib.hid HT.out.hist.good
      have hA0 : w2.heap.size < wr.heap.size := HA.out.lt
      clear hD1 hD2
      go_wp2_with fail
      go_region_held3 (fun w' => w'.rangeAt w2.heap.size 0 L)
        (first | exact hr | exact hrd | exact hr5 | exact hr6)
        ((first
          | (go_at_call 28; refine (seq_any _ (by exact HT.out.drewK)).mono ?_; rintro e w' ⟨rfl, rfl⟩)
          | (go_at_call 26; refine (open_any _ (by exact HT.out.drewK)).mono ?_; rintro e w5 ⟨v5, rfl, hw5, hn5, hb5⟩; obtain ⟨p5, c5, rfl⟩ := (countsAt_of_row hw5).shape; have HR5 := Lib.hid hw5; clear hw5 hn5; have hr5 : w5.rangeAt w2.heap.size 0 L := fun j v hv => (hb5.cell (p := ⟨w2.heap.size, 0 + j, none⟩) hA0).trans (hr j v hv))
          | (go_at_call 30; refine (told_true _ _ L.toArray n f HGG.out (fun j => by have := HF.out j; omega) HD2.out (countsAt_of_row HR5.out)).mono ?_; rintro e w6 ⟨rfl, hk6⟩; have hr6 : w6.rangeAt w2.heap.size 0 L := fun j v hv => (hk6.cell (p := ⟨w2.heap.size, 0 + j, none⟩) (Nat.lt_of_lt_of_le hA0 hb5.size) (fun h => h)).trans (hr5 j v hv))))
      go_wp2
      go_ret
      refine ⟨rfl, ?_⟩
      have q1 := ((Kept.below hb1).trans (Kept.below hb2) (fun _ _ h => h)).trans k3 (fun _ _ h => h)
      have q2 := q1.trans hK (fun i h h2 => by omega)
      have q5 : Kept (fun _ => False) wr w6 := ((Kept.refl (fun _ => False) wr).drew.trans (Kept.below hb5) (fun _ _ h => h)).trans hk6 (fun _ _ h => h)
      exact (q2.trans q5 (fun _ _ h => h)).toBelow (Nat.le_refl _) (fun i h => h.elim)

theorem exact_all (n every : Int) (p : Option Addr) (xs : List (Int × Int)) (cap : Nat) (w : World) (hl : xs.length ≤ maxLen) (hp : PairsIn w p xs) :
    Calls Try.prog 6 #[.int .i64 n, .int .i64 every, .slice p xs.length cap] w fun e w' => e = .returned (.bool true) ∧ Below w.heap.size w w' := by
  by_cases h : 300 < xs.length
  · exact exact_long w n every p xs.length cap h hl
  · by_cases hb : badT 5 n every
    · exact exact_bad w n every p xs.length cap (by omega) hb
    · unfold badT at hb
      obtain ⟨m, rfl⟩ := Int.eq_ofNat_of_zero_le (show 0 ≤ n by omega)
      exact exact_good w m every (by omega) (by omega) (by omega) (by omega) p xs cap (by omega) hp.1 hp.2

end Go.Proofs.Ytacbmpffpfaciaa
