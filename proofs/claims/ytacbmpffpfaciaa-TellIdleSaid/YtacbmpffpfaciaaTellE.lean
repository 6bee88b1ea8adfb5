/-
  TellIdle's walk.
-/
import Derived.Test.YtacbmpffpfaciaaTellD
import Derived.Test.YtacbmpffpfaciaaOpen
namespace Go.Proofs.Ytacbmpffpfaciaa
open Go.RowKit Go.Maps Go.Shelf Go.Sort

set_option maxRecDepth 100000
set_option maxHeartbeats 4000000

theorem idle_long (w : World) (n every : Int) (p : Option Addr) (len cap : Nat) (hl : 300 < len) (_hl2 : len ≤ maxLen) :
    Calls Try.prog 7 #[.int .i64 n, .int .i64 every, .slice p len cap] w fun e w' => e = .returned (.bool true) ∧ Below w.heap.size w w' := by
  go_enter Try.func7, Try.ntmps7
  go_wp2_with fail
  refine (tawake_any _).mono ?_
  rintro e w1 ⟨rfl, hb1⟩
  go_wp2
  go_ret
  exact ⟨rfl, hb1⟩

theorem idle_bad (w : World) (n every : Int) (p : Option Addr) (len cap : Nat) (hl : len ≤ 300) (hn : badT 5 n every) :
    Calls Try.prog 7 #[.int .i64 n, .int .i64 every, .slice p len cap] w fun e w' => e = .returned (.bool true) ∧ Below w.heap.size w w' := by
  have HN := Lib.hid hn
  clear hn
  go_enter Try.func7, Try.ntmps7
  go_wp2_with fail
  refine (tawake_any _).mono ?_
  rintro e w1 ⟨rfl, hb1⟩
  go_wp2_with fail
  refine (tnew_no _ 5 n every (by omega) (by omega) HN.out).mono ?_
  rintro e w2 ⟨rfl, hb2⟩
  go_wp2_with fail
  refine (tnew_no _ 5 n every (by omega) (by omega) HN.out).mono ?_
  rintro e w3 ⟨rfl, hb3⟩
  go_wp2
  go_ret
  have s1 := hb1.size
  have s2 := hb2.size
  exact ⟨rfl, (hb1.trans (hb2.mono s1)).trans (hb3.mono (by omega))⟩

theorem tickB_empty (now every seq : Int) (n : Nat) : tickB now every seq n emptyF = false := by
  unfold tickB
  rw [framesOf_empty]
  simp

theorem idle_good (w : World) (n : Nat) (every : Int) (h1 : 1 ≤ n) (h2 : n ≤ 255) (e1 : 1 ≤ every) (e2 : every ≤ 1000) (p : Option Addr) (xs : List (Int × Int)) (cap : Nat) (hl : xs.length ≤ 300)
    (hwf : ∀ x ∈ xs, Wf64 x.1 ∧ Wf64 x.2)
    (hp : 0 < xs.length → ∃ g off, p = some ⟨g, off, none⟩ ∧ g < w.heap.size ∧ ∀ j x, xs[j]? = some x → w.cell? ⟨g, off + j * 2, none⟩ = some (.int .i64 x.1) ∧ w.cell? ⟨g, off + j * 2 + 1, none⟩ = some (.int .i64 x.2)) :
    Calls Try.prog 7 #[.int .i64 (n : Int), .int .i64 every, .slice p xs.length cap] w fun e w' => e = .returned (.bool true) ∧ Below w.heap.size w w' := by
  have HP := Lib.hid hp
  have HW := Lib.hid hwf
  clear hp hwf
  go_enter Try.func7, Try.ntmps7
  go_wp2_with fail
  refine (tawake_any _).mono ?_
  rintro e w1 ⟨rfl, hb1⟩
  go_wp2_with fail
  refine (tnew_yes _ 5 every n h1 h2 (by omega) (by omega) e1 e2).mono ?_
  rintro e w2 ⟨bt, be, bv, br, b, bm, rfl, hh2, hb2, hl2⟩
  have H2 := Lib.hid hh2
  clear hh2
  go_wp2_with fail
  refine (tnew_yes _ 5 every n h1 h2 (by omega) (by omega) e1 e2).mono ?_
  rintro e w3 ⟨ct, ce, cv, cr, c, cm, rfl, hh3, hb3, hl3⟩
  have H3 := Lib.hid (And.intro (H2.out.kept (Kept.below hb3) (fun _ h => h.elim)) hh3)
  have L2 := H2.out.lts
  have L3 := hh3.lts
  clear hh3
  have s1 := hb1.size
  have s2 := hb2.size
  have s3 := hb3.size
  go_wp2_with fail
  go_loopw [11] (fun i wr => ∃ k : Nat, k ≤ xs.length ∧ i = .int .i64 k ∧ (∃ (f : Int → Int) (seq : Int), TellerAt wr bt be bv br b bm n 5 every seq f ∧ TellerAt wr ct ce cv cr c cm n 5 every seq f ∧ (∀ j, f j ≤ k) ∧ seq ≤ k) ∧ Kept (fun i => i = bt ∨ i = bm ∨ i = ct ∨ i = cm) w3 wr) (fun i _ => xs.length - (intOf i).toNat)
  case atStart => exact ⟨0, Nat.zero_le _, rfl, ⟨emptyF, 0, H3.out.1, H3.out.2, fun j => by simp [emptyF], by simp⟩, Kept.refl _ _⟩
  case round =>
    obtain ⟨k, hk, rfl, ⟨f, seq, ht, hu, hfk, hsk⟩, hK⟩ := hrel
    have HT := Lib.hid ht
    have HU := Lib.hid hu
    have HF := Lib.hid hfk
    clear ht hu hfk
    have sK := hK.size
    by_cases hlt : k < xs.length
    · obtain ⟨g, off, rfl, hg, hcs⟩ := HP.out (by omega)
      obtain ⟨x, hx⟩ : ∃ x, xs[k]? = some x := ⟨_, List.getElem?_eq_getElem hlt⟩
      obtain ⟨hw1, hw2⟩ := HW.out x (List.mem_of_getElem? hx)
      have cc : ∀ o v, w.cell? ⟨g, o, none⟩ = some v → wr.cell? ⟨g, o, none⟩ = some v := by
        intro o v hv
        rw [hK.cell (p := ⟨g, o, none⟩) (by simp only; omega) (by simp only; omega), hb3.cell (p := ⟨g, o, none⟩) (by simp only; omega), hb2.cell (p := ⟨g, o, none⟩) (by simp only; omega), hb1.cell (p := ⟨g, o, none⟩) hg]
        exact hv
      have c1 := cc _ _ (hcs k x hx).1
      have c2 := cc _ _ (hcs k x hx).2
      clear cc hcs hx
      obtain ⟨xa, xb⟩ := x
      simp only at c1 c2 hw1 hw2
      have kA : Kept (fun _ => False) wr (wr.alloc (.cells #[.int .i64 xa, .int .i64 xb] 45)) := Kept.alloc _ _ _
      have HT1 := Lib.hid (HT.out.kept kA (fun _ h => h.elim))
      have HU1 := Lib.hid (HU.out.kept kA (fun _ h => h.elim))
      by_cases hd : xa % 3 = 2
      · have HD := Lib.hid hd
        clear hd
        go_wp2_with fail
        refine (pick_any _ xa 3 (by omega) (by omega) hw1).mono ?_
        rintro e w' ⟨rfl, rfl⟩
        rw [HD.out]
        cases hb : tickB xb every seq n f
        · have HB := Lib.hid hb
          clear hb
          go_wp2_with fail
          refine (tick_no _ HT1.out xb HB.out).mono ?_
          rintro e w5 ⟨rfl, hk5⟩
          have HT5 := Lib.hid (HT1.out.kept hk5 (fun _ h => h.elim))
          have HU5 := Lib.hid (HU1.out.kept hk5 (fun _ h => h.elim))
          have kB : Kept (fun _ => False) w5 (w5.alloc (.cells #[.int .i64 0, .int .i64 0, .int .i64 0, .slice none 0 0] 48)) := Kept.alloc _ _ _
          have d2 : w5.cell? ⟨wr.heap.size, 1, none⟩ = some (.int .i64 xb) := (hk5.cell (p := ⟨wr.heap.size, 1, none⟩) (by simp) (fun h => h)).trans (World.cell?_alloc_new wr #[.int .i64 xa, .int .i64 xb] 45 1)
          have z5 : wr.heap.size < w5.heap.size := by have := hk5.size; simp at this; omega
          go_wp2_with fail
          refine (tick_no _ (HT5.out.kept kB (fun _ h => h.elim)) xb HB.out).mono ?_
          rintro e w6 ⟨rfl, hk6⟩
          have HT6 := Lib.hid ((HT5.out.kept kB (fun _ h => h.elim)).kept hk6 (fun _ h => h.elim))
          have HU6 := Lib.hid ((HU5.out.kept kB (fun _ h => h.elim)).kept hk6 (fun _ h => h.elim))
          have kC : Kept (fun _ => False) w6 (w6.alloc (.cells #[.int .i64 0, .int .i64 0, .int .i64 0, .slice none 0 0] 48)) := Kept.alloc _ _ _
          go_wp2
          go_roundw
          case rel =>
            refine ⟨k + 1, by omega, by go_num, ⟨f, seq, HT6.out.kept kC (fun _ h => h.elim), HU6.out.kept kC (fun _ h => h.elim), fun j => by have := HF.out j; omega, by omega⟩, ?_⟩
            exact ((((hK.trans kA (fun _ _ h => h.elim)).trans hk5 (fun _ _ h => h.elim)).trans kB (fun _ _ h => h.elim)).trans hk6 (fun _ _ h => h.elim)).trans kC (fun _ _ h => h.elim)
          case measure => simp [intOf]; omega
        · have HB := Lib.hid hb
          clear hb
          have hsq := HT.out.sq2
          go_wp2_with fail
          refine (tick_yes _ HT1.out xb HB.out).mono ?_
          rintro e w5 ⟨v5, rfl, hr5, hT5, hk5⟩
          obtain ⟨p5, c5, rfl⟩ := (countsAt_of_row hr5).shape
          have z5 : wr.heap.size < w5.heap.size := by have := hk5.size; simp at this; omega
          have d2 : w5.cell? ⟨wr.heap.size, 1, none⟩ = some (.int .i64 xb) := (hk5.cell (p := ⟨wr.heap.size, 1, none⟩) (by simp) (by simp only; omega)).trans (World.cell?_alloc_new wr #[.int .i64 xa, .int .i64 xb] 45 1)
          have HT5 := Lib.hid hT5
          have HU5 := Lib.hid (HU1.out.kept hk5 (fun i h => by omega))
          have HR5 := Lib.hid hr5
          clear hT5 hr5
          have kB : Kept (fun _ => False) w5 (w5.alloc (.cells #[.int .i64 5, .int .i64 (seq + 1), .int .i64 (n : Int), .slice p5 (countsOf n f).length c5] 48)) := Kept.alloc _ _ _
          have HBX := Lib.hid (World.alloc_heap_new w5 (.cells #[.int .i64 5, .int .i64 (seq + 1), .int .i64 (n : Int), .slice p5 (countsOf n f).length c5] 48))
          go_wp2_with fail
          refine (tick_no _ (HT5.out.kept kB (fun _ h => h.elim)) xb (tickB_empty _ _ _ _)).mono ?_
          rintro e w6 ⟨rfl, hk6⟩
          have z6 : w5.heap.size < w6.heap.size := by have := hk6.size; simp at this; omega
          have z60 : wr.heap.size < w6.heap.size := by omega
          have HT6 := Lib.hid ((HT5.out.kept kB (fun _ h => h.elim)).kept hk6 (fun _ h => h.elim))
          have HU6 := Lib.hid ((HU5.out.kept kB (fun _ h => h.elim)).kept hk6 (fun _ h => h.elim))
          have k56 : Kept (fun _ => False) w5 w6 := kB.trans hk6 (fun _ _ h => h)
          have HR6 := Lib.hid (ownsRow_keptS HR5.out k56 (fun _ _ h => h))
          have HBX6 := Lib.hid ((hk6.block w5.heap.size (by simp) (fun h => h)).trans HBX.out)
          have d6 : w6.cell? ⟨wr.heap.size, 1, none⟩ = some (.int .i64 xb) := (k56.cell (p := ⟨wr.heap.size, 1, none⟩) z5 (fun h => h)).trans d2
          have kC : Kept (fun _ => False) w6 (w6.alloc (.cells #[.int .i64 0, .int .i64 0, .int .i64 0, .slice none 0 0] 48)) := Kept.alloc _ _ _
          clear d2
          go_wp2_with fail
          refine (tick_yes _ (HU6.out.kept kC (fun _ h => h.elim)) xb HB.out).mono ?_
          rintro e w7 ⟨v7, rfl, hr7, hU7, hk7⟩
          obtain ⟨p7, c7, rfl⟩ := (countsAt_of_row hr7).shape
          have z7 : w6.heap.size < w7.heap.size := by have := hk7.size; simp at this; omega
          have k67 : Kept (fun i => i = ct ∨ i = cm) w6 w7 := (kC.mono (fun _ _ h => h.elim)).trans hk7 (fun _ _ h => h)
          have HT7 := Lib.hid (HT6.out.kept k67 (fun i h => by omega))
          have HU7 := Lib.hid hU7
          have HR7 := Lib.hid hr7
          clear hU7 hr7
          have hrb : ∀ g, (Value.slice p5 (countsOf n f).length c5).ownBlock = some g → (wr.alloc (.cells #[.int .i64 xa, .int .i64 xb] 45)).heap.size ≤ g := fun g hg => (HR6.out.lt g hg).1
          have HR6' := Lib.hid (ownsRow_keptS HR6.out k67 (fun g hg e => by have := hrb g hg; simp at this; omega))
          have HBX7 := Lib.hid ((k67.block w5.heap.size z6 (by omega)).trans HBX6.out)
          have y0 : w7.cell? ⟨w5.heap.size, 0, none⟩ = some (.int .i64 5) := by simp [World.cell?, HBX7.out]
          have y1 : w7.cell? ⟨w5.heap.size, 1, none⟩ = some (.int .i64 (seq + 1)) := by simp [World.cell?, HBX7.out]
          have y2 : w7.cell? ⟨w5.heap.size, 2, none⟩ = some (.int .i64 (n : Int)) := by simp [World.cell?, HBX7.out]
          have y3 : w7.cell? ⟨w5.heap.size, 3, none⟩ = some (.slice p5 (countsOf n f).length c5) := by simp [World.cell?, HBX7.out]
          have z57 : w5.heap.size < w7.heap.size := by omega
          have kD : Kept (fun _ => False) w7 (w7.alloc (.cells #[.int .i64 5, .int .i64 (seq + 1), .int .i64 (n : Int), .slice p7 (countsOf n f).length c7] 48)) := Kept.alloc _ _ _
          have hle := countsOf_length_le n f
          have HSN := Lib.hid (sameNote_true _ 5 (seq + 1) n _ _ _ ((countsAt_of_row HR6'.out).kept kD (fun _ _ h => h)) ((countsAt_of_row HR7.out).kept kD (fun _ _ h => h)) (by omega))
          clear d6 hrb
          go_wp2_with fail
          refine HSN.out.mono ?_
          rintro e w8 ⟨rfl, hk8⟩
          have k78 : Kept (fun _ => False) w7 w8 := kD.trans hk8 (fun _ _ h => h)
          go_wp2
          go_roundw
          case rel =>
            refine ⟨k + 1, by omega, by go_num, ⟨emptyF, seq + 1, HT7.out.kept k78 (fun _ h => h.elim), HU7.out.kept k78 (fun _ h => h.elim), fun j => by simp [emptyF]; omega, by omega⟩, ?_⟩
            exact (((((hK.trans kA (fun _ _ h => h.elim)).trans hk5 (fun i _ h => by omega)).trans k56 (fun _ _ h => h.elim)).trans k67 (fun i _ h => by omega)).trans k78 (fun _ _ h => h.elim))
          case measure => simp [intOf]; omega
      · have hd3 : (xa % 3 != 2) = true := by rw [bne_iff_ne]; exact hd
        clear hd
        go_wp2_with fail
        refine (pick_any _ xa 3 (by omega) (by omega) hw1).mono ?_
        rintro e w' ⟨rfl, rfl⟩
        have d1 : (wr.alloc (.cells #[.int .i64 xa, .int .i64 xb] 45)).cell? ⟨wr.heap.size, 1, none⟩ = some (.int .i64 xb) := World.cell?_alloc_new wr #[.int .i64 xa, .int .i64 xb] 45 1
        have hlt0 : (⟨wr.heap.size, 1, none⟩ : Addr).block < (wr.alloc (.cells #[.int .i64 xa, .int .i64 xb] 45)).heap.size := by simp
        by_cases hin : 1 ≤ xb ∧ xb ≤ n
        · obtain ⟨hi1, hi2⟩ := hin
          generalize hW : wr.alloc (.cells #[.int .i64 xa, .int .i64 xb] 45) = W at *
          have hft : ∀ j, f j < 1099511627776 := fun j => by have := HF.out j; omega
          have HFT := Lib.hid hft
          clear hft hW
          go_wp2_with fail
          go_region_held3 (fun w' => w'.cell? ⟨wr.heap.size, 1, none⟩ = some (.int .i64 xb))
            (first | exact d1 | exact y2 | exact y1)
            ((first
              | (go_at_call_of 24 (Value.pointer (some ⟨bt, 0, none⟩)); refine (closed_ok _ (by exact HT1.out.drewK) xb hi1 hi2 HFT.out).mono ?_; rintro e w5 ⟨rfl, hh5, hk5⟩; have y1 := (hk5.cell (p := ⟨wr.heap.size, 1, none⟩) hlt0 (by simp only; omega)).trans d1; have HT5 := Lib.hid hh5; clear hh5; have HU5 := Lib.hid (HU1.out.drewK.kept hk5 (fun i h => by omega)))
              | (go_at_call_of 24 (Value.pointer (some ⟨ct, 0, none⟩)); refine (closed_ok _ (by exact HU5.out) xb hi1 hi2 HFT.out).mono ?_; rintro e w6 ⟨rfl, hh6, hk6⟩; have y2 := (hk6.cell (p := ⟨wr.heap.size, 1, none⟩) (Nat.lt_of_lt_of_le hlt0 hk5.size) (by simp only; omega)).trans y1; have HU6 := Lib.hid hh6; clear hh6; have HT6 := Lib.hid (HT5.out.kept hk6 (fun i h => by omega)))))
          go_wp2
          go_roundw
          case rel =>
            refine ⟨k + 1, by omega, by go_num, ⟨upd f xb 1, seq, HT6.out, HU6.out, fun j => by have := HF.out j; unfold upd; split <;> omega, by omega⟩, ?_⟩
            have q5 : Kept (fun i => i = bm) W w5 := (Kept.refl (fun i => i = bm) W).drew.trans hk5 (fun _ _ h => h)
            exact ((hK.trans kA (fun _ _ h => h.elim)).trans q5 (fun i _ h => .inr (.inl h))).trans hk6 (fun i _ h => .inr (.inr (.inr h)))
          case measure => simp [intOf]; omega
        · have hin' : xb < 1 ∨ (n : Int) < xb := by omega
          generalize hW : wr.alloc (.cells #[.int .i64 xa, .int .i64 xb] 45) = W at *
          have HIN := Lib.hid hin'
          clear hin hin' hW
          go_wp2_with fail
          go_region_held3 (fun w' => w'.cell? ⟨wr.heap.size, 1, none⟩ = some (.int .i64 xb))
            (first | exact d1 | exact y2 | exact y1)
            ((first
              | (go_at_call_of 24 (Value.pointer (some ⟨bt, 0, none⟩)); refine (closed_odd _ (by exact HT1.out.drewK) xb HIN.out).mono ?_; rintro e w5 ⟨rfl, hk5⟩; have y1 := (hk5.cell (p := ⟨wr.heap.size, 1, none⟩) hlt0 (fun h => h)).trans d1; have HT5 := Lib.hid (HT1.out.drewK.kept hk5 (fun i h => h.elim)); have HU5 := Lib.hid (HU1.out.drewK.kept hk5 (fun i h => h.elim)))
              | (go_at_call_of 24 (Value.pointer (some ⟨ct, 0, none⟩)); refine (closed_odd _ (by exact HU5.out) xb HIN.out).mono ?_; rintro e w6 ⟨rfl, hk6⟩; have y2 := (hk6.cell (p := ⟨wr.heap.size, 1, none⟩) (Nat.lt_of_lt_of_le hlt0 hk5.size) (fun h => h)).trans y1; have HU6 := Lib.hid (HU5.out.kept hk6 (fun i h => h.elim)); have HT6 := Lib.hid (HT5.out.kept hk6 (fun i h => h.elim)))))
          go_wp2
          go_roundw
          case rel =>
            refine ⟨k + 1, by omega, by go_num, ⟨f, seq, HT6.out, HU6.out, fun j => by have := HF.out j; omega, by omega⟩, ?_⟩
            have q5 : Kept (fun _ => False) W w5 := (Kept.refl (fun _ => False) W).drew.trans hk5 (fun _ _ h => h)
            exact ((hK.trans kA (fun _ _ h => h.elim)).trans q5 (fun i _ h => h.elim)).trans hk6 (fun i _ h => h.elim)
          case measure => simp [intOf]; omega
    · go_wp2_with fail
      refine (seq_any _ HT.out).mono ?_
      rintro e w' ⟨rfl, rfl⟩
      go_wp2_with fail
      refine (seq_any _ HU.out).mono ?_
      rintro e w' ⟨rfl, rfl⟩
      go_wp2_with fail
      refine (open_any _ HT.out).mono ?_
      rintro e w5 ⟨v5, rfl, hr5, hn5, hb5⟩
      have HR5 := Lib.hid hr5
      have HU5 := Lib.hid (HU.out.kept (Kept.below hb5) (fun _ h => h.elim))
      clear hr5 hn5
      go_wp2_with fail
      refine (open_any _ HU5.out).mono ?_
      rintro e w6 ⟨v6, rfl, hr6, hn6, hb6⟩
      have HR5' := Lib.hid (ownsRow_keptS HR5.out (Kept.below hb6) (fun _ _ h => h))
      have hle := countsOf_length_le n f
      have HSN := Lib.hid (sameCounts_true _ _ _ _ (countsAt_of_row HR5'.out) (countsAt_of_row hr6) (by omega))
      clear hr6 hn6
      go_wp2_with fail
      refine HSN.out.mono ?_
      rintro e w7 ⟨rfl, hk7⟩
      go_wp2
      go_ret
      refine ⟨rfl, ?_⟩
      have q1 := ((Kept.below hb1).trans (Kept.below hb2) (fun _ _ h => h)).trans (Kept.below hb3) (fun _ _ h => h)
      have q2 := q1.trans hK (fun i h h2 => by omega)
      have q3 := ((q2.trans (Kept.below hb5) (fun _ _ h => h)).trans (Kept.below hb6) (fun _ _ h => h)).trans hk7 (fun _ _ h => h)
      exact q3.toBelow (Nat.le_refl _) (fun i h => h.elim)

theorem idle_all (n every : Int) (p : Option Addr) (xs : List (Int × Int)) (cap : Nat) (w : World) (hl : xs.length ≤ maxLen) (hp : PairsIn w p xs) :
    Calls Try.prog 7 #[.int .i64 n, .int .i64 every, .slice p xs.length cap] w fun e w' => e = .returned (.bool true) ∧ Below w.heap.size w w' := by
  by_cases h : 300 < xs.length
  · exact idle_long w n every p xs.length cap h hl
  · by_cases hb : badT 5 n every
    · exact idle_bad w n every p xs.length cap (by omega) hb
    · unfold badT at hb
      obtain ⟨m, rfl⟩ := Int.eq_ofNat_of_zero_le (show 0 ≤ n by omega)
      exact idle_good w m every (by omega) (by omega) (by omega) (by omega) p xs cap (by omega) hp.1 hp.2

end Go.Proofs.Ytacbmpffpfaciaa
