/-
  TellDoes's walk. (Printed by wip/gen/telldoes.py.)
-/
import Derived.Test.YtacbmpffpfaciaaTellJ
import Derived.Test.YtacbmpffpfaciaaOpen
namespace Go.Proofs.Ytacbmpffpfaciaa
open Go.RowKit Go.Maps Go.Shelf Go.Sort

set_option maxRecDepth 100000
set_option maxHeartbeats 4000000

theorem RTellerAt.lts {w : World} {t r n : Nat} {stream every seq : Int} {f : Int → Int} (h : RTellerAt w t r n stream every seq f) : t < w.heap.size ∧ r < w.heap.size := ⟨h.lt, h.hist.lt⟩

theorem does_long (w : World) (stream n every : Int) (p : Option Addr) (len cap : Nat) (hl : 300 < len) (_hl2 : len ≤ maxLen) :
    Calls Try.prog 4 #[.int .i64 stream, .int .i64 n, .int .i64 every, .slice p len cap] w fun e w' => e = .returned (.bool true) ∧ Below w.heap.size w w' := by
  go_enter Try.func4, Try.ntmps4
  go_wp2_with fail
  refine (tawake_any _).mono ?_
  rintro e w1 ⟨rfl, hb1⟩
  go_wp2
  go_ret
  exact ⟨rfl, hb1⟩

theorem does_bad (w : World) (stream n every : Int) (p : Option Addr) (len cap : Nat) (hl : len ≤ 300) (hst : Wf64 stream) (hn : badT stream n every) :
    Calls Try.prog 4 #[.int .i64 stream, .int .i64 n, .int .i64 every, .slice p len cap] w fun e w' => e = .returned (.bool true) ∧ Below w.heap.size w w' := by
  have HN := Lib.hid hn
  have HS := Lib.hid hst
  clear hn hst
  go_enter Try.func4, Try.ntmps4
  go_wp2_with fail
  refine (tnew_no _ stream n every HS.out.1 HS.out.2 HN.out).mono ?_
  rintro e w2 ⟨rfl, hb2⟩
  go_wp2_with fail
  refine (rtnew_no _ stream n every HN.out).mono ?_
  rintro e w3 ⟨rfl, hb3⟩
  go_wp2_with fail
  go_loopw [13] (fun i wr => i = .int .i64 0 ∧ w3 = wr) (fun _ _ => 0)
  case atStart => exact ⟨rfl, rfl⟩
  case round =>
    obtain ⟨rfl, rfl⟩ := hrel
    have s2 := hb2.size
    by_cases h0 : (0 : Int) < len
    · go_wp2_with fail
      refine (tawake_any _).mono ?_
      rintro e w4 ⟨rfl, hb4⟩
      go_wp2
      go_ret
      have s3 := hb3.size
      exact ⟨rfl, (hb2.trans (hb3.mono s2)).trans (hb4.mono (by omega))⟩
    · go_wp2_with fail
      refine (tawake_any _).mono ?_
      rintro e w4 ⟨rfl, hb4⟩
      go_wp2
      go_ret
      have s3 := hb3.size
      exact ⟨rfl, (hb2.trans (hb3.mono s2)).trans (hb4.mono (by omega))⟩

theorem does_good (w : World) (stream : Int) (n : Nat) (every : Int) (h1 : 1 ≤ n) (h2 : n ≤ 255) (s1 : 0 ≤ stream) (s2 : stream ≤ 65535) (e1 : 1 ≤ every) (e2 : every ≤ 1000) (p : Option Addr) (xs : List (Int × Int)) (cap : Nat) (hl : xs.length ≤ 300)
    (hwf : ∀ x ∈ xs, Wf64 x.1 ∧ Wf64 x.2)
    (hp : 0 < xs.length → ∃ g off, p = some ⟨g, off, none⟩ ∧ g < w.heap.size ∧ ∀ j x, xs[j]? = some x → w.cell? ⟨g, off + j * 2, none⟩ = some (.int .i64 x.1) ∧ w.cell? ⟨g, off + j * 2 + 1, none⟩ = some (.int .i64 x.2)) :
    Calls Try.prog 4 #[.int .i64 stream, .int .i64 (n : Int), .int .i64 every, .slice p xs.length cap] w fun e w' => e = .returned (.bool true) ∧ Below w.heap.size w w' := by
  have HP := Lib.hid hp
  have HW := Lib.hid hwf
  clear hp hwf
  go_enter Try.func4, Try.ntmps4
  go_wp2_with fail
  refine (tnew_yes _ stream every n h1 h2 s1 s2 e1 e2).mono ?_
  rintro e w2 ⟨bt, be, bv, br, b, bm, rfl, hh2, hb2, hl2⟩
  have H2 := Lib.hid hh2
  clear hh2
  go_wp2_with fail
  refine (rtnew_yes _ stream every n h1 h2 s1 s2 e1 e2).mono ?_
  rintro e w3 ⟨t, r, rfl, hh3, hb3, hl3⟩
  have H3 := Lib.hid (And.intro (H2.out.kept (Kept.below hb3) (fun _ h => h.elim)) hh3)
  have L2 := H2.out.lts
  have L3 := hh3.lts
  have L4 := hh3.ne
  clear hh3
  have y2 := hb2.size
  have y3 := hb3.size
  go_wp2_with fail
  go_loopw [13] (fun i wr => ∃ k : Nat, k ≤ xs.length ∧ i = .int .i64 k ∧ (∃ (f : Int → Int) (seq : Int), TellerAt wr bt be bv br b bm n stream every seq f ∧ RTellerAt wr t r n stream every seq f ∧ ((∀ j, f j ≤ k) ∧ seq ≤ k)) ∧ Kept (fun i => i = bt ∨ i = bm ∨ i = t ∨ i = r) w3 wr) (fun i _ => xs.length - (intOf i).toNat)
  case atStart => exact ⟨0, Nat.zero_le _, rfl, ⟨emptyF, 0, H3.out.1, H3.out.2, fun j => by simp [emptyF], by simp⟩, Kept.refl _ _⟩
  case round =>
    obtain ⟨k, hk, rfl, ⟨f, seq, ht, hu, hfk, hsk⟩, hK⟩ := hrel
    have hsq0 := ht.sq1
    have hsq9 := ht.sq2
    have HT := Lib.hid ht
    have HU := Lib.hid hu
    have HF := Lib.hid hfk
    clear ht hu hfk
    have sK := hK.size
    by_cases hlt : k < xs.length
    · obtain ⟨g, off, rfl, hg, hcs⟩ := HP.out (by omega)
      obtain ⟨x, hx⟩ : ∃ x, xs[k]? = some x := ⟨_, List.getElem?_eq_getElem hlt⟩
      obtain ⟨hw1, hw2⟩ := HW.out x (List.mem_of_getElem? hx)
      have cc : ∀ o v, w.cell? ⟨g, o, none⟩ = some v → wr.cell? ⟨g, o, none⟩ = some v := by
        intro o v hv
        rw [hK.cell (p := ⟨g, o, none⟩) (by simp only; omega) (by simp only; omega), hb3.cell (p := ⟨g, o, none⟩) (by simp only; omega), hb2.cell (p := ⟨g, o, none⟩) (by simp only; omega)]
        exact hv
      have c1 := cc _ _ (hcs k x hx).1
      have c2 := cc _ _ (hcs k x hx).2
      clear cc hcs hx
      obtain ⟨xa, xb⟩ := x
      simp only at c1 c2 hw1 hw2
      have kA : Kept (fun _ => False) wr (wr.alloc (.cells #[.int .i64 xa, .int .i64 xb] 45)) := Kept.alloc _ _ _
      have HT1 := Lib.hid (HT.out.kept kA (fun _ h => h.elim))
      have HU1 := Lib.hid (HU.out.kept kA (fun _ h => h.elim))
      by_cases hd : xa % 3 = 2
      · have HD := Lib.hid hd
        clear hd
        go_wp2_with fail
        refine (pick_any _ xa 3 (by omega) (by omega) hw1).mono ?_
        rintro e w' ⟨rfl, rfl⟩
        rw [HD.out]
        cases hb : tickB xb every seq n f
        · have HB := Lib.hid hb
          clear hb
          go_wp2_with fail
          refine (tick_no _ HT1.out xb HB.out).mono ?_
          rintro e v1 ⟨rfl, hk1⟩
          have HT2 := Lib.hid (HT1.out.kept hk1 (fun _ h => h.elim))
          have HU2 := Lib.hid (HU1.out.kept hk1 (fun _ h => h.elim))
          have kB : Kept (fun _ => False) v1 (v1.alloc (.cells #[.int .i64 0, .int .i64 0, .int .i64 0, .slice none 0 0] 48)) := Kept.alloc _ _ _
          have d2 : v1.cell? ⟨wr.heap.size, 1, none⟩ = some (.int .i64 xb) := (hk1.cell (p := ⟨wr.heap.size, 1, none⟩) (by simp) (fun h => h)).trans (World.cell?_alloc_new wr #[.int .i64 xa, .int .i64 xb] 45 1)
          have u1 : wr.heap.size < v1.heap.size := by have := hk1.size; simp at this; omega
          go_wp2_with fail
          refine (rtick_no _ (HU2.out.kept kB (fun _ h => h.elim)) xb HB.out).mono ?_
          rintro e v2 ⟨rfl, hk2⟩
          have HT3 := Lib.hid ((HT2.out.kept kB (fun _ h => h.elim)).kept hk2 (fun _ h => h.elim))
          have HU3 := Lib.hid ((HU2.out.kept kB (fun _ h => h.elim)).kept hk2 (fun _ h => h.elim))
          have HBX := Lib.hid ((hk2.block v1.heap.size (by simp) (fun h => h)).trans (World.alloc_heap_new v1 (.cells #[.int .i64 0, .int .i64 0, .int .i64 0, .slice none 0 0] 48)))
          have x0 : v2.cell? ⟨v1.heap.size, 0, none⟩ = some (.int .i64 0) := by simp [World.cell?, HBX.out]
          have x1 : v2.cell? ⟨v1.heap.size, 1, none⟩ = some (.int .i64 0) := by simp [World.cell?, HBX.out]
          have x2 : v2.cell? ⟨v1.heap.size, 2, none⟩ = some (.int .i64 0) := by simp [World.cell?, HBX.out]
          have xx : v2.cell? ⟨v1.heap.size, 3, none⟩ = some (.slice none 0 0) := by simp [World.cell?, HBX.out]
          have u2 : v1.heap.size < v2.heap.size := by have := hk2.size; simp at this; omega
          have kC : Kept (fun _ => False) v2 (v2.alloc (.cells #[.int .i64 0, .int .i64 0, .int .i64 0, .slice none 0 0] 48)) := Kept.alloc _ _ _
          have HSN := Lib.hid (sameNote_true (v2.alloc (.cells #[.int .i64 0, .int .i64 0, .int .i64 0, .slice none 0 0] 48)) 0 0 0 (.slice none 0 0) (.slice none 0 0) [] (.inl ⟨rfl, rfl⟩) (.inl ⟨rfl, rfl⟩) (by simp))
          clear d2
          go_wp2_with fail
          refine HSN.out.mono ?_
          rintro e v3 ⟨rfl, hk3⟩
          have k23 : Kept (fun _ => False) v2 v3 := kC.trans hk3 (fun _ _ h => h)
          have x3 : v3.cell? ⟨v1.heap.size, 3, none⟩ = some (.slice none 0 0) := (k23.cell (p := ⟨v1.heap.size, 3, none⟩) u2 (fun h => h)).trans xx
          clear x0 x1 x2 xx
          go_wp2_with fail
          refine (over_nil _).mono ?_
          rintro e w5 ⟨rfl, rfl⟩
          have HT5 := Lib.hid (HT3.out.kept k23 (fun _ h => h.elim))
          have HU5 := Lib.hid (HU3.out.kept k23 (fun _ h => h.elim))
          have hK5 : Kept (fun i => i = bt ∨ i = bm ∨ i = t ∨ i = r) w3 v3 := ((((hK.trans kA (fun _ _ h => h.elim)).trans hk1 (fun _ _ h => h.elim)).trans kB (fun _ _ h => h.elim)).trans hk2 (fun _ _ h => h.elim)).trans k23 (fun _ _ h => h.elim)
          clear x3
          have hfb5 : (∀ j, f j ≤ ((k + 1 : Nat) : Int)) ∧ seq ≤ ((k + 1 : Nat) : Int) := ⟨fun j => by have := HF.out j; omega, by omega⟩
          have HB5 := Lib.hid hfb5
          clear hfb5
          have hq5 : -1 ≤ seq := by omega
          have z50 := hK5.size
          go_wp2_with fail
          refine (open_any _ HT5.out).mono ?_
          rintro e w6 ⟨v6, rfl, hr6, hn6, hb6⟩
          obtain ⟨p6, c6, rfl⟩ := (countsAt_of_row hr6).shape
          have HR6 := Lib.hid hr6
          have HT6 := Lib.hid (HT5.out.kept (Kept.below hb6) (fun _ h => h.elim))
          have hU6 := HU5.out.kept (Kept.below hb6) (fun _ h => h.elim)
          have x3 := hU6.c3
          have x4 := hU6.c4
          have y3 : w6.drew.cell? ⟨t, 3, none⟩ = _ := x3
          have y4 : w6.drew.cell? ⟨t, 4, none⟩ = _ := x4
          have ht6 : t < w6.heap.size := hU6.lt
          have HU6 := Lib.hid hU6
          have z6 := hb6.size
          clear hr6 hn6 hU6
          have hle := countsOf_length_le n f
          go_wp2_with fail
          go_region_held3 (fun w' => w'.cell? ⟨t, 3, none⟩ = some (.int .i64 seq) ∧ w'.cell? ⟨t, 4, none⟩ = some (.pointer (some ⟨r, 0, none⟩)))
            (first | with_reducible exact ⟨x3, x4⟩ | with_reducible exact ⟨y3, y4⟩ | with_reducible exact ⟨a3, a4⟩ | with_reducible exact ⟨b3, b4⟩)
            ((first
              | (go_at_call 27; refine (rcounts_any _ r n f (by exact HU6.out.drewK.hist)).mono ?_; rintro e w7 ⟨v7, rfl, hr7, hb7⟩; obtain ⟨p7, c7, rfl⟩ := (countsAt_of_row hr7).shape; have HR7 := Lib.hid hr7; clear hr7; have a3 := (hb7.cell (p := ⟨t, 3, none⟩) ht6).trans y3; have a4 := (hb7.cell (p := ⟨t, 4, none⟩) ht6).trans y4; have HR67 := Lib.hid (ownsRow_keptS HR6.out ((Kept.refl (fun _ => False) w6).drew.trans (Kept.below hb7) (fun _ _ h => h)) (fun _ _ h => h)))
              | (go_at_call 14; refine (sameCounts_true _ _ _ _ (countsAt_of_row HR67.out) (countsAt_of_row HR7.out) (by omega)).mono ?_; rintro e w8 ⟨rfl, hk8⟩; have ht7 : t < w7.heap.size := Nat.lt_of_lt_of_le ht6 hb7.size; have b3 := (hk8.cell (p := ⟨t, 3, none⟩) ht7 (fun h => h)).trans a3; have b4 := (hk8.cell (p := ⟨t, 4, none⟩) ht7 (fun h => h)).trans a4; have q78 := ((Kept.refl (fun _ => False) w6).drew.trans (Kept.below hb7) (fun _ _ h => h)).trans hk8 (fun _ _ h => h); have HT8 := Lib.hid (HT6.out.kept q78 (fun _ h => h.elim)))
              | (go_at_call 28; refine (seq_any _ (by exact HT8.out)).mono ?_; rintro e w9 ⟨rfl, rfl⟩)))
          have HR8 := Lib.hid (ownsRow_keptS HR6.out q78 (fun _ _ h => h))
          have HU8 := Lib.hid (HU6.out.kept q78 (fun _ h => h.elim))
          have z8 := q78.size
          go_wp2_with fail
          refine (over_any _ _ _ _ _ HR8.out (by omega)).mono ?_
          rintro e w9 ⟨rfl, hk9⟩
          have hg9 : ∀ i, (Value.slice p6 (countsOf n f).length c6).ownBlock = some i → v3.heap.size ≤ i := fun i hi => (HR8.out.lt i hi).1
          go_wp2
          go_roundw
          case rel =>
            have L5 := HT5.out.lts
            have L6 := HU5.out.lt
            have L7 := HU5.out.hist.lt
            refine ⟨k + 1, by omega, by go_num, ⟨f, seq, HT8.out.kept hk9 (fun i h => by have := hg9 i h; omega), HU8.out.kept hk9 (fun i h => by have := hg9 i h; omega), HB5.out⟩, ?_⟩
            exact ((hK5.trans (Kept.below hb6) (fun _ _ h => h.elim)).trans q78 (fun _ _ h => h.elim)).trans hk9 (fun i h1 h2 => by have := hg9 i h2; omega)
          case measure => simp [intOf]; omega
        · have HB := Lib.hid hb
          clear hb
          go_wp2_with fail
          refine (tick_yes _ HT1.out xb HB.out).mono ?_
          rintro e v1 ⟨q1, rfl, hr1, hT1, hk1⟩
          obtain ⟨p1, c1', rfl⟩ := (countsAt_of_row hr1).shape
          have u1 : wr.heap.size < v1.heap.size := by have := hk1.size; simp at this; omega
          have d2 : v1.cell? ⟨wr.heap.size, 1, none⟩ = some (.int .i64 xb) := (hk1.cell (p := ⟨wr.heap.size, 1, none⟩) (by simp) (by simp only; omega)).trans (World.cell?_alloc_new wr #[.int .i64 xa, .int .i64 xb] 45 1)
          have HT2 := Lib.hid hT1
          have HU2 := Lib.hid (HU1.out.kept hk1 (fun i h => by omega))
          have HR1 := Lib.hid hr1
          clear hT1 hr1
          have kB : Kept (fun _ => False) v1 (v1.alloc (.cells #[.int .i64 stream, .int .i64 (seq + 1), .int .i64 (n : Int), .slice p1 (countsOf n f).length c1'] 48)) := Kept.alloc _ _ _
          have HBX := Lib.hid (World.alloc_heap_new v1 (.cells #[.int .i64 stream, .int .i64 (seq + 1), .int .i64 (n : Int), .slice p1 (countsOf n f).length c1'] 48))
          go_wp2_with fail
          refine (rtick_yes _ (HU2.out.kept kB (fun _ h => h.elim)) xb HB.out).mono ?_
          rintro e v2 ⟨q2, rfl, hr2, hU2, hk2⟩
          obtain ⟨p2, c2', rfl⟩ := (countsAt_of_row hr2).shape
          have u2 : v1.heap.size < v2.heap.size := by have := hk2.size; simp at this; omega
          have k12 : Kept (fun i => i = t ∨ i = r) v1 v2 := (kB.mono (fun _ _ h => h.elim)).trans hk2 (fun _ _ h => h)
          have HT3 := Lib.hid (HT2.out.kept k12 (fun i h => by omega))
          have HU3 := Lib.hid hU2
          have HR2 := Lib.hid hr2
          clear hU2 hr2
          have hrb : ∀ g, (Value.slice p1 (countsOf n f).length c1').ownBlock = some g → wr.heap.size + 1 ≤ g := fun g hg => by have := (HR1.out.lt g hg).1; simpa using this
          have HR1' := Lib.hid (ownsRow_keptS HR1.out k12 (fun g hg e => by have := hrb g hg; omega))
          have HBX' := Lib.hid ((hk2.block v1.heap.size (by simp) (by omega)).trans HBX.out)
          have x0 : v2.cell? ⟨v1.heap.size, 0, none⟩ = some (.int .i64 stream) := by simp [World.cell?, HBX'.out]
          have x1 : v2.cell? ⟨v1.heap.size, 1, none⟩ = some (.int .i64 (seq + 1)) := by simp [World.cell?, HBX'.out]
          have x2 : v2.cell? ⟨v1.heap.size, 2, none⟩ = some (.int .i64 (n : Int)) := by simp [World.cell?, HBX'.out]
          have xx : v2.cell? ⟨v1.heap.size, 3, none⟩ = some (.slice p1 (countsOf n f).length c1') := by simp [World.cell?, HBX'.out]
          have kC : Kept (fun _ => False) v2 (v2.alloc (.cells #[.int .i64 stream, .int .i64 (seq + 1), .int .i64 (n : Int), .slice p2 (countsOf n f).length c2'] 48)) := Kept.alloc _ _ _
          have hle0 := countsOf_length_le n f
          have HSN := Lib.hid (sameNote_true _ stream (seq + 1) n _ _ _ ((countsAt_of_row HR1'.out).kept kC (fun _ _ h => h)) ((countsAt_of_row HR2.out).kept kC (fun _ _ h => h)) (by omega))
          clear d2 hrb
          go_wp2_with fail
          refine HSN.out.mono ?_
          rintro e v3 ⟨rfl, hk3⟩
          have k23 : Kept (fun _ => False) v2 v3 := kC.trans hk3 (fun _ _ h => h)
          have x3 : v3.cell? ⟨v1.heap.size, 3, none⟩ = some (.slice p1 (countsOf n f).length c1') := (k23.cell (p := ⟨v1.heap.size, 3, none⟩) u2 (fun h => h)).trans xx
          clear x0 x1 x2 xx
          have HR13 := Lib.hid (ownsRow_keptS HR1'.out k23 (fun _ _ h => h))
          go_wp2_with fail
          refine (over_any _ _ _ _ _ HR13.out (by omega)).mono ?_
          rintro e w5 ⟨rfl, hk4⟩
          have hg4 : ∀ i, (Value.slice p1 (countsOf n f).length c1').ownBlock = some i → wr.heap.size + 1 ≤ i := fun i hi => by have := (HR13.out.lt i hi).1; simpa using this
          have hne4 : ∀ i, (Value.slice p1 (countsOf n f).length c1').ownBlock = some i → i ≠ bt ∧ i ≠ be ∧ i ≠ bv ∧ i ≠ br ∧ i ≠ b ∧ i ≠ bm ∧ i ≠ t ∧ i ≠ r := fun i hi => by have := hg4 i hi; omega
          have HT5 := Lib.hid ((HT3.out.kept k23 (fun _ h => h.elim)).kept hk4 (fun i h => by have := hne4 i h; omega))
          have HU5 := Lib.hid ((HU3.out.kept k23 (fun _ h => h.elim)).kept hk4 (fun i h => by have := hne4 i h; omega))
          have hK5 : Kept (fun i => i = bt ∨ i = bm ∨ i = t ∨ i = r) w3 w5 := ((((hK.trans kA (fun _ _ h => h.elim)).trans hk1 (fun i _ h => by omega)).trans k12 (fun i _ h => by omega)).trans k23 (fun _ _ h => h.elim)).trans hk4 (fun i h1 h2 => by have := hg4 i h2; omega)
          clear x3 hg4 hne4
          have hfb5 : (∀ j, emptyF j ≤ ((k + 1 : Nat) : Int)) ∧ seq + 1 ≤ ((k + 1 : Nat) : Int) := ⟨fun j => by simp [emptyF]; omega, by omega⟩
          have HB5 := Lib.hid hfb5
          clear hfb5
          have hq5 : -1 ≤ (seq + 1) := by omega
          have z50 := hK5.size
          go_wp2_with fail
          refine (open_any _ HT5.out).mono ?_
          rintro e w6 ⟨v6, rfl, hr6, hn6, hb6⟩
          obtain ⟨p6, c6, rfl⟩ := (countsAt_of_row hr6).shape
          have HR6 := Lib.hid hr6
          have HT6 := Lib.hid (HT5.out.kept (Kept.below hb6) (fun _ h => h.elim))
          have hU6 := HU5.out.kept (Kept.below hb6) (fun _ h => h.elim)
          have x3 := hU6.c3
          have x4 := hU6.c4
          have y3 : w6.drew.cell? ⟨t, 3, none⟩ = _ := x3
          have y4 : w6.drew.cell? ⟨t, 4, none⟩ = _ := x4
          have ht6 : t < w6.heap.size := hU6.lt
          have HU6 := Lib.hid hU6
          have z6 := hb6.size
          clear hr6 hn6 hU6
          have hle := countsOf_length_le n emptyF
          go_wp2_with fail
          go_region_held3 (fun w' => w'.cell? ⟨t, 3, none⟩ = some (.int .i64 (seq + 1)) ∧ w'.cell? ⟨t, 4, none⟩ = some (.pointer (some ⟨r, 0, none⟩)))
            (first | with_reducible exact ⟨x3, x4⟩ | with_reducible exact ⟨y3, y4⟩ | with_reducible exact ⟨a3, a4⟩ | with_reducible exact ⟨b3, b4⟩)
            ((first
              | (go_at_call 27; refine (rcounts_any _ r n emptyF (by exact HU6.out.drewK.hist)).mono ?_; rintro e w7 ⟨v7, rfl, hr7, hb7⟩; obtain ⟨p7, c7, rfl⟩ := (countsAt_of_row hr7).shape; have HR7 := Lib.hid hr7; clear hr7; have a3 := (hb7.cell (p := ⟨t, 3, none⟩) ht6).trans y3; have a4 := (hb7.cell (p := ⟨t, 4, none⟩) ht6).trans y4; have HR67 := Lib.hid (ownsRow_keptS HR6.out ((Kept.refl (fun _ => False) w6).drew.trans (Kept.below hb7) (fun _ _ h => h)) (fun _ _ h => h)))
              | (go_at_call 14; refine (sameCounts_true _ _ _ _ (countsAt_of_row HR67.out) (countsAt_of_row HR7.out) (by omega)).mono ?_; rintro e w8 ⟨rfl, hk8⟩; have ht7 : t < w7.heap.size := Nat.lt_of_lt_of_le ht6 hb7.size; have b3 := (hk8.cell (p := ⟨t, 3, none⟩) ht7 (fun h => h)).trans a3; have b4 := (hk8.cell (p := ⟨t, 4, none⟩) ht7 (fun h => h)).trans a4; have q78 := ((Kept.refl (fun _ => False) w6).drew.trans (Kept.below hb7) (fun _ _ h => h)).trans hk8 (fun _ _ h => h); have HT8 := Lib.hid (HT6.out.kept q78 (fun _ h => h.elim)))
              | (go_at_call 28; refine (seq_any _ (by exact HT8.out)).mono ?_; rintro e w9 ⟨rfl, rfl⟩)))
          have HR8 := Lib.hid (ownsRow_keptS HR6.out q78 (fun _ _ h => h))
          have HU8 := Lib.hid (HU6.out.kept q78 (fun _ h => h.elim))
          have z8 := q78.size
          go_wp2_with fail
          refine (over_any _ _ _ _ _ HR8.out (by omega)).mono ?_
          rintro e w9 ⟨rfl, hk9⟩
          have hg9 : ∀ i, (Value.slice p6 (countsOf n emptyF).length c6).ownBlock = some i → w5.heap.size ≤ i := fun i hi => (HR8.out.lt i hi).1
          go_wp2
          go_roundw
          case rel =>
            have L5 := HT5.out.lts
            have L6 := HU5.out.lt
            have L7 := HU5.out.hist.lt
            refine ⟨k + 1, by omega, by go_num, ⟨emptyF, (seq + 1), HT8.out.kept hk9 (fun i h => by have := hg9 i h; omega), HU8.out.kept hk9 (fun i h => by have := hg9 i h; omega), HB5.out⟩, ?_⟩
            exact ((hK5.trans (Kept.below hb6) (fun _ _ h => h.elim)).trans q78 (fun _ _ h => h.elim)).trans hk9 (fun i h1 h2 => by have := hg9 i h2; omega)
          case measure => simp [intOf]; omega
      · have hd3 : (xa % 3 != 2) = true := by rw [bne_iff_ne]; exact hd
        clear hd
        go_wp2_with fail
        refine (pick_any _ xa 3 (by omega) (by omega) hw1).mono ?_
        rintro e w' ⟨rfl, rfl⟩
        have d1 : (wr.alloc (.cells #[.int .i64 xa, .int .i64 xb] 45)).cell? ⟨wr.heap.size, 1, none⟩ = some (.int .i64 xb) := World.cell?_alloc_new wr #[.int .i64 xa, .int .i64 xb] 45 1
        have hlt0 : (⟨wr.heap.size, 1, none⟩ : Addr).block < (wr.alloc (.cells #[.int .i64 xa, .int .i64 xb] 45)).heap.size := by simp
        by_cases hin : 1 ≤ xb ∧ xb ≤ n
        · obtain ⟨hi1, hi2⟩ := hin
          generalize hW : wr.alloc (.cells #[.int .i64 xa, .int .i64 xb] 45) = W at *
          have hft : ∀ j, f j < 1099511627776 := fun j => by have := HF.out j; omega
          have HFT := Lib.hid hft
          clear hft hW
          go_wp2_with fail
          go_region_held3 (fun w' => w'.cell? ⟨wr.heap.size, 1, none⟩ = some (.int .i64 xb))
            (first | exact d1 | exact m2 | exact m1)
            ((first
              | (go_at_call 24; refine (closed_ok _ (by exact HT1.out.drewK) xb hi1 hi2 HFT.out).mono ?_; rintro e v5 ⟨rfl, hh5, hk5⟩; have m1 := (hk5.cell (p := ⟨wr.heap.size, 1, none⟩) hlt0 (by simp only; omega)).trans d1; have HT2 := Lib.hid hh5; clear hh5; have HU2 := Lib.hid (HU1.out.drewK.kept hk5 (fun i h => by omega)))
              | (go_at_call 25; refine (rclosed_ok _ (by exact HU2.out) xb hi1 hi2 HFT.out).mono ?_; rintro e w5 ⟨rfl, hh6, hk6⟩; have m2 := (hk6.cell (p := ⟨wr.heap.size, 1, none⟩) (Nat.lt_of_lt_of_le hlt0 hk5.size) (by simp only; omega)).trans m1; have HU5 := Lib.hid hh6; clear hh6; have HT5 := Lib.hid (HT2.out.kept hk6 (fun i h => by omega)))))
          have q5 : Kept (fun i => i = bm) W v5 := (Kept.refl (fun i => i = bm) W).drew.trans hk5 (fun _ _ h => h)
          have hK5 : Kept (fun i => i = bt ∨ i = bm ∨ i = t ∨ i = r) w3 w5 := ((hK.trans kA (fun _ _ h => h.elim)).trans q5 (fun i _ h => by omega)).trans hk6 (fun i _ h => by omega)
          clear m1 m2
          have hfb5 : (∀ j, upd f xb 1 j ≤ ((k + 1 : Nat) : Int)) ∧ seq ≤ ((k + 1 : Nat) : Int) := ⟨fun j => by have := HF.out j; unfold upd; split <;> omega, by omega⟩
          have HB5 := Lib.hid hfb5
          clear hfb5
          have hq5 : -1 ≤ seq := by omega
          have z50 := hK5.size
          go_wp2_with fail
          refine (open_any _ HT5.out).mono ?_
          rintro e w6 ⟨v6, rfl, hr6, hn6, hb6⟩
          obtain ⟨p6, c6, rfl⟩ := (countsAt_of_row hr6).shape
          have HR6 := Lib.hid hr6
          have HT6 := Lib.hid (HT5.out.kept (Kept.below hb6) (fun _ h => h.elim))
          have hU6 := HU5.out.kept (Kept.below hb6) (fun _ h => h.elim)
          have x3 := hU6.c3
          have x4 := hU6.c4
          have y3 : w6.drew.cell? ⟨t, 3, none⟩ = _ := x3
          have y4 : w6.drew.cell? ⟨t, 4, none⟩ = _ := x4
          have ht6 : t < w6.heap.size := hU6.lt
          have HU6 := Lib.hid hU6
          have z6 := hb6.size
          clear hr6 hn6 hU6
          have hle := countsOf_length_le n (upd f xb 1)
          go_wp2_with fail
          go_region_held3 (fun w' => w'.cell? ⟨t, 3, none⟩ = some (.int .i64 seq) ∧ w'.cell? ⟨t, 4, none⟩ = some (.pointer (some ⟨r, 0, none⟩)))
            (first | with_reducible exact ⟨x3, x4⟩ | with_reducible exact ⟨y3, y4⟩ | with_reducible exact ⟨a3, a4⟩ | with_reducible exact ⟨b3, b4⟩)
            ((first
              | (go_at_call 27; refine (rcounts_any _ r n (upd f xb 1) (by exact HU6.out.drewK.hist)).mono ?_; rintro e w7 ⟨v7, rfl, hr7, hb7⟩; obtain ⟨p7, c7, rfl⟩ := (countsAt_of_row hr7).shape; have HR7 := Lib.hid hr7; clear hr7; have a3 := (hb7.cell (p := ⟨t, 3, none⟩) ht6).trans y3; have a4 := (hb7.cell (p := ⟨t, 4, none⟩) ht6).trans y4; have HR67 := Lib.hid (ownsRow_keptS HR6.out ((Kept.refl (fun _ => False) w6).drew.trans (Kept.below hb7) (fun _ _ h => h)) (fun _ _ h => h)))
              | (go_at_call 14; refine (sameCounts_true _ _ _ _ (countsAt_of_row HR67.out) (countsAt_of_row HR7.out) (by omega)).mono ?_; rintro e w8 ⟨rfl, hk8⟩; have ht7 : t < w7.heap.size := Nat.lt_of_lt_of_le ht6 hb7.size; have b3 := (hk8.cell (p := ⟨t, 3, none⟩) ht7 (fun h => h)).trans a3; have b4 := (hk8.cell (p := ⟨t, 4, none⟩) ht7 (fun h => h)).trans a4; have q78 := ((Kept.refl (fun _ => False) w6).drew.trans (Kept.below hb7) (fun _ _ h => h)).trans hk8 (fun _ _ h => h); have HT8 := Lib.hid (HT6.out.kept q78 (fun _ h => h.elim)))
              | (go_at_call 28; refine (seq_any _ (by exact HT8.out)).mono ?_; rintro e w9 ⟨rfl, rfl⟩)))
          have HR8 := Lib.hid (ownsRow_keptS HR6.out q78 (fun _ _ h => h))
          have HU8 := Lib.hid (HU6.out.kept q78 (fun _ h => h.elim))
          have z8 := q78.size
          go_wp2_with fail
          refine (over_any _ _ _ _ _ HR8.out (by omega)).mono ?_
          rintro e w9 ⟨rfl, hk9⟩
          have hg9 : ∀ i, (Value.slice p6 (countsOf n (upd f xb 1)).length c6).ownBlock = some i → w5.heap.size ≤ i := fun i hi => (HR8.out.lt i hi).1
          go_wp2
          go_roundw
          case rel =>
            have L5 := HT5.out.lts
            have L6 := HU5.out.lt
            have L7 := HU5.out.hist.lt
            refine ⟨k + 1, by omega, by go_num, ⟨(upd f xb 1), seq, HT8.out.kept hk9 (fun i h => by have := hg9 i h; omega), HU8.out.kept hk9 (fun i h => by have := hg9 i h; omega), HB5.out⟩, ?_⟩
            exact ((hK5.trans (Kept.below hb6) (fun _ _ h => h.elim)).trans q78 (fun _ _ h => h.elim)).trans hk9 (fun i h1 h2 => by have := hg9 i h2; omega)
          case measure => simp [intOf]; omega
        · have hin' : xb < 1 ∨ (n : Int) < xb := by omega
          generalize hW : wr.alloc (.cells #[.int .i64 xa, .int .i64 xb] 45) = W at *
          have HIN := Lib.hid hin'
          clear hin hin' hW
          go_wp2_with fail
          go_region_held3 (fun w' => w'.cell? ⟨wr.heap.size, 1, none⟩ = some (.int .i64 xb))
            (first | exact d1 | exact m1)
            ((first
              | (go_at_call 24; refine (closed_odd _ (by exact HT1.out.drewK) xb HIN.out).mono ?_; rintro e v5 ⟨rfl, hk5⟩; have m1 := (hk5.cell (p := ⟨wr.heap.size, 1, none⟩) hlt0 (fun h => h)).trans d1; have HT5 := Lib.hid (HT1.out.drewK.kept hk5 (fun i h => h.elim)); have HU5 := Lib.hid (HU1.out.drewK.kept hk5 (fun i h => h.elim)))
              | (go_at_call 25; refine (rclosed_odd _ (by exact HU5.out) xb HIN.out).mono ?_; rintro e v6 ⟨rfl, rfl⟩)))
          have q5 : Kept (fun _ => False) W v5 := (Kept.refl (fun _ => False) W).drew.trans hk5 (fun _ _ h => h)
          have hK5 : Kept (fun i => i = bt ∨ i = bm ∨ i = t ∨ i = r) w3 v5 := (hK.trans kA (fun _ _ h => h.elim)).trans q5 (fun i _ h => h.elim)
          clear m1
          have hfb5 : (∀ j, f j ≤ ((k + 1 : Nat) : Int)) ∧ seq ≤ ((k + 1 : Nat) : Int) := ⟨fun j => by have := HF.out j; omega, by omega⟩
          have HB5 := Lib.hid hfb5
          clear hfb5
          have hq5 : -1 ≤ seq := by omega
          have z50 := hK5.size
          go_wp2_with fail
          refine (open_any _ HT5.out).mono ?_
          rintro e w6 ⟨v6, rfl, hr6, hn6, hb6⟩
          obtain ⟨p6, c6, rfl⟩ := (countsAt_of_row hr6).shape
          have HR6 := Lib.hid hr6
          have HT6 := Lib.hid (HT5.out.kept (Kept.below hb6) (fun _ h => h.elim))
          have hU6 := HU5.out.kept (Kept.below hb6) (fun _ h => h.elim)
          have x3 := hU6.c3
          have x4 := hU6.c4
          have y3 : w6.drew.cell? ⟨t, 3, none⟩ = _ := x3
          have y4 : w6.drew.cell? ⟨t, 4, none⟩ = _ := x4
          have ht6 : t < w6.heap.size := hU6.lt
          have HU6 := Lib.hid hU6
          have z6 := hb6.size
          clear hr6 hn6 hU6
          have hle := countsOf_length_le n f
          go_wp2_with fail
          go_region_held3 (fun w' => w'.cell? ⟨t, 3, none⟩ = some (.int .i64 seq) ∧ w'.cell? ⟨t, 4, none⟩ = some (.pointer (some ⟨r, 0, none⟩)))
            (first | with_reducible exact ⟨x3, x4⟩ | with_reducible exact ⟨y3, y4⟩ | with_reducible exact ⟨a3, a4⟩ | with_reducible exact ⟨b3, b4⟩)
            ((first
              | (go_at_call 27; refine (rcounts_any _ r n f (by exact HU6.out.drewK.hist)).mono ?_; rintro e w7 ⟨v7, rfl, hr7, hb7⟩; obtain ⟨p7, c7, rfl⟩ := (countsAt_of_row hr7).shape; have HR7 := Lib.hid hr7; clear hr7; have a3 := (hb7.cell (p := ⟨t, 3, none⟩) ht6).trans y3; have a4 := (hb7.cell (p := ⟨t, 4, none⟩) ht6).trans y4; have HR67 := Lib.hid (ownsRow_keptS HR6.out ((Kept.refl (fun _ => False) w6).drew.trans (Kept.below hb7) (fun _ _ h => h)) (fun _ _ h => h)))
              | (go_at_call 14; refine (sameCounts_true _ _ _ _ (countsAt_of_row HR67.out) (countsAt_of_row HR7.out) (by omega)).mono ?_; rintro e w8 ⟨rfl, hk8⟩; have ht7 : t < w7.heap.size := Nat.lt_of_lt_of_le ht6 hb7.size; have b3 := (hk8.cell (p := ⟨t, 3, none⟩) ht7 (fun h => h)).trans a3; have b4 := (hk8.cell (p := ⟨t, 4, none⟩) ht7 (fun h => h)).trans a4; have q78 := ((Kept.refl (fun _ => False) w6).drew.trans (Kept.below hb7) (fun _ _ h => h)).trans hk8 (fun _ _ h => h); have HT8 := Lib.hid (HT6.out.kept q78 (fun _ h => h.elim)))
              | (go_at_call 28; refine (seq_any _ (by exact HT8.out)).mono ?_; rintro e w9 ⟨rfl, rfl⟩)))
          have HR8 := Lib.hid (ownsRow_keptS HR6.out q78 (fun _ _ h => h))
          have HU8 := Lib.hid (HU6.out.kept q78 (fun _ h => h.elim))
          have z8 := q78.size
          go_wp2_with fail
          refine (over_any _ _ _ _ _ HR8.out (by omega)).mono ?_
          rintro e w9 ⟨rfl, hk9⟩
          have hg9 : ∀ i, (Value.slice p6 (countsOf n f).length c6).ownBlock = some i → v5.heap.size ≤ i := fun i hi => (HR8.out.lt i hi).1
          go_wp2
          go_roundw
          case rel =>
            have L5 := HT5.out.lts
            have L6 := HU5.out.lt
            have L7 := HU5.out.hist.lt
            refine ⟨k + 1, by omega, by go_num, ⟨f, seq, HT8.out.kept hk9 (fun i h => by have := hg9 i h; omega), HU8.out.kept hk9 (fun i h => by have := hg9 i h; omega), HB5.out⟩, ?_⟩
            exact ((hK5.trans (Kept.below hb6) (fun _ _ h => h.elim)).trans q78 (fun _ _ h => h.elim)).trans hk9 (fun i h1 h2 => by have := hg9 i h2; omega)
          case measure => simp [intOf]; omega
    · go_wp2_with fail
      refine (tawake_any _).mono ?_
      rintro e w5 ⟨rfl, hb5⟩
      go_wp2
      go_ret
      refine ⟨rfl, ?_⟩
      have q1 := (Kept.below hb2).trans (Kept.below hb3) (fun _ _ h => h)
      have q2 := q1.trans hK (fun i h h2 => by omega)
      exact (q2.trans (Kept.below hb5) (fun _ _ h => h)).toBelow (Nat.le_refl _) (fun i h => h.elim)

theorem does_all (stream n every : Int) (p : Option Addr) (xs : List (Int × Int)) (cap : Nat) (w : World) (hs : Wf64 stream) (hl : xs.length ≤ maxLen) (hp : PairsIn w p xs) :
    Calls Try.prog 4 #[.int .i64 stream, .int .i64 n, .int .i64 every, .slice p xs.length cap] w fun e w' => e = .returned (.bool true) ∧ Below w.heap.size w w' := by
  by_cases h : 300 < xs.length
  · exact does_long w stream n every p xs.length cap h hl
  · by_cases hb : badT stream n every
    · exact does_bad w stream n every p xs.length cap (by omega) hs hb
    · unfold badT at hb
      obtain ⟨m, rfl⟩ := Int.eq_ofNat_of_zero_le (show 0 ≤ n by omega)
      exact does_good w stream m every (by omega) (by omega) (by omega) (by omega) (by omega) (by omega) p xs cap (by omega) hp.1 hp.2

end Go.Proofs.Ytacbmpffpfaciaa
