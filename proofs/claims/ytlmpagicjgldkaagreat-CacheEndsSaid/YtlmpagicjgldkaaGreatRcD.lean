/-
  The reference's cache (layer 6): ask, a key that is not kept.
-/
import Derived.Test.YtlmpagicjgldkaaGreatRcC
namespace Go.Proofs.YtlmpagicjgldkaaGreat
open Go.RowKit Go.Maps
set_option linter.unusedVariables false
set_option linter.unusedSimpArgs false
set_option maxRecDepth 100000
set_option maxHeartbeats 4000000

/-- ask: there is room. -/
theorem rask_low (w : World) {base rb : Nat} {G : Nat → Prop} {v : Value} {p : PS} (hc : RCAt w base G rb v p) (hb : base ≤ w.heap.size) (q : Nat × List Int) (hq : q ∉ p.keys) (hr : p.keys.length < p.room) (u : Value) (hu : IntsAt w u (keyI q)) (hub : ∀ b, u.ownBlock = some b → G b ∧ v.ownBlock ≠ some b) (hql : q.2.length ≤ 1000) (hn : p.keys.length ≤ 1000) (hh : p.misses < 1000000000) (hd : p.dropped < 1000000000) :
    Calls Tryz.prog 31 #[.pointer (some ⟨rb, 0, none⟩), u] w fun e w' => e = .returned (.tuple #[]) ∧ ∃ v', RCAt w' base G rb v' (p.ask q) ∧ Kept (RK rb v) w w' ∧ (∀ b, v'.ownBlock = some b → v.ownBlock = some b ∨ w.heap.size ≤ b) := by
  obtain ⟨N, room, now, hits, misses, dropped, keys⟩ := p
  obtain ⟨pu, lu, cu, rfl⟩ : ∃ pu lu cu, u = .slice pu lu cu := by
    obtain ⟨pu, cu, e, _⟩ := hu
    exact ⟨pu, _, cu, e⟩
  dsimp only at *
  have hat : atK keys (keyI q) = -1 := atK_no (fun j hj e => by
    rw [getD_eq hj] at e
    exact hq (keyI_inj e ▸ List.getElem_mem hj))
  have HAT := Lib.hid (rat_any w hc (show keys.length ≤ 1000000 by omega) _ (keyI q) hu (by unfold keyI; simp; omega))
  dsimp only at HAT
  rw [hat] at HAT
  have HASK := Lib.hid (show PS.ask ⟨N, room, now, hits, misses, dropped, keys⟩ q = ⟨N, room, now + 1, hits, misses + 1, dropped, keys ++ [q]⟩ by
    unfold PS.ask
    rw [if_neg hq]
    dsimp only
    rw [if_pos hr])
  have hrl := hc.lt
  obtain ⟨us, hus, hku, hkv⟩ := hc.keys.us
  dsimp only at hus hku
  obtain ⟨n, hne⟩ : ∃ n, keys.length = n := ⟨_, rfl⟩
  rw [hne] at hus hn hr
  obtain ⟨pv, cv, rfl⟩ : ∃ pv cv, v = .slice pv n cv := by
    rcases hus.2 with ⟨rfl, hz⟩ | ⟨g, cap, cur, rfl, _⟩
    · exact ⟨none, 0, by rw [hz]⟩
    · exact ⟨_, cap, rfl⟩
  obtain ⟨m, hm⟩ : ∃ m, n + 1 = m := ⟨_, rfl⟩
  have HM := Lib.hid hm
  have HU1 := Lib.hid hu.one
  have HLE := Lib.hid hc.le
  have HGR := Lib.hid hc.gr
  have c4 := hc.c4
  have c2 := hc.c2
  have HBK := Lib.hid hc.blk
  have HNE := Lib.hid hc.ne
  dsimp only at c2 c4 HBK
  have f4 : w.frozen? ⟨rb, 4, none⟩ = false := fz_of HBK.out 4
  have HUL := Lib.hid (show us.length = n by rw [hku.1, hne])
  have HKL := Lib.hid (show (keys ++ [q]).length = m by simp [hne]; omega)
  have HKU := Lib.hid (hku.append (KeysU.one hu (fun b e => (hub b e).1)))
  have HSU := Lib.hid (show ∀ (i : Nat) x b, (us ++ [.slice pu lu cu])[i]? = some x → x.ownBlock = some b → (Value.slice pv n cv).ownBlock ≠ some b from fun i x b hi e => by
    by_cases hlt : i < us.length
    · rw [List.getElem?_append_left hlt] at hi
      exact hkv i x b hi e
    · rw [List.getElem?_append_right (by omega)] at hi
      have hx : x = .slice pu lu cu := by
        have := (List.getElem?_eq_some_iff.1 hi).1
        simp at this
        have h0 : i - us.length = 0 := by omega
        rw [h0] at hi
        simpa using hi.symm
      subst hx
      exact (hub b e).2)
  obtain ⟨WA, hWA⟩ : ∃ WA : Nat → World, WA = fun nq => ((w.drewN nq).setCell ⟨rb, 4, none⟩ (.int .i64 ((misses : Int) + 1))).alloc (.cells #[.slice pu lu cu] 32) := ⟨_, rfl⟩
  have HK1 := Lib.hid (show ∀ nq, Kept (fun i => i = rb) w (WA nq) from fun nq => by
    rw [hWA]
    exact ((Kept.mono (S' := fun i => i = rb) (Kept.below (show Below w.heap.size w (w.drewN nq) from ⟨rfl, rfl, rfl, Nat.le_refl _, fun _ _ => rfl⟩)) (fun _ _ h => h.elim)).setCell' (p := ⟨rb, 4, none⟩) rfl _).trans (Kept.alloc (fun _ => False) _ _) (fun _ _ h => h.elim))
  have HO1 := Lib.hid (fun nq => ownsRow_keptS hus (HK1.out nq) (fun g hg e => HNE.out (e ▸ hg)))
  have HB1 := Lib.hid (fun nq => Nat.le_trans hb (HK1.out nq).size)
  have HBX := Lib.hid (show ∀ nq, (WA nq).cell? ⟨w.heap.size, 0, none⟩ = some (.slice pu lu cu) from fun nq => by
    rw [hWA]
    have := World.cell?_alloc_new ((w.drewN nq).setCell ⟨rb, 4, none⟩ (.int .i64 ((misses : Int) + 1))) #[.slice pu lu cu] 32 0
    have hz : ((w.drewN nq).setCell ⟨rb, 4, none⟩ (.int .i64 ((misses : Int) + 1))).heap.size = w.heap.size := by simp [World.setCell]
    rw [hz] at this
    exact this)
  have HBK1 := Lib.hid (show ∀ nq, (WA nq).heap[rb]? = some (.cells #[.int .i64 (N : Int), .int .i64 (room : Int), .slice pv n cv, .int .i64 (hits : Int), .int .i64 ((misses + 1 : Nat) : Int), .int .i64 (dropped : Int)] 67 (0, 0)) from fun nq => by
    rw [hWA]
    have h1 := heap_set (w := w.drewN nq) (i := 4) HBK.out (.int .i64 ((misses : Int) + 1))
    have h2 := (Kept.alloc (fun _ => False) ((w.drewN nq).setCell ⟨rb, 4, none⟩ (.int .i64 ((misses : Int) + 1))) (.cells #[.slice pu lu cu] 32)).block rb (by simp [World.setCell]; exact hrl) (fun h => h)
    rw [h1] at h2
    simpa using h2)
  have HKU1 := Lib.hid (fun nq => HKU.out.mono (HK1.out nq) (fun j x b hj hb e => HGR.out (e ▸ ((HKU.out.2 j x hj).2 b hb).1)))
  have HCX := Lib.hid (show ∀ nq, 0 < 1 → ∃ g off, some (⟨w.heap.size, 0, none⟩ : Addr) = some ⟨g, off, none⟩ ∧ ∀ i, i < 1 → (WA nq).cell? ⟨g, off + i, none⟩ = [Value.slice pu lu cu][i]? from fun nq _ => ⟨_, 0, rfl, fun i hi => by
    have e : i = 0 := by omega
    subst e
    exact HBX.out nq⟩)
  have HV1 := Lib.hid (show ∀ x ∈ [Value.slice pu lu cu], x.oneCell' = true from fun x hx => by rw [List.mem_singleton] at hx; subst hx; exact HU1.out)
  clear hat hc hq hus hku hkv hne hu hub hm
  go_enter Tryz.func31, Tryz.ntmps31
  go_wp2_with fail
  refine HAT.out.mono ?_
  rintro e w' ⟨rfl, nq, rfl⟩
  have HWA := Lib.hid hWA
  clear hWA
  have hHO := HO1.out nq
  have hHX := HCX.out nq
  rw [HWA.out] at hHO hHX
  have HO2 := Lib.hid hHO
  have HX2 := Lib.hid hHX
  clear hHO hHX
  have HS2 := Lib.hid (show base ≤ (((w.drewN nq).setCell ⟨rb, 4, none⟩ (.int .i64 ((misses : Int) + 1))).alloc (.cells #[.slice pu lu cu] 32)).heap.size by have := HB1.out nq; rw [HWA.out] at this; exact this)
  go_wp2_with (at_builtin; refine app_many 65 32 24 (.slice none 0 0) Tryz.underlying65 infoIS rfl (by decide) rfl _ _ rfl base n 1 m HM.out _ us [.slice pu lu cu] rfl HV1.out rfl HO2.out _ 1 rfl HX2.out (by omega) HS2.out ?_
               intro p1 c1 w2 ho1 hk1 hn1
               have HWE := Lib.hid (show ((w.drewN nq).setCell ⟨rb, 4, none⟩ (.int .i64 ((misses : Int) + 1))).alloc (.cells #[.slice pu lu cu] 32) = WA nq by rw [HWA.out])
               have HO3 := Lib.hid ho1
               have HK3 := Lib.hid (HWE.out ▸ hk1)
               have HN3 := Lib.hid hn1
               clear ho1 hk1 hn1
               have hblk := (HK3.out.block rb (Nat.lt_of_lt_of_le hrl (HK1.out nq).size) HNE.out).trans (HBK1.out nq)
               have x2 : w2.cell? ⟨rb, 2, none⟩ = some (.slice pv n cv) := by rw [cell_of hblk]; rfl
               have f2 : w2.frozen? ⟨rb, 2, none⟩ = false := fz_of hblk 2
               clear hblk)
  have HN4 := Lib.hid (show ∀ b, (Value.slice p1 m c1).ownBlock = some b → (Value.slice pv n cv).ownBlock = some b ∨ w.heap.size ≤ b from fun b e => by
    rcases HN3.out b e with h | h
    · exact .inl h
    · rw [HWE.out] at h
      exact .inr (Nat.le_trans (HK1.out nq).size h))
  have HC4 := Lib.hid (RCAt.close (now := now + 1) (HBK1.out nq) HK3.out HNE.out (fun j x b hj hb => ⟨HSU.out j x b hj hb, fun e => by
      rcases HN4.out b e with h | h
      · exact HSU.out j x b hj hb h
      · have := ((HKU.out.2 j x hj).2 b hb).2
        omega⟩) (by rw [HKL.out]; exact HO3.out) (fun e => by
      rcases HN4.out rb e with h | h
      · exact HNE.out h
      · omega) (HKU1.out nq) HLE.out HGR.out)
  have HK4 := Lib.hid (show Kept (RK rb (.slice pv n cv)) w (w2.setCell ⟨rb, 2, none⟩ (.slice p1 m c1)) from (((HK1.out nq).mono (fun _ _ h => .inl h)).trans HK3.out (fun _ _ h => .inr h)).setCell' (p := ⟨rb, 2, none⟩) (.inl rfl) _)
  generalize w2.setCell ⟨rb, 2, none⟩ (.slice p1 m c1) = w4 at *
  clear x2 f2 c2 c4 f4
  have c1' := HC4.out.c1
  have c2' := HC4.out.c2
  dsimp only at c1' c2'
  have rr : decide ((room : Int) < (m : Int)) = false := by have := HM.out; simp; omega
  have rr' : decide (room < m) = false := by have := HM.out; simp; omega
  go_quiet (fail)
  go_wp2
  go_end0
  refine ⟨rfl, .slice p1 m c1, ?_, ?_, HN4.out⟩
  · rw [HASK.out]
    exact HC4.out.below ⟨rfl, rfl, rfl, Nat.le_refl _, fun _ _ => rfl⟩
  · exact HK4.out.trans (Kept.below (show Below w4.heap.size w4 (w4.drewN _) from ⟨rfl, rfl, rfl, Nat.le_refl _, fun _ _ => rfl⟩)) (fun _ _ h => h.elim)
/-- ask: there is none. -/
theorem rask_full (w : World) {base rb : Nat} {G : Nat → Prop} {v : Value} {p : PS} (hc : RCAt w base G rb v p) (hb : base ≤ w.heap.size) (q : Nat × List Int) (hq : q ∉ p.keys) (hr : p.room ≤ p.keys.length) (hr1 : 1 ≤ p.room) (u : Value) (hu : IntsAt w u (keyI q)) (hub : ∀ b, u.ownBlock = some b → G b ∧ v.ownBlock ≠ some b) (hql : q.2.length ≤ 1000) (hn : p.keys.length ≤ 1000) (hh : p.misses < 1000000000) (hd : p.dropped < 1000000000) :
    Calls Tryz.prog 31 #[.pointer (some ⟨rb, 0, none⟩), u] w fun e w' => e = .returned (.tuple #[]) ∧ ∃ v', RCAt w' base G rb v' (p.ask q) ∧ Kept (RK rb v) w w' ∧ (∀ b, v'.ownBlock = some b → v.ownBlock = some b ∨ w.heap.size ≤ b) := by
  obtain ⟨N, room, now, hits, misses, dropped, keys⟩ := p
  obtain ⟨pu, lu, cu, rfl⟩ : ∃ pu lu cu, u = .slice pu lu cu := by
    obtain ⟨pu, cu, e, _⟩ := hu
    exact ⟨pu, _, cu, e⟩
  dsimp only at *
  have hat : atK keys (keyI q) = -1 := atK_no (fun j hj e => by
    rw [getD_eq hj] at e
    exact hq (keyI_inj e ▸ List.getElem_mem hj))
  have HAT := Lib.hid (rat_any w hc (show keys.length ≤ 1000000 by omega) _ (keyI q) hu (by unfold keyI; simp; omega))
  dsimp only at HAT
  rw [hat] at HAT
  have HASK := Lib.hid (show PS.ask ⟨N, room, now, hits, misses, dropped, keys⟩ q = ⟨N, room, now + 1, hits, misses + 1, dropped + 1, ([] : List (Nat × List Int)) ++ (keys ++ [q]).drop 1⟩ by
    unfold PS.ask
    rw [if_neg hq]
    dsimp only
    rw [if_neg (by omega)]
    cases keys with
    | nil => simp at hr; omega
    | cons a l => simp)
  have hrl := hc.lt
  obtain ⟨us, hus, hku, hkv⟩ := hc.keys.us
  dsimp only at hus hku
  obtain ⟨n, hne⟩ : ∃ n, keys.length = n := ⟨_, rfl⟩
  rw [hne] at hus hn hr
  obtain ⟨pv, cv, rfl⟩ : ∃ pv cv, v = .slice pv n cv := by
    rcases hus.2 with ⟨rfl, hz⟩ | ⟨g, cap, cur, rfl, _⟩
    · exact ⟨none, 0, by rw [hz]⟩
    · exact ⟨_, cap, rfl⟩
  obtain ⟨m, hm⟩ : ∃ m, n + 1 = m := ⟨_, rfl⟩
  have HM := Lib.hid hm
  have HU1 := Lib.hid hu.one
  have HLE := Lib.hid hc.le
  have HGR := Lib.hid hc.gr
  have c4 := hc.c4
  have c2 := hc.c2
  have HBK := Lib.hid hc.blk
  have HNE := Lib.hid hc.ne
  dsimp only at c2 c4 HBK
  have f4 : w.frozen? ⟨rb, 4, none⟩ = false := fz_of HBK.out 4
  have HUL := Lib.hid (show us.length = n by rw [hku.1, hne])
  have HKL := Lib.hid (show (keys ++ [q]).length = m by simp [hne]; omega)
  have HKU := Lib.hid (hku.append (KeysU.one hu (fun b e => (hub b e).1)))
  have HSU := Lib.hid (show ∀ (i : Nat) x b, (us ++ [.slice pu lu cu])[i]? = some x → x.ownBlock = some b → (Value.slice pv n cv).ownBlock ≠ some b from fun i x b hi e => by
    by_cases hlt : i < us.length
    · rw [List.getElem?_append_left hlt] at hi
      exact hkv i x b hi e
    · rw [List.getElem?_append_right (by omega)] at hi
      have hx : x = .slice pu lu cu := by
        have := (List.getElem?_eq_some_iff.1 hi).1
        simp at this
        have h0 : i - us.length = 0 := by omega
        rw [h0] at hi
        simpa using hi.symm
      subst hx
      exact (hub b e).2)
  obtain ⟨WA, hWA⟩ : ∃ WA : Nat → World, WA = fun nq => ((w.drewN nq).setCell ⟨rb, 4, none⟩ (.int .i64 ((misses : Int) + 1))).alloc (.cells #[.slice pu lu cu] 32) := ⟨_, rfl⟩
  have HK1 := Lib.hid (show ∀ nq, Kept (fun i => i = rb) w (WA nq) from fun nq => by
    rw [hWA]
    exact ((Kept.mono (S' := fun i => i = rb) (Kept.below (show Below w.heap.size w (w.drewN nq) from ⟨rfl, rfl, rfl, Nat.le_refl _, fun _ _ => rfl⟩)) (fun _ _ h => h.elim)).setCell' (p := ⟨rb, 4, none⟩) rfl _).trans (Kept.alloc (fun _ => False) _ _) (fun _ _ h => h.elim))
  have HO1 := Lib.hid (fun nq => ownsRow_keptS hus (HK1.out nq) (fun g hg e => HNE.out (e ▸ hg)))
  have HB1 := Lib.hid (fun nq => Nat.le_trans hb (HK1.out nq).size)
  have HBX := Lib.hid (show ∀ nq, (WA nq).cell? ⟨w.heap.size, 0, none⟩ = some (.slice pu lu cu) from fun nq => by
    rw [hWA]
    have := World.cell?_alloc_new ((w.drewN nq).setCell ⟨rb, 4, none⟩ (.int .i64 ((misses : Int) + 1))) #[.slice pu lu cu] 32 0
    have hz : ((w.drewN nq).setCell ⟨rb, 4, none⟩ (.int .i64 ((misses : Int) + 1))).heap.size = w.heap.size := by simp [World.setCell]
    rw [hz] at this
    exact this)
  have HBK1 := Lib.hid (show ∀ nq, (WA nq).heap[rb]? = some (.cells #[.int .i64 (N : Int), .int .i64 (room : Int), .slice pv n cv, .int .i64 (hits : Int), .int .i64 ((misses + 1 : Nat) : Int), .int .i64 (dropped : Int)] 67 (0, 0)) from fun nq => by
    rw [hWA]
    have h1 := heap_set (w := w.drewN nq) (i := 4) HBK.out (.int .i64 ((misses : Int) + 1))
    have h2 := (Kept.alloc (fun _ => False) ((w.drewN nq).setCell ⟨rb, 4, none⟩ (.int .i64 ((misses : Int) + 1))) (.cells #[.slice pu lu cu] 32)).block rb (by simp [World.setCell]; exact hrl) (fun h => h)
    rw [h1] at h2
    simpa using h2)
  have HKU1 := Lib.hid (fun nq => HKU.out.mono (HK1.out nq) (fun j x b hj hb e => HGR.out (e ▸ ((HKU.out.2 j x hj).2 b hb).1)))
  have HCX := Lib.hid (show ∀ nq, 0 < 1 → ∃ g off, some (⟨w.heap.size, 0, none⟩ : Addr) = some ⟨g, off, none⟩ ∧ ∀ i, i < 1 → (WA nq).cell? ⟨g, off + i, none⟩ = [Value.slice pu lu cu][i]? from fun nq _ => ⟨_, 0, rfl, fun i hi => by
    have e : i = 0 := by omega
    subst e
    exact HBX.out nq⟩)
  have HV1 := Lib.hid (show ∀ x ∈ [Value.slice pu lu cu], x.oneCell' = true from fun x hx => by rw [List.mem_singleton] at hx; subst hx; exact HU1.out)
  clear hat hc hq hus hku hkv hne hu hub hm
  go_enter Tryz.func31, Tryz.ntmps31
  go_wp2_with fail
  refine HAT.out.mono ?_
  rintro e w' ⟨rfl, nq, rfl⟩
  have HWA := Lib.hid hWA
  clear hWA
  have hHO := HO1.out nq
  have hHX := HCX.out nq
  rw [HWA.out] at hHO hHX
  have HO2 := Lib.hid hHO
  have HX2 := Lib.hid hHX
  clear hHO hHX
  have HS2 := Lib.hid (show base ≤ (((w.drewN nq).setCell ⟨rb, 4, none⟩ (.int .i64 ((misses : Int) + 1))).alloc (.cells #[.slice pu lu cu] 32)).heap.size by have := HB1.out nq; rw [HWA.out] at this; exact this)
  go_wp2_with (at_builtin; refine app_many 65 32 24 (.slice none 0 0) Tryz.underlying65 infoIS rfl (by decide) rfl _ _ rfl base n 1 m HM.out _ us [.slice pu lu cu] rfl HV1.out rfl HO2.out _ 1 rfl HX2.out (by omega) HS2.out ?_
               intro p1 c1 w2 ho1 hk1 hn1
               have HWE := Lib.hid (show ((w.drewN nq).setCell ⟨rb, 4, none⟩ (.int .i64 ((misses : Int) + 1))).alloc (.cells #[.slice pu lu cu] 32) = WA nq by rw [HWA.out])
               have HO3 := Lib.hid ho1
               have HK3 := Lib.hid (HWE.out ▸ hk1)
               have HN3 := Lib.hid hn1
               clear ho1 hk1 hn1
               have hblk := (HK3.out.block rb (Nat.lt_of_lt_of_le hrl (HK1.out nq).size) HNE.out).trans (HBK1.out nq)
               have x2 : w2.cell? ⟨rb, 2, none⟩ = some (.slice pv n cv) := by rw [cell_of hblk]; rfl
               have f2 : w2.frozen? ⟨rb, 2, none⟩ = false := fz_of hblk 2
               clear hblk)
  have HN4 := Lib.hid (show ∀ b, (Value.slice p1 m c1).ownBlock = some b → (Value.slice pv n cv).ownBlock = some b ∨ w.heap.size ≤ b from fun b e => by
    rcases HN3.out b e with h | h
    · exact .inl h
    · rw [HWE.out] at h
      exact .inr (Nat.le_trans (HK1.out nq).size h))
  have HC4 := Lib.hid (RCAt.close (now := now + 1) (HBK1.out nq) HK3.out HNE.out (fun j x b hj hb => ⟨HSU.out j x b hj hb, fun e => by
      rcases HN4.out b e with h | h
      · exact HSU.out j x b hj hb h
      · have := ((HKU.out.2 j x hj).2 b hb).2
        omega⟩) (by rw [HKL.out]; exact HO3.out) (fun e => by
      rcases HN4.out rb e with h | h
      · exact HNE.out h
      · omega) (HKU1.out nq) HLE.out HGR.out)
  have HK4 := Lib.hid (show Kept (RK rb (.slice pv n cv)) w (w2.setCell ⟨rb, 2, none⟩ (.slice p1 m c1)) from (((HK1.out nq).mono (fun _ _ h => .inl h)).trans HK3.out (fun _ _ h => .inr h)).setCell' (p := ⟨rb, 2, none⟩) (.inl rfl) _)
  generalize w2.setCell ⟨rb, 2, none⟩ (.slice p1 m c1) = w4 at *
  clear x2 f2 c2 c4 f4
  have c1' := HC4.out.c1
  have c2' := HC4.out.c2
  dsimp only at c1' c2'
  have rr : decide ((room : Int) < (m : Int)) = true := by have := HM.out; simp; omega
  have rr' : decide (room < m) = true := by have := HM.out; simp; omega
  obtain ⟨us4, hus4, hku4, hkv4⟩ := HC4.out.keys.us
  dsimp only at hus4 hku4
  rw [HKL.out] at hus4
  have hm1 : 1 ≤ m := by have := HM.out; omega
  have hm2 : m ≤ 1001 := by have := HM.out; omega
  obtain ⟨g1, cap1, e1, hcv, hcm, hgl, hcl⟩ := own_cells hus4 (by omega)
  have e2 := (Value.slice.inj e1).1
  have e3 := (Value.slice.inj e1).2.2
  clear e1
  subst e2
  subst e3
  obtain ⟨pt, htr, hpt⟩ := tail_run g1 m c1 1 (by omega) hcv
  have hgr : g1 ≠ rb := fun e => HC4.out.ne (by rw [e]; rfl)
  have HBK4 := Lib.hid HC4.out.blk
  have c5' := HC4.out.c5
  dsimp only at c5' HBK4
  have f5 : w4.frozen? ⟨rb, 5, none⟩ = false := fz_of HBK4.out 5
  have hrl4 := HC4.out.lt
  have hb4 : base ≤ w4.heap.size := by have := HC4.out.le; omega
  have HUL4 := Lib.hid (show us4.length = m by rw [hku4.1, HKL.out])
  obtain ⟨WB, hWB⟩ : ∃ WB : Nat → World, WB = fun nq => ((w4.drewN nq).setCell ⟨rb, 5, none⟩ (.int .i64 ((dropped : Int) + 1))).alloc (.cells #[] 32) := ⟨_, rfl⟩
  have HKB := Lib.hid (show ∀ nq, Kept (fun i => i = rb) w4 (WB nq) from fun nq => by
    rw [hWB]
    exact ((Kept.mono (S' := fun i => i = rb) (Kept.below (show Below w4.heap.size w4 (w4.drewN nq) from ⟨rfl, rfl, rfl, Nat.le_refl _, fun _ _ => rfl⟩)) (fun _ _ h => h.elim)).setCell' (p := ⟨rb, 5, none⟩) rfl _).trans (Kept.alloc (fun _ => False) _ _) (fun _ _ h => h.elim))
  have HOB := Lib.hid (show ∀ nq, (WB nq).ownsRow w4.heap.size 32 1 (.slice (some ⟨w4.heap.size, 0, none⟩) 0 0) 0 [] from fun nq => by
    rw [hWB]
    have hz : ((w4.drewN nq).setCell ⟨rb, 5, none⟩ (.int .i64 ((dropped : Int) + 1))).heap.size = w4.heap.size := by simp [World.setCell]
    have := World.ownsRow_lit (size := 1) (e := 32) (base := w4.heap.size) ((w4.drewN nq).setCell ⟨rb, 5, none⟩ (.int .i64 ((dropped : Int) + 1))) #[] 0 (by rw [hz]; exact Nat.le_refl _) (by unfold maxLen; omega) rfl
    rw [hz] at this
    exact this)
  have HCB := Lib.hid (show ∀ nq, 0 < m - 1 → ∃ g off, pt = some ⟨g, off, none⟩ ∧ ∀ i, i < m - 1 → (WB nq).cell? ⟨g, off + i, none⟩ = (us4.drop 1)[i]? from fun nq h0 => ⟨g1, 1, hpt (by omega), fun i hi => by
    rw [List.getElem?_drop, ← hcl (1 + i) (by omega)]
    exact (HKB.out nq).cell (p := ⟨g1, 1 + i, none⟩) hgl hgr⟩)
  have HB5 := Lib.hid (show ∀ nq, (WB nq).heap[rb]? = some (.cells #[.int .i64 (N : Int), .int .i64 (room : Int), .slice (some ⟨g1, 0, none⟩) m c1, .int .i64 (hits : Int), .int .i64 ((misses + 1 : Nat) : Int), .int .i64 ((dropped + 1 : Nat) : Int)] 67 (0, 0)) from fun nq => by
    rw [hWB]
    have h1 := heap_set (w := w4.drewN nq) (i := 5) HBK4.out (.int .i64 ((dropped : Int) + 1))
    have h2 := (Kept.alloc (fun _ => False) ((w4.drewN nq).setCell ⟨rb, 5, none⟩ (.int .i64 ((dropped : Int) + 1))) (.cells #[] 32)).block rb (by simp [World.setCell]; exact hrl4) (fun h => h)
    rw [h1] at h2
    simpa using h2)
  have HKU4 := Lib.hid (hku4.drop 1)
  have HKU5 := Lib.hid (fun nq => HKU4.out.mono (HKB.out nq) (fun j x b hj hb e => HGR.out (e ▸ ((HKU4.out.2 j x hj).2 b hb).1)))
  have HL4 := Lib.hid (show (us4.drop 1).length = m - 1 by rw [List.length_drop, HUL4.out])
  have HL5 := Lib.hid (show ((keys ++ [q]).drop 1).length = m - 1 by rw [List.length_drop, HKL.out])
  have HV4 := Lib.hid (show ∀ x ∈ us4.drop 1, x.oneCell' = true from HKU4.out.ones)
  have HTR := Lib.hid (show ∀ W, (Instr.slice 65 (.slice (some ⟨g1, 0, none⟩) m c1) (some (.int .i64 1)) none none).run Tryz.prog W = .ok (.slice pt (m - 1) (c1 - 1)) W from htr)
  clear hus4 hku4 hkv4 hcl htr hpt hcm
  go_quiet (fail)
  have HWB := Lib.hid hWB
  clear hWB
  have hHO := HOB.out nq
  have hHX := HCB.out nq
  rw [HWB.out] at hHO hHX
  have HO6 := Lib.hid hHO
  have HX6 := Lib.hid hHX
  clear hHO hHX
  have HS6 := Lib.hid (show w4.heap.size ≤ (((w4.drewN nq).setCell ⟨rb, 5, none⟩ (.int .i64 ((dropped : Int) + 1))).alloc (.cells #[] 32)).heap.size by have := (HKB.out nq).size; rw [HWB.out] at this; exact this)
  have htr := HTR.out
  go_wp2_with (at_builtin; refine app_many 65 32 24 (.slice none 0 0) Tryz.underlying65 infoIS rfl (by decide) rfl _ _ rfl w4.heap.size 0 (m - 1) (m - 1) (by omega) _ [] (us4.drop 1) HL4.out HV4.out rfl HO6.out pt (c1 - 1) rfl HX6.out (by omega) HS6.out ?_
               intro p6 c6 w6 ho6 hk6 hn6
               have HWF := Lib.hid (show ((w4.drewN nq).setCell ⟨rb, 5, none⟩ (.int .i64 ((dropped : Int) + 1))).alloc (.cells #[] 32) = WB nq by rw [HWB.out])
               have HO7 := Lib.hid ho6
               have HK7 := Lib.hid (HWF.out ▸ hk6)
               clear ho6 hk6 hn6
               have hblk := (HK7.out.block rb (Nat.lt_of_lt_of_le hrl4 (HKB.out nq).size) (fun e => by have := own_is e; omega)).trans (HB5.out nq)
               have x2 : w6.cell? ⟨rb, 2, none⟩ = some (.slice (some ⟨g1, 0, none⟩) m c1) := by rw [cell_of hblk]; rfl
               have f2 : w6.frozen? ⟨rb, 2, none⟩ = false := fz_of hblk 2
               clear hblk)
  go_end0
  have HN7 := World.ownsRow.lt HO7.out
  refine ⟨rfl, .slice p6 (m - 1) c6, ?_, ?_, fun b e => .inr (Nat.le_trans HK4.out.size (HN7 b e).1)⟩
  · rw [HASK.out]
    refine RCAt.close (S := fun k => (Value.slice (some ⟨w4.heap.size, 0, none⟩) 0 0).ownBlock = some k) (HB5.out nq) HK7.out (fun e => by have := own_is e; omega) (fun j x b hj hb => ⟨fun e => ?_, fun e => ?_⟩) ?_ (fun e => by have := (HN7 rb e).1; omega) (us := [] ++ us4.drop 1) ?_ HLE.out HGR.out
    · have h1 := ((HKU4.out.2 j x hj).2 b hb).2
      have := own_is e
      omega
    · have h1 := ((HKU4.out.2 j x hj).2 b hb).2
      have := (HN7 b e).1
      omega
    · rw [List.nil_append, HL5.out]
      exact ownsRow_weaken HO7.out hb4
    · exact HKU5.out nq
  · refine ((HK4.out.trans (HKB.out nq) (fun _ _ h => .inl h)).trans HK7.out (fun i hi e => ?_)).setCell' (p := ⟨rb, 2, none⟩) (.inl rfl) _
    have := own_is e
    have := HK4.out.size
    omega
end Go.Proofs.YtlmpagicjgldkaaGreat
