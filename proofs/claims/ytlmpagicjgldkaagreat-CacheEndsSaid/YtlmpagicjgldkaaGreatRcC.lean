/-
  The reference's cache (layer 6): ask.
-/
import Derived.Test.YtlmpagicjgldkaaGreatMxbs
namespace Go.Proofs.YtlmpagicjgldkaaGreat
open Go.RowKit Go.Maps
set_option linter.unusedVariables false
set_option linter.unusedSimpArgs false
set_option maxRecDepth 100000
set_option maxHeartbeats 4000000

theorem IntsAt.lt {w : World} {v : Value} {xs : List Int} (h : IntsAt w v xs) (hl : 0 < xs.length) : ∀ b, v.ownBlock = some b → b < w.heap.size := by
  obtain ⟨p, cap, rfl, hcap, hh⟩ := h
  obtain ⟨g, off, rfl, hc⟩ := hh hl
  intro b hb
  have e := own_is hb
  subst e
  exact blt (hc 0 hl)
/-- Keys' headers. -/
def KeysU (w : World) (G : Nat → Prop) (ks : List (Nat × List Int)) (us : List Value) : Prop := us.length = ks.length ∧ ∀ i u, us[i]? = some u → IntsAt w u (keyI (ks.getD i (0, []))) ∧ ∀ b, u.ownBlock = some b → G b ∧ b < w.heap.size
theorem getD_eq {α : Type} {l : List α} {i : Nat} {d : α} (h : i < l.length) : l.getD i d = l[i] := by simp [List.getD_eq_getElem?_getD, h]
theorem KeysU.append {w : World} {G : Nat → Prop} {ks ks' : List (Nat × List Int)} {us us' : List Value} (h : KeysU w G ks us) (h' : KeysU w G ks' us') : KeysU w G (ks ++ ks') (us ++ us') := by
  refine ⟨by rw [List.length_append, List.length_append, h.1, h'.1], fun i u hi => ?_⟩
  by_cases e : i < us.length
  · rw [List.getElem?_append_left e] at hi
    have := h.2 i u hi
    rw [List.getD_eq_getElem?_getD] at this
    rw [List.getD_eq_getElem?_getD, List.getElem?_append_left (by rw [← h.1]; exact e)]
    exact this
  · rw [List.getElem?_append_right (by omega)] at hi
    have := h'.2 _ u hi
    rw [List.getD_eq_getElem?_getD] at this
    rw [List.getD_eq_getElem?_getD, List.getElem?_append_right (by rw [← h.1]; omega), ← h.1]
    exact this
theorem KeysU.take {w : World} {G : Nat → Prop} {ks : List (Nat × List Int)} {us : List Value} (h : KeysU w G ks us) (n : Nat) : KeysU w G (ks.take n) (us.take n) := by
  refine ⟨by rw [List.length_take, List.length_take, h.1], fun i u hi => ?_⟩
  rw [List.getElem?_take] at hi
  split at hi
  · have := h.2 i u hi
    rw [List.getD_eq_getElem?_getD] at this
    rw [List.getD_eq_getElem?_getD, List.getElem?_take, if_pos (by assumption)]
    exact this
  · cases hi
theorem KeysU.drop {w : World} {G : Nat → Prop} {ks : List (Nat × List Int)} {us : List Value} (h : KeysU w G ks us) (n : Nat) : KeysU w G (ks.drop n) (us.drop n) := by
  refine ⟨by rw [List.length_drop, List.length_drop, h.1], fun i u hi => ?_⟩
  rw [List.getElem?_drop] at hi
  have := h.2 _ u hi
  rw [List.getD_eq_getElem?_getD] at this
  rw [List.getD_eq_getElem?_getD, List.getElem?_drop]
  exact this
theorem KeysU.one {w : World} {G : Nat → Prop} {q : Nat × List Int} {u : Value} (h : IntsAt w u (keyI q)) (hb : ∀ b, u.ownBlock = some b → G b) : KeysU w G [q] [u] := by
  refine ⟨rfl, fun i x hi => ?_⟩
  cases i with
  | zero =>
    obtain rfl : u = x := by simpa using hi
    exact ⟨h, fun b e => ⟨hb b e, h.lt (by simp [keyI]) b e⟩⟩
  | succ i => simp at hi
theorem KeysU.mono {w w' : World} {G : Nat → Prop} {ks : List (Nat × List Int)} {us : List Value} {S : Nat → Prop} (h : KeysU w G ks us) (hk : Kept S w w') (hS : ∀ (i : Nat) u b, us[i]? = some u → u.ownBlock = some b → ¬ S b) : KeysU w' G ks us :=
  ⟨h.1, fun i u hi => ⟨(h.2 i u hi).1.keptB hk (hS i u · hi), fun b e => ⟨((h.2 i u hi).2 b e).1, Nat.lt_of_lt_of_le ((h.2 i u hi).2 b e).2 hk.size⟩⟩⟩
theorem KeysU.ones {w : World} {G : Nat → Prop} {ks : List (Nat × List Int)} {us : List Value} (h : KeysU w G ks us) : ∀ u ∈ us, u.oneCell' = true := fun u hu => by
  obtain ⟨i, hi, rfl⟩ := List.mem_iff_getElem.1 hu
  exact (h.2 i _ (List.getElem?_eq_getElem hi)).1.one
theorem KeysAt.us {w : World} {base : Nat} {G : Nat → Prop} {v : Value} {ks : List (Nat × List Int)} (h : KeysAt w base G v ks) : ∃ us, w.ownsRow base 32 1 v ks.length us ∧ KeysU w G ks us ∧ ∀ (i : Nat) u b, us[i]? = some u → u.ownBlock = some b → v.ownBlock ≠ some b := by
  obtain ⟨us, ho, hu⟩ := h
  refine ⟨us, ho, ⟨by have := ho.1; omega, fun i u hi => ⟨(hu i u hi).1, fun b e => ⟨((hu i u hi).2 b e).1, (hu i u hi).1.lt (by simp [keyI]) b e⟩⟩⟩, fun i u b hi e => ((hu i u hi).2 b e).2⟩
/-- A new row, stored into the cache. -/
theorem RCAt.close {S : Nat → Prop} {w3 W : World} {base rb n room now hits misses dropped : Nat} {G : Nat → Prop} {a : Value} {v : Value} {ks : List (Nat × List Int)} {us : List Value}
    (hb3 : w3.heap[rb]? = some (.cells #[.int .i64 (n : Int), .int .i64 (room : Int), a, .int .i64 (hits : Int), .int .i64 (misses : Int), .int .i64 (dropped : Int)] 67 (0, 0)))
    (hk : Kept S w3 W) (hSr : ¬ S rb) (hSu : ∀ (i : Nat) u b, us[i]? = some u → u.ownBlock = some b → ¬ S b ∧ v.ownBlock ≠ some b) (ho : W.ownsRow base 32 1 v ks.length us) (hv : v.ownBlock ≠ some rb) (hus : KeysU w3 G ks us) (hle : base ≤ rb) (hgr : ¬ G rb) :
    RCAt (W.setCell ⟨rb, 2, none⟩ v) base G rb v ⟨n, room, now, hits, misses, dropped, ks⟩ := by
  have hlt : rb < w3.heap.size := (Array.getElem?_eq_some_iff.1 hb3).1
  have hbW := (hk.block rb hlt hSr).trans hb3
  have hks : Kept (fun i => i = rb) W (W.setCell ⟨rb, 2, none⟩ v) := (Kept.refl (fun i => i = rb) W).setCell' (p := ⟨rb, 2, none⟩) rfl v
  refine ⟨by have := heap_set (i := 2) hbW v; simpa using this, ⟨us, ownsRow_keptS ho hks (fun g hg e => hv (e ▸ hg)), fun i u hi => ⟨?_, fun b e => ⟨((hus.2 i u hi).2 b e).1, (hSu i u b hi e).2⟩⟩⟩, hv, hle, hgr⟩
  exact ((hus.2 i u hi).1.keptB hk (fun b e => (hSu i u b hi e).1)).keptB hks (fun b e he => hgr (he ▸ ((hus.2 i u hi).2 b e).1))
theorem own_cells {w : World} {base n : Nat} {e : TypeId} {v : Value} {us : List Value} (h : w.ownsRow base e 1 v n us) (hn : 0 < n) : ∃ g cap, v = .slice (some ⟨g, 0, none⟩) n cap ∧ n ≤ cap ∧ cap ≤ maxLen ∧ g < w.heap.size ∧ ∀ i, i < n → w.cell? ⟨g, i, none⟩ = us[i]? := by
  obtain ⟨h0, h1⟩ := h
  rcases h1 with ⟨rfl, hz⟩ | ⟨g, cap, cur, rfl, h2, h3, h4, h5, h6, h7⟩
  · omega
  · refine ⟨g, cap, rfl, h4, h5, (Array.getElem?_eq_some_iff.1 h3).1, fun i hi => ?_⟩
    rw [cell_of h3, ← h7, List.getElem?_take, if_pos (by omega), Array.getElem?_toList]
/-- What stands behind the first ones. -/
theorem tail_run (g n c k : Nat) (hk : k ≤ n) (hc : n ≤ c) : ∃ p', (∀ W, (Instr.slice 65 (.slice (some ⟨g, 0, none⟩) n c) (some (.int .i64 ((k : Nat) : Int))) none none).run Tryz.prog W = .ok (.slice p' (n - k) (c - k)) W) ∧ (k < n → p' = some ⟨g, k, none⟩) := by
  refine ⟨if c = k then some ⟨g, 0, none⟩ else some ⟨g, k, none⟩, fun W => ?_, fun h => if_neg (by omega)⟩
  have hs : (sizeOf (Tryz.prog.elem 65)).run Tryz.prog W = .ok 1 W := by kernel_rfl
  rw [run_slice_l (P := Tryz.prog) W 65 (some ⟨g, 0, none⟩) n c Tryz.underlying65 .i64 (k : Int) (by omega) (by omega), hs, Result.andThen_ok]
  unfold sliced
  simp only [Int.toNat_natCast, Nat.mul_one]
  congr 2
  split <;> simp [Addr.add] <;> omega
theorem filter_at {α : Type} [DecidableEq α] {q : α} {l : List α} {i : Nat} (hi : i < l.length) (h : l[i] = q) (hn : l.Nodup) : l.filter (fun x => decide (x ≠ q)) = l.take i ++ l.drop (i + 1) := by
  have e : l = l.take i ++ q :: l.drop (i + 1) := by rw [← h, List.getElem_cons_drop, List.take_append_drop]
  have hn2 : (l.take i ++ q :: l.drop (i + 1)).Nodup := e ▸ hn
  rw [List.nodup_append] at hn2
  obtain ⟨_, h2, h3⟩ := hn2
  have h4 := List.nodup_cons.1 h2
  conv => lhs; rw [e]
  rw [List.filter_append, List.filter_cons_of_neg (by simp), List.filter_eq_self.2 (fun x hx => by
    have := h3 x hx q List.mem_cons_self
    simpa using this), List.filter_eq_self.2 (fun x hx => by
    simp only [decide_eq_true_eq]
    rintro rfl
    exact h4.1 hx)]

/-- ask: a key that is kept. -/
theorem rask_hit (w : World) {base rb : Nat} {G : Nat → Prop} {v : Value} {p : PS} (hc : RCAt w base G rb v p) (hb : base ≤ w.heap.size) (q : Nat × List Int) (hq : q ∈ p.keys) (u : Value) (hu : IntsAt w u (keyI q)) (hub : ∀ b, u.ownBlock = some b → G b) (hql : q.2.length ≤ 1000) (hn : p.keys.length ≤ 1000) (hnd : p.keys.Nodup) (hh : p.hits < 1000000000) :
    Calls Tryz.prog 31 #[.pointer (some ⟨rb, 0, none⟩), u] w fun e w' => e = .returned (.tuple #[]) ∧ ∃ v', RCAt w' base G rb v' (p.ask q) ∧ Kept (RK rb v) w w' ∧ (∀ b, v'.ownBlock = some b → v.ownBlock = some b ∨ w.heap.size ≤ b) := by
  obtain ⟨N, room, now, hits, misses, dropped, keys⟩ := p
  obtain ⟨pu, lu, cu, rfl⟩ : ∃ pu lu cu, u = .slice pu lu cu := by
    obtain ⟨pu, cu, e, _⟩ := hu
    exact ⟨pu, _, cu, e⟩
  dsimp only at *
  obtain ⟨i, hi, hiq⟩ := List.mem_iff_getElem.1 hq
  have hat : atK keys (keyI q) = (i : Int) := atK_yes hi (by rw [getD_eq hi, hiq]) (fun j hj e => by
    have hj' : j < keys.length := by omega
    rw [getD_eq hj'] at e
    have e1 := keyI_inj e
    have := (List.getElem_inj (h₀ := hj') (h₁ := hi) hnd).1 (e1.trans hiq.symm)
    omega)
  have HAT := Lib.hid (rat_any w hc (show keys.length ≤ 1000000 by omega) _ (keyI q) hu (by unfold keyI; simp; omega))
  dsimp only at HAT
  rw [hat] at HAT
  have HASK := Lib.hid (show PS.ask ⟨N, room, now, hits, misses, dropped, keys⟩ q = ⟨N, room, now + 1, hits + 1, misses, dropped, ([] : List (Nat × List Int)) ++ keys.take i ++ keys.drop (i + 1) ++ [q]⟩ by
    unfold PS.ask
    rw [if_pos hq]
    dsimp only
    rw [filter_at hi hiq hnd, List.nil_append])
  have hrl := hc.lt
  obtain ⟨us, hus, hku, hkv⟩ := hc.keys.us
  dsimp only at hus hku
  obtain ⟨n, hne⟩ : ∃ n, keys.length = n := ⟨_, rfl⟩
  rw [hne] at hus hn hi
  obtain ⟨g, cv, rfl, hcv, hcm, hgl, hcl⟩ := own_cells hus (by omega)
  obtain ⟨pt, htr, hpt⟩ := tail_run g n cv (i + 1) (by omega) hcv
  have hic : i ≤ cv := by omega
  have hin : i + 1 ≤ n := by omega
  have HTR := Lib.hid (show ∀ W, (Instr.slice 65 (.slice (some ⟨g, 0, none⟩) n cv) (some (.int .i64 ((i : Int) + 1))) none none).run Tryz.prog W = .ok (.slice pt (n - (i + 1)) (cv - (i + 1))) W from htr)
  have HPT := Lib.hid hpt
  have HON := Lib.hid hku.ones
  have HU1 := Lib.hid hu.one
  have HLE := Lib.hid hc.le
  have HGR := Lib.hid hc.gr
  have c2 := hc.c2
  have c3 := hc.c3
  have HBK := Lib.hid hc.blk
  have hgr : g ≠ rb := fun e => hc.ne (by rw [e]; rfl)
  dsimp only at c2 c3 HBK
  have f3 : w.frozen? ⟨rb, 3, none⟩ = false := fz_of HBK.out 3
  have HUL := Lib.hid (show us.length = n by rw [hku.1, hne])
  have HKL := Lib.hid (show (([] : List (Nat × List Int)) ++ keys.take i ++ keys.drop (i + 1) ++ [q]).length = n by simp [hne]; omega)
  have HKU := Lib.hid (((((show KeysU w G [] [] from ⟨rfl, fun i u h => by simp at h⟩).append (hku.take i)).append (hku.drop (i + 1))).append (KeysU.one hu hub)))
  have HCL := Lib.hid hcl
  clear hat hc hq hiq hus hku hkv hne htr hpt hcl hu hub hnd
  go_enter Tryz.func31, Tryz.ntmps31
  go_wp2_with fail
  refine HAT.out.mono ?_
  rintro e w' ⟨rfl, nq, rfl⟩
  go_wp2_with fail
  have HK3 := Lib.hid (show Kept (fun i => i = rb) w ((w.drewN nq).setCell ⟨rb, 3, none⟩ (.int .i64 ((hits : Int) + 1))) from (Kept.mono (S' := fun i => i = rb) (Kept.below (show Below w.heap.size w (w.drewN nq) from ⟨rfl, rfl, rfl, Nat.le_refl _, fun _ _ => rfl⟩)) (fun _ _ h => h.elim)).setCell' rfl _)
  have HBK := Lib.hid (show ((w.drewN nq).setCell ⟨rb, 3, none⟩ (.int .i64 ((hits : Int) + 1))).heap[rb]? = some (.cells #[.int .i64 (N : Int), .int .i64 (room : Int), .slice (some ⟨g, 0, none⟩) n cv, .int .i64 ((hits + 1 : Nat) : Int), .int .i64 (misses : Int), .int .i64 (dropped : Int)] 67 (0, 0)) from by
    have := heap_set (w := w.drewN nq) (i := 3) HBK.out (.int .i64 ((hits : Int) + 1))
    simpa using this)
  generalize (w.drewN nq).setCell ⟨rb, 3, none⟩ (.int .i64 ((hits : Int) + 1)) = w3 at *
  have HRL := Lib.hid (show rb < w3.heap.size from Nat.lt_of_lt_of_le hrl HK3.out.size)
  have HBL3 := Lib.hid (show base ≤ w3.heap.size from Nat.le_trans hb HK3.out.size)
  have HC2 := Lib.hid (show w3.cell? ⟨rb, 2, none⟩ = some (.slice (some ⟨g, 0, none⟩) n cv) by rw [cell_of HBK.out]; rfl)
  have HKU := Lib.hid (HKU.out.mono HK3.out (fun j x b hj hb e => HGR.out (e ▸ ((HKU.out.2 j x hj).2 b hb).1)))
  have HCL := Lib.hid (show ∀ W, Kept (fun _ => False) w3 W → ∀ j, j < n → W.cell? ⟨g, j, none⟩ = us[j]? from fun W hW j hj =>
    ((HK3.out.trans (S' := fun _ => False) hW (fun _ _ h => h.elim)).cell (p := ⟨g, j, none⟩) hgl hgr).trans (HCL.out j hj))
  have HKK := Lib.hid (show Kept (fun _ => False) w3 w3.drew from ⟨rfl, rfl, rfl, Nat.le_refl _, fun _ _ _ => rfl⟩)
  clear c2 c3 f3
  refine z_start 23 (fun w' => Kept (fun _ => False) w3 w') 22 (by as_aux_lemma => kernel_rfl) (by as_aux_lemma => kernel_rfl) ?_
  generalize w3.drew = wd at *
  refine z_take 0 (by as_aux_lemma => kernel_rfl) (by as_aux_lemma => kernel_rfl) (by as_aux_lemma => kernel_rfl) (by as_aux_lemma => kernel_rfl) (by as_aux_lemma => kernel_rfl) HKK.out (fun oi ho => ?_)
  simp only [List.getElem?_toArray, List.getElem?_cons_succ, List.getElem?_cons_zero, Option.some.injEq] at ho
  subst ho
  refine ⟨?_, Or.inl ⟨by rfl, fun w _ => ?_⟩, ?_⟩
  rotate_left
  · (go_simp <;> with_reducible rfl)
  try simp only [Act.put, List.setIfInBounds_toArray, List.set_cons_zero, List.set_cons_succ]
  refine z_take 2 (by as_aux_lemma => kernel_rfl) (by as_aux_lemma => kernel_rfl) (by as_aux_lemma => kernel_rfl) (by as_aux_lemma => kernel_rfl) (by as_aux_lemma => kernel_rfl) HKK.out (fun oi ho => ?_)
  simp only [List.getElem?_toArray, List.getElem?_cons_succ, List.getElem?_cons_zero, Option.some.injEq] at ho
  subst ho
  refine ⟨?_, Or.inl ⟨by rfl, fun w _ => ?_⟩, ?_⟩
  rotate_left
  · (go_simp <;> with_reducible rfl)
  try simp only [Act.put, List.setIfInBounds_toArray, List.set_cons_zero, List.set_cons_succ]
  refine z_take 3 (by as_aux_lemma => kernel_rfl) (by as_aux_lemma => kernel_rfl) (by as_aux_lemma => kernel_rfl) (by as_aux_lemma => kernel_rfl) (by as_aux_lemma => kernel_rfl) HKK.out (fun oi ho => ?_)
  simp only [List.getElem?_toArray, List.getElem?_cons_succ, List.getElem?_cons_zero, Option.some.injEq] at ho
  subst ho
  refine ⟨?_, Or.inl ⟨by rfl, fun w _ => ?_⟩, ?_⟩
  rotate_left
  · (go_simp <;> with_reducible rfl)
  try simp only [Act.put, List.setIfInBounds_toArray, List.set_cons_zero, List.set_cons_succ]
  refine z_take 4 (by as_aux_lemma => kernel_rfl) (by as_aux_lemma => kernel_rfl) (by as_aux_lemma => kernel_rfl) (by as_aux_lemma => kernel_rfl) (by as_aux_lemma => kernel_rfl) HKK.out (fun oi ho => ?_)
  simp only [List.getElem?_toArray, List.getElem?_cons_succ, List.getElem?_cons_zero, Option.some.injEq] at ho
  subst ho
  refine ⟨?_, Or.inl ⟨by rfl, fun w _ => ?_⟩, ?_⟩
  rotate_left
  · (go_simp <;> with_reducible rfl)
  try simp only [Act.put, List.setIfInBounds_toArray, List.set_cons_zero, List.set_cons_succ]
  refine z_take 5 (by as_aux_lemma => kernel_rfl) (by as_aux_lemma => kernel_rfl) (by as_aux_lemma => kernel_rfl) (by as_aux_lemma => kernel_rfl) (by as_aux_lemma => kernel_rfl) HKK.out (fun oi ho => ?_)
  simp only [List.getElem?_toArray, List.getElem?_cons_succ, List.getElem?_cons_zero, Option.some.injEq] at ho
  subst ho
  refine ⟨.slice (some ⟨g, 0, none⟩) n cv, Or.inl ⟨by rfl, fun w' hS' => ?_⟩, ?_⟩
  · have q := (hS'.cell (p := ⟨rb, 2, none⟩) HRL.out (fun h => h)).trans HC2.out
    (go_simp <;> with_reducible rfl)
  try simp only [Act.put, List.setIfInBounds_toArray, List.set_cons_zero, List.set_cons_succ]
  refine z_take 6 (by as_aux_lemma => kernel_rfl) (by as_aux_lemma => kernel_rfl) (by as_aux_lemma => kernel_rfl) (by as_aux_lemma => kernel_rfl) (by as_aux_lemma => kernel_rfl) HKK.out (fun oi ho => ?_)
  simp only [List.getElem?_toArray, List.getElem?_cons_succ, List.getElem?_cons_zero, Option.some.injEq] at ho
  subst ho
  refine ⟨?_, Or.inl ⟨by rfl, fun w _ => ?_⟩, ?_⟩
  rotate_left
  · (go_simp <;> with_reducible rfl)
  try simp only [Act.put, List.setIfInBounds_toArray, List.set_cons_zero, List.set_cons_succ]
  refine z_take 7 (by as_aux_lemma => kernel_rfl) (by as_aux_lemma => kernel_rfl) (by as_aux_lemma => kernel_rfl) (by as_aux_lemma => kernel_rfl) (by as_aux_lemma => kernel_rfl) HKK.out (fun oi ho => ?_)
  simp only [List.getElem?_toArray, List.getElem?_cons_succ, List.getElem?_cons_zero, Option.some.injEq] at ho
  subst ho
  refine ⟨?_, Or.inl ⟨by rfl, fun w _ => ?_⟩, ?_⟩
  rotate_left
  · (go_simp <;> with_reducible rfl)
  try simp only [Act.put, List.setIfInBounds_toArray, List.set_cons_zero, List.set_cons_succ]
  refine z_take 9 (by as_aux_lemma => kernel_rfl) (by as_aux_lemma => kernel_rfl) (by as_aux_lemma => kernel_rfl) (by as_aux_lemma => kernel_rfl) (by as_aux_lemma => kernel_rfl) HKK.out (fun oi ho => ?_)
  simp only [List.getElem?_toArray, List.getElem?_cons_succ, List.getElem?_cons_zero, Option.some.injEq] at ho
  subst ho
  refine ⟨?_, Or.inl ⟨by rfl, fun w _ => ?_⟩, ?_⟩
  rotate_left
  · (go_simp <;> with_reducible rfl)
  try simp only [Act.put, List.setIfInBounds_toArray, List.set_cons_zero, List.set_cons_succ]
  refine z_take 10 (by as_aux_lemma => kernel_rfl) (by as_aux_lemma => kernel_rfl) (by as_aux_lemma => kernel_rfl) (by as_aux_lemma => kernel_rfl) (by as_aux_lemma => kernel_rfl) HKK.out (fun oi ho => ?_)
  simp only [List.getElem?_toArray, List.getElem?_cons_succ, List.getElem?_cons_zero, Option.some.injEq] at ho
  subst ho
  refine ⟨?_, Or.inl ⟨by rfl, fun w _ => ?_⟩, ?_⟩
  rotate_left
  · (go_simp <;> with_reducible rfl)
  try simp only [Act.put, List.setIfInBounds_toArray, List.set_cons_zero, List.set_cons_succ]
  refine z_take 11 (by as_aux_lemma => kernel_rfl) (by as_aux_lemma => kernel_rfl) (by as_aux_lemma => kernel_rfl) (by as_aux_lemma => kernel_rfl) (by as_aux_lemma => kernel_rfl) HKK.out (fun oi ho => ?_)
  simp only [List.getElem?_toArray, List.getElem?_cons_succ, List.getElem?_cons_zero, Option.some.injEq] at ho
  subst ho
  refine ⟨?_, Or.inl ⟨by rfl, fun w _ => ?_⟩, ?_⟩
  rotate_left
  · (go_simp <;> with_reducible rfl)
  try simp only [Act.put, List.setIfInBounds_toArray, List.set_cons_zero, List.set_cons_succ]
  refine z_take 12 (by as_aux_lemma => kernel_rfl) (by as_aux_lemma => kernel_rfl) (by as_aux_lemma => kernel_rfl) (by as_aux_lemma => kernel_rfl) (by as_aux_lemma => kernel_rfl) HKK.out (fun oi ho => ?_)
  simp only [List.getElem?_toArray, List.getElem?_cons_succ, List.getElem?_cons_zero, Option.some.injEq] at ho
  subst ho
  refine ⟨.slice (some ⟨g, 0, none⟩) n cv, Or.inl ⟨by rfl, fun w' hS' => ?_⟩, ?_⟩
  · have q := (hS'.cell (p := ⟨rb, 2, none⟩) HRL.out (fun h => h)).trans HC2.out
    (go_simp <;> with_reducible rfl)
  try simp only [Act.put, List.setIfInBounds_toArray, List.set_cons_zero, List.set_cons_succ]
  refine z_take 13 (by as_aux_lemma => kernel_rfl) (by as_aux_lemma => kernel_rfl) (by as_aux_lemma => kernel_rfl) (by as_aux_lemma => kernel_rfl) (by as_aux_lemma => kernel_rfl) HKK.out (fun oi ho => ?_)
  simp only [List.getElem?_toArray, List.getElem?_cons_succ, List.getElem?_cons_zero, Option.some.injEq] at ho
  subst ho
  refine ⟨?_, Or.inl ⟨by rfl, fun w _ => ?_⟩, ?_⟩
  rotate_left
  · (go_simp <;> with_reducible rfl)
  try simp only [Act.put, List.setIfInBounds_toArray, List.set_cons_zero, List.set_cons_succ]
  refine z_take 14 (by as_aux_lemma => kernel_rfl) (by as_aux_lemma => kernel_rfl) (by as_aux_lemma => kernel_rfl) (by as_aux_lemma => kernel_rfl) (by as_aux_lemma => kernel_rfl) HKK.out (fun oi ho => ?_)
  simp only [List.getElem?_toArray, List.getElem?_cons_succ, List.getElem?_cons_zero, Option.some.injEq] at ho
  subst ho
  refine ⟨.int .i64 ((i : Int) + 1), Or.inl ⟨by rfl, fun w' hS' => ?_⟩, ?_⟩
  · (go_simp <;> exact IntWalk.i64_in _ (by omega))
  try simp only [Act.put, List.setIfInBounds_toArray, List.set_cons_zero, List.set_cons_succ]
  refine z_take 15 (by as_aux_lemma => kernel_rfl) (by as_aux_lemma => kernel_rfl) (by as_aux_lemma => kernel_rfl) (by as_aux_lemma => kernel_rfl) (by as_aux_lemma => kernel_rfl) HKK.out (fun oi ho => ?_)
  simp only [List.getElem?_toArray, List.getElem?_cons_succ, List.getElem?_cons_zero, Option.some.injEq] at ho
  subst ho
  refine ⟨.slice pt (n - (i + 1)) (cv - (i + 1)), Or.inl ⟨by rfl, fun w' hS' => ?_⟩, ?_⟩
  · have q := HTR.out w'
    (go_simp <;> with_reducible rfl)
  try simp only [Act.put, List.setIfInBounds_toArray, List.set_cons_zero, List.set_cons_succ]
  refine z_take 17 (by as_aux_lemma => kernel_rfl) (by as_aux_lemma => kernel_rfl) (by as_aux_lemma => kernel_rfl) (by as_aux_lemma => kernel_rfl) (by as_aux_lemma => kernel_rfl) HKK.out (fun oi ho => ?_)
  simp only [List.getElem?_toArray, List.getElem?_cons_succ, List.getElem?_cons_zero, Option.some.injEq] at ho
  subst ho
  refine ⟨?_, Or.inl ⟨by rfl, fun w _ => ?_⟩, ?_⟩
  rotate_left
  · (go_simp <;> with_reducible rfl)
  try simp only [Act.put, List.setIfInBounds_toArray, List.set_cons_zero, List.set_cons_succ]
  refine z_all (rs := [1, 18]) (by as_aux_lemma => kernel_rfl) (by simp) ?_
  refine z_step 1 (by as_aux_lemma => kernel_rfl) (fun o ho K hK => ?_) ?_
  · simp only [List.getElem?_toArray, List.getElem?_cons_succ, List.getElem?_cons_zero, Option.some.injEq] at ho
    subst ho
    go_simp
    have ho1 := World.ownsRow_lit (size := 1) (e := 32) wd #[] 0 (Nat.le_refl _) (by unfold maxLen; omega) rfl
    have HO := Lib.hid (ownsRow_weaken ho1 HKK.out.size)
    clear ho1
    have HKO := HKK
    have HKK := Lib.hid (show Kept (fun _ => False) w3 (wd.alloc (.cells #[] 32)) from HKO.out.trans (Kept.alloc (fun _ => False) wd _) (fun _ _ h => h))
    have h0x : (wd.alloc (.cells #[] 32)).heap.size = wd.heap.size + 1 := by simp
    have HZ0 := Lib.hid h0x
    clear h0x
    generalize wd.alloc (.cells #[] 32) = W1 at *
    refine hK.out _ _ HKK.out ?_
    clear hK K
    try simp only [Act.put, List.setIfInBounds_toArray, List.set_cons_zero, List.set_cons_succ]
    refine z_all (rs := [8, 18]) (by as_aux_lemma => kernel_rfl) (by simp) ?_
    refine z_step 8 (by as_aux_lemma => kernel_rfl) (fun o ho K hK => ?_) ?_
    · simp only [List.getElem?_toArray, List.getElem?_cons_succ, List.getElem?_cons_zero, Option.some.injEq] at ho
      subst ho
      refine step_many 65 32 24 (.slice none 0 0) Tryz.underlying65 infoIS rfl (by decide) rfl _ _ rfl w3.heap.size 0 i i (by omega) (.slice (some ⟨wd.heap.size, 0, none⟩) 0 0) [] (us.take i) (by rw [List.length_take, HUL.out]; omega) (fun x hx => HON.out x (List.mem_of_mem_take hx)) rfl HO.out (some ⟨g, 0, none⟩) cv rfl (fun _ => ⟨g, 0, rfl, fun j hj => by rw [Nat.zero_add, HCL.out _ HKK.out j (by omega), List.getElem?_take, if_pos hj]⟩) (by omega) HKK.out.size ?_
      intro r3p r3c W2 ho1 hk1 hn1
      have HKO := HKK
      have HKK := Lib.hid (show Kept (fun _ => False) w3 W2 from HKO.out.trans hk1 (fun i hi h => by have := (World.ownsRow.lt HO.out i h).1; omega))
      have HO := Lib.hid ho1
      clear ho1 hk1 hn1
      refine hK.out _ _ HKK.out ?_
      clear hK K
      try simp only [Act.put, List.setIfInBounds_toArray, List.set_cons_zero, List.set_cons_succ]
      refine z_all (rs := [16, 18]) (by as_aux_lemma => kernel_rfl) (by simp) ?_
      refine z_step 16 (by as_aux_lemma => kernel_rfl) (fun o ho K hK => ?_) ?_
      · simp only [List.getElem?_toArray, List.getElem?_cons_succ, List.getElem?_cons_zero, Option.some.injEq] at ho
        subst ho
        refine step_many 65 32 24 (.slice none 0 0) Tryz.underlying65 infoIS rfl (by decide) rfl _ _ rfl w3.heap.size i (n - (i + 1)) (n - 1) (by omega) (.slice r3p i r3c) ([] ++ us.take i) (us.drop (i + 1)) (by rw [List.length_drop, HUL.out]) (fun x hx => HON.out x (List.mem_of_mem_drop hx)) rfl HO.out pt (cv - (i + 1)) rfl (fun h0 => ⟨g, i + 1, HPT.out (by omega), fun j hj => by rw [HCL.out _ HKK.out (i + 1 + j) (by omega), List.getElem?_drop]⟩) (by omega) HKK.out.size ?_
        intro r5p r5c W4 ho1 hk1 hn1
        have HKO := HKK
        have HKK := Lib.hid (show Kept (fun _ => False) w3 W4 from HKO.out.trans hk1 (fun i hi h => by have := (World.ownsRow.lt HO.out i h).1; omega))
        have HO := Lib.hid ho1
        clear ho1 hk1 hn1
        refine hK.out _ _ HKK.out ?_
        clear hK K
        try simp only [Act.put, List.setIfInBounds_toArray, List.set_cons_zero, List.set_cons_succ]
        refine z_all (rs := [18]) (by as_aux_lemma => kernel_rfl) (by simp) ?_
        refine z_step 18 (by as_aux_lemma => kernel_rfl) (fun o ho K hK => ?_) AllReadyE.nil
        simp only [List.getElem?_toArray, List.getElem?_cons_succ, List.getElem?_cons_zero, Option.some.injEq] at ho
        subst ho
        go_simp
        have HBX := Lib.hid (show (W4.alloc (.cells #[.slice pu lu cu] 32)).cell? ⟨W4.heap.size, 0, none⟩ = some (.slice pu lu cu) from World.cell?_alloc_new W4 _ _ 0)
        have HBL := Lib.hid (show W4.heap.size < (W4.alloc (.cells #[.slice pu lu cu] 32)).heap.size by simp)
        have HBN := Lib.hid (show (Value.slice r5p (n - 1) r5c).ownBlock ≠ some W4.heap.size from fun e => by have := (World.ownsRow.lt HO.out _ e).2; omega)
        have HO := Lib.hid (HO.out.alloc (.cells #[.slice pu lu cu] 32))
        have HKO := HKK
        have HKK := Lib.hid (show Kept (fun _ => False) w3 (W4.alloc (.cells #[.slice pu lu cu] 32)) from HKO.out.trans (Kept.alloc (fun _ => False) W4 _) (fun _ _ h => h))
        generalize W4.alloc (.cells #[.slice pu lu cu] 32) = W6 at *
        refine hK.out _ _ HKK.out ?_
        clear hK K
        try simp only [Act.put, List.setIfInBounds_toArray, List.set_cons_zero, List.set_cons_succ]
        refine z_all (rs := [19]) (by as_aux_lemma => kernel_rfl) (by simp) ?_
        refine z_step 19 (by as_aux_lemma => kernel_rfl) (fun o ho K hK => ?_) AllReadyE.nil
        simp only [List.getElem?_toArray, List.getElem?_cons_succ, List.getElem?_cons_zero, Option.some.injEq] at ho
        subst ho
        refine step_many 65 32 24 (.slice none 0 0) Tryz.underlying65 infoIS rfl (by decide) rfl _ _ rfl w3.heap.size (n - 1) 1 n (by omega) (.slice r5p (n - 1) r5c) ([] ++ us.take i ++ us.drop (i + 1)) [.slice pu lu cu] rfl (fun x hx => by rw [List.mem_singleton] at hx; subst hx; exact HU1.out) rfl HO.out (some ⟨W4.heap.size, 0, none⟩) 1 rfl (fun h0 => ⟨_, 0, rfl, fun j hj => (by have e : j = 0 := (by omega); subst e; exact HBX.out)⟩) (by omega) HKK.out.size ?_
        intro r8p r8c W7 ho1 hk1 hn1
        have HKO := HKK
        have HKK := Lib.hid (show Kept (fun _ => False) w3 W7 from HKO.out.trans hk1 (fun i hi h => by have := (World.ownsRow.lt HO.out i h).1; omega))
        have HO := Lib.hid ho1
        clear ho1 hk1 hn1
        refine hK.out _ _ HKK.out ?_
        clear hK K
        try simp only [Act.put, List.setIfInBounds_toArray, List.set_cons_zero, List.set_cons_succ]
        refine z_all (rs := [20]) (by as_aux_lemma => kernel_rfl) (by simp) ?_
        refine z_step 20 (by as_aux_lemma => kernel_rfl) (fun o ho K hK => ?_) AllReadyE.nil
        simp only [List.getElem?_toArray, List.getElem?_cons_succ, List.getElem?_cons_zero, Option.some.injEq] at ho
        subst ho
        go_simp
        refine hK.out _ _ HKK.out ?_
        clear hK K
        try simp only [Act.put, List.setIfInBounds_toArray, List.set_cons_zero, List.set_cons_succ]
        refine z_take 21 (by as_aux_lemma => kernel_rfl) (by as_aux_lemma => kernel_rfl) (by as_aux_lemma => kernel_rfl) (by as_aux_lemma => kernel_rfl) (by as_aux_lemma => kernel_rfl) HKK.out (fun oi ho => ?_)
        simp only [List.getElem?_toArray, List.getElem?_cons_succ, List.getElem?_cons_zero, Option.some.injEq] at ho
        subst ho
        refine ⟨?_, Or.inl ⟨by rfl, fun w _ => ?_⟩, ?_⟩
        rotate_left
        · (go_simp <;> with_reducible rfl)
        try simp only [Act.put, List.setIfInBounds_toArray, List.set_cons_zero, List.set_cons_succ]
        refine z_all (rs := [22]) (by as_aux_lemma => kernel_rfl) (by simp) (z_last (by as_aux_lemma => kernel_rfl) (fun o ho K hK => ?_))
        simp only [List.getElem?_toArray, List.getElem?_cons_succ, List.getElem?_cons_zero, Option.some.injEq] at ho
        subst ho
        have x2 := (HKK.out.cell (p := ⟨rb, 2, none⟩) HRL.out (fun h => h)).trans HC2.out
        have f2 : W7.frozen? ⟨rb, 2, none⟩ = false := fz_of ((HKK.out.block rb HRL.out (fun h => h)).trans HBK.out) 2
        have HVN := Lib.hid (show (Value.slice r8p n r8c).ownBlock ≠ some rb from fun e => by have := (World.ownsRow.lt HO.out _ e).1; have := HRL.out; omega)
        have HF := Lib.hid (RCAt.close (now := now + 1) HBK.out HKK.out (fun h => h) (fun j x b hj hb => ⟨fun h => h, fun e => by
          have h1 := (World.ownsRow.lt HO.out _ e).1
          have h2 := ((HKU.out.2 j x hj).2 b hb).2
          omega⟩) (by rw [HKL.out]; exact ownsRow_weaken HO.out HBL3.out) HVN.out HKU.out HLE.out HGR.out)
        have HNW := Lib.hid (fun b (e : (Value.slice r8p n r8c).ownBlock = some b) => (World.ownsRow.lt HO.out _ e).1)
        have HKF := Lib.hid (show Kept (fun i => i = rb) w3 (W7.setCell ⟨rb, 2, none⟩ (.slice r8p n r8c)) from (Kept.mono (S' := fun i => i = rb) HKK.out (fun _ _ h => h.elim)).setCell' (p := ⟨rb, 2, none⟩) rfl _)
        go_simp
        refine hK.out _ _ ?_
        clear hK K
        try simp only [Act.put, List.setIfInBounds_toArray, List.set_cons_zero, List.set_cons_succ]
        refine z_done (by as_aux_lemma => kernel_rfl) ?_
        go_wp2
        (try simp only [Exit.inBlock, Exit.then])
        refine bodyPost_ret (results_none rfl _ _ _) rfl ?_
        exact ⟨rfl, _, by rw [HASK.out]; exact HF.out, (HK3.out.mono (fun _ _ h => .inl h)).trans HKF.out (fun _ _ h => .inl h), fun b e => .inr (Nat.le_trans HK3.out.size (HNW.out b e))⟩
      refine z_step 18 (by as_aux_lemma => kernel_rfl) (fun o ho K hK => ?_) ?_
      · simp only [List.getElem?_toArray, List.getElem?_cons_succ, List.getElem?_cons_zero, Option.some.injEq] at ho
        subst ho
        go_simp
        have HBX := Lib.hid (show (W2.alloc (.cells #[.slice pu lu cu] 32)).cell? ⟨W2.heap.size, 0, none⟩ = some (.slice pu lu cu) from World.cell?_alloc_new W2 _ _ 0)
        have HBL := Lib.hid (show W2.heap.size < (W2.alloc (.cells #[.slice pu lu cu] 32)).heap.size by simp)
        have HBN := Lib.hid (show (Value.slice r3p i r3c).ownBlock ≠ some W2.heap.size from fun e => by have := (World.ownsRow.lt HO.out _ e).2; omega)
        have HO := Lib.hid (HO.out.alloc (.cells #[.slice pu lu cu] 32))
        have HKO := HKK
        have HKK := Lib.hid (show Kept (fun _ => False) w3 (W2.alloc (.cells #[.slice pu lu cu] 32)) from HKO.out.trans (Kept.alloc (fun _ => False) W2 _) (fun _ _ h => h))
        generalize W2.alloc (.cells #[.slice pu lu cu] 32) = W9 at *
        refine hK.out _ _ HKK.out ?_
        clear hK K
        try simp only [Act.put, List.setIfInBounds_toArray, List.set_cons_zero, List.set_cons_succ]
        refine z_all (rs := [16]) (by as_aux_lemma => kernel_rfl) (by simp) ?_
        refine z_step 16 (by as_aux_lemma => kernel_rfl) (fun o ho K hK => ?_) AllReadyE.nil
        simp only [List.getElem?_toArray, List.getElem?_cons_succ, List.getElem?_cons_zero, Option.some.injEq] at ho
        subst ho
        refine step_many 65 32 24 (.slice none 0 0) Tryz.underlying65 infoIS rfl (by decide) rfl _ _ rfl w3.heap.size i (n - (i + 1)) (n - 1) (by omega) (.slice r3p i r3c) ([] ++ us.take i) (us.drop (i + 1)) (by rw [List.length_drop, HUL.out]) (fun x hx => HON.out x (List.mem_of_mem_drop hx)) rfl HO.out pt (cv - (i + 1)) rfl (fun h0 => ⟨g, i + 1, HPT.out (by omega), fun j hj => by rw [HCL.out _ HKK.out (i + 1 + j) (by omega), List.getElem?_drop]⟩) (by omega) HKK.out.size ?_
        intro r11p r11c W10 ho1 hk1 hn1
        have HKO := HKK
        have HKK := Lib.hid (show Kept (fun _ => False) w3 W10 from HKO.out.trans hk1 (fun i hi h => by have := (World.ownsRow.lt HO.out i h).1; omega))
        have HBX := Lib.hid ((hk1.cell (p := ⟨W2.heap.size, 0, none⟩) (blt HBX.out) (fun e => HBN.out e)).trans HBX.out)
        have HBN := Lib.hid (show (Value.slice r11p (n - 1) r11c).ownBlock ≠ some W2.heap.size from fun e => by
          rcases hn1 _ e with h | h
          · exact HBN.out h
          · have := HBL.out; omega)
        have HBL := Lib.hid (show W2.heap.size < W10.heap.size from Nat.lt_of_lt_of_le HBL.out hk1.size)
        have HO := Lib.hid ho1
        clear ho1 hk1 hn1
        refine hK.out _ _ HKK.out ?_
        clear hK K
        try simp only [Act.put, List.setIfInBounds_toArray, List.set_cons_zero, List.set_cons_succ]
        refine z_all (rs := [19]) (by as_aux_lemma => kernel_rfl) (by simp) ?_
        refine z_step 19 (by as_aux_lemma => kernel_rfl) (fun o ho K hK => ?_) AllReadyE.nil
        simp only [List.getElem?_toArray, List.getElem?_cons_succ, List.getElem?_cons_zero, Option.some.injEq] at ho
        subst ho
        refine step_many 65 32 24 (.slice none 0 0) Tryz.underlying65 infoIS rfl (by decide) rfl _ _ rfl w3.heap.size (n - 1) 1 n (by omega) (.slice r11p (n - 1) r11c) ([] ++ us.take i ++ us.drop (i + 1)) [.slice pu lu cu] rfl (fun x hx => by rw [List.mem_singleton] at hx; subst hx; exact HU1.out) rfl HO.out (some ⟨W2.heap.size, 0, none⟩) 1 rfl (fun h0 => ⟨_, 0, rfl, fun j hj => (by have e : j = 0 := (by omega); subst e; exact HBX.out)⟩) (by omega) HKK.out.size ?_
        intro r13p r13c W12 ho1 hk1 hn1
        have HKO := HKK
        have HKK := Lib.hid (show Kept (fun _ => False) w3 W12 from HKO.out.trans hk1 (fun i hi h => by have := (World.ownsRow.lt HO.out i h).1; omega))
        have HO := Lib.hid ho1
        clear ho1 hk1 hn1
        refine hK.out _ _ HKK.out ?_
        clear hK K
        try simp only [Act.put, List.setIfInBounds_toArray, List.set_cons_zero, List.set_cons_succ]
        refine z_all (rs := [20]) (by as_aux_lemma => kernel_rfl) (by simp) ?_
        refine z_step 20 (by as_aux_lemma => kernel_rfl) (fun o ho K hK => ?_) AllReadyE.nil
        simp only [List.getElem?_toArray, List.getElem?_cons_succ, List.getElem?_cons_zero, Option.some.injEq] at ho
        subst ho
        go_simp
        refine hK.out _ _ HKK.out ?_
        clear hK K
        try simp only [Act.put, List.setIfInBounds_toArray, List.set_cons_zero, List.set_cons_succ]
        refine z_take 21 (by as_aux_lemma => kernel_rfl) (by as_aux_lemma => kernel_rfl) (by as_aux_lemma => kernel_rfl) (by as_aux_lemma => kernel_rfl) (by as_aux_lemma => kernel_rfl) HKK.out (fun oi ho => ?_)
        simp only [List.getElem?_toArray, List.getElem?_cons_succ, List.getElem?_cons_zero, Option.some.injEq] at ho
        subst ho
        refine ⟨?_, Or.inl ⟨by rfl, fun w _ => ?_⟩, ?_⟩
        rotate_left
        · (go_simp <;> with_reducible rfl)
        try simp only [Act.put, List.setIfInBounds_toArray, List.set_cons_zero, List.set_cons_succ]
        refine z_all (rs := [22]) (by as_aux_lemma => kernel_rfl) (by simp) (z_last (by as_aux_lemma => kernel_rfl) (fun o ho K hK => ?_))
        simp only [List.getElem?_toArray, List.getElem?_cons_succ, List.getElem?_cons_zero, Option.some.injEq] at ho
        subst ho
        have x2 := (HKK.out.cell (p := ⟨rb, 2, none⟩) HRL.out (fun h => h)).trans HC2.out
        have f2 : W12.frozen? ⟨rb, 2, none⟩ = false := fz_of ((HKK.out.block rb HRL.out (fun h => h)).trans HBK.out) 2
        have HVN := Lib.hid (show (Value.slice r13p n r13c).ownBlock ≠ some rb from fun e => by have := (World.ownsRow.lt HO.out _ e).1; have := HRL.out; omega)
        have HF := Lib.hid (RCAt.close (now := now + 1) HBK.out HKK.out (fun h => h) (fun j x b hj hb => ⟨fun h => h, fun e => by
          have h1 := (World.ownsRow.lt HO.out _ e).1
          have h2 := ((HKU.out.2 j x hj).2 b hb).2
          omega⟩) (by rw [HKL.out]; exact ownsRow_weaken HO.out HBL3.out) HVN.out HKU.out HLE.out HGR.out)
        have HNW := Lib.hid (fun b (e : (Value.slice r13p n r13c).ownBlock = some b) => (World.ownsRow.lt HO.out _ e).1)
        have HKF := Lib.hid (show Kept (fun i => i = rb) w3 (W12.setCell ⟨rb, 2, none⟩ (.slice r13p n r13c)) from (Kept.mono (S' := fun i => i = rb) HKK.out (fun _ _ h => h.elim)).setCell' (p := ⟨rb, 2, none⟩) rfl _)
        go_simp
        refine hK.out _ _ ?_
        clear hK K
        try simp only [Act.put, List.setIfInBounds_toArray, List.set_cons_zero, List.set_cons_succ]
        refine z_done (by as_aux_lemma => kernel_rfl) ?_
        go_wp2
        (try simp only [Exit.inBlock, Exit.then])
        refine bodyPost_ret (results_none rfl _ _ _) rfl ?_
        exact ⟨rfl, _, by rw [HASK.out]; exact HF.out, (HK3.out.mono (fun _ _ h => .inl h)).trans HKF.out (fun _ _ h => .inl h), fun b e => .inr (Nat.le_trans HK3.out.size (HNW.out b e))⟩
      exact AllReadyE.nil
    refine z_step 18 (by as_aux_lemma => kernel_rfl) (fun o ho K hK => ?_) ?_
    · simp only [List.getElem?_toArray, List.getElem?_cons_succ, List.getElem?_cons_zero, Option.some.injEq] at ho
      subst ho
      go_simp
      have HBX := Lib.hid (show (W1.alloc (.cells #[.slice pu lu cu] 32)).cell? ⟨W1.heap.size, 0, none⟩ = some (.slice pu lu cu) from World.cell?_alloc_new W1 _ _ 0)
      have HBL := Lib.hid (show W1.heap.size < (W1.alloc (.cells #[.slice pu lu cu] 32)).heap.size by simp)
      have HBN := Lib.hid (show (Value.slice (some ⟨wd.heap.size, 0, none⟩) 0 0).ownBlock ≠ some W1.heap.size from fun e => by have := (World.ownsRow.lt HO.out _ e).2; omega)
      have HO := Lib.hid (HO.out.alloc (.cells #[.slice pu lu cu] 32))
      have HKO := HKK
      have HKK := Lib.hid (show Kept (fun _ => False) w3 (W1.alloc (.cells #[.slice pu lu cu] 32)) from HKO.out.trans (Kept.alloc (fun _ => False) W1 _) (fun _ _ h => h))
      generalize W1.alloc (.cells #[.slice pu lu cu] 32) = W14 at *
      refine hK.out _ _ HKK.out ?_
      clear hK K
      try simp only [Act.put, List.setIfInBounds_toArray, List.set_cons_zero, List.set_cons_succ]
      refine z_all (rs := [8]) (by as_aux_lemma => kernel_rfl) (by simp) ?_
      refine z_step 8 (by as_aux_lemma => kernel_rfl) (fun o ho K hK => ?_) AllReadyE.nil
      simp only [List.getElem?_toArray, List.getElem?_cons_succ, List.getElem?_cons_zero, Option.some.injEq] at ho
      subst ho
      refine step_many 65 32 24 (.slice none 0 0) Tryz.underlying65 infoIS rfl (by decide) rfl _ _ rfl w3.heap.size 0 i i (by omega) (.slice (some ⟨wd.heap.size, 0, none⟩) 0 0) [] (us.take i) (by rw [List.length_take, HUL.out]; omega) (fun x hx => HON.out x (List.mem_of_mem_take hx)) rfl HO.out (some ⟨g, 0, none⟩) cv rfl (fun _ => ⟨g, 0, rfl, fun j hj => by rw [Nat.zero_add, HCL.out _ HKK.out j (by omega), List.getElem?_take, if_pos hj]⟩) (by omega) HKK.out.size ?_
      intro r16p r16c W15 ho1 hk1 hn1
      have HKO := HKK
      have HKK := Lib.hid (show Kept (fun _ => False) w3 W15 from HKO.out.trans hk1 (fun i hi h => by have := (World.ownsRow.lt HO.out i h).1; omega))
      have HBX := Lib.hid ((hk1.cell (p := ⟨W1.heap.size, 0, none⟩) (blt HBX.out) (fun e => HBN.out e)).trans HBX.out)
      have HBN := Lib.hid (show (Value.slice r16p i r16c).ownBlock ≠ some W1.heap.size from fun e => by
        rcases hn1 _ e with h | h
        · exact HBN.out h
        · have := HBL.out; omega)
      have HBL := Lib.hid (show W1.heap.size < W15.heap.size from Nat.lt_of_lt_of_le HBL.out hk1.size)
      have HO := Lib.hid ho1
      clear ho1 hk1 hn1
      refine hK.out _ _ HKK.out ?_
      clear hK K
      try simp only [Act.put, List.setIfInBounds_toArray, List.set_cons_zero, List.set_cons_succ]
      refine z_all (rs := [16]) (by as_aux_lemma => kernel_rfl) (by simp) ?_
      refine z_step 16 (by as_aux_lemma => kernel_rfl) (fun o ho K hK => ?_) AllReadyE.nil
      simp only [List.getElem?_toArray, List.getElem?_cons_succ, List.getElem?_cons_zero, Option.some.injEq] at ho
      subst ho
      refine step_many 65 32 24 (.slice none 0 0) Tryz.underlying65 infoIS rfl (by decide) rfl _ _ rfl w3.heap.size i (n - (i + 1)) (n - 1) (by omega) (.slice r16p i r16c) ([] ++ us.take i) (us.drop (i + 1)) (by rw [List.length_drop, HUL.out]) (fun x hx => HON.out x (List.mem_of_mem_drop hx)) rfl HO.out pt (cv - (i + 1)) rfl (fun h0 => ⟨g, i + 1, HPT.out (by omega), fun j hj => by rw [HCL.out _ HKK.out (i + 1 + j) (by omega), List.getElem?_drop]⟩) (by omega) HKK.out.size ?_
      intro r18p r18c W17 ho1 hk1 hn1
      have HKO := HKK
      have HKK := Lib.hid (show Kept (fun _ => False) w3 W17 from HKO.out.trans hk1 (fun i hi h => by have := (World.ownsRow.lt HO.out i h).1; omega))
      have HBX := Lib.hid ((hk1.cell (p := ⟨W1.heap.size, 0, none⟩) (blt HBX.out) (fun e => HBN.out e)).trans HBX.out)
      have HBN := Lib.hid (show (Value.slice r18p (n - 1) r18c).ownBlock ≠ some W1.heap.size from fun e => by
        rcases hn1 _ e with h | h
        · exact HBN.out h
        · have := HBL.out; omega)
      have HBL := Lib.hid (show W1.heap.size < W17.heap.size from Nat.lt_of_lt_of_le HBL.out hk1.size)
      have HO := Lib.hid ho1
      clear ho1 hk1 hn1
      refine hK.out _ _ HKK.out ?_
      clear hK K
      try simp only [Act.put, List.setIfInBounds_toArray, List.set_cons_zero, List.set_cons_succ]
      refine z_all (rs := [19]) (by as_aux_lemma => kernel_rfl) (by simp) ?_
      refine z_step 19 (by as_aux_lemma => kernel_rfl) (fun o ho K hK => ?_) AllReadyE.nil
      simp only [List.getElem?_toArray, List.getElem?_cons_succ, List.getElem?_cons_zero, Option.some.injEq] at ho
      subst ho
      refine step_many 65 32 24 (.slice none 0 0) Tryz.underlying65 infoIS rfl (by decide) rfl _ _ rfl w3.heap.size (n - 1) 1 n (by omega) (.slice r18p (n - 1) r18c) ([] ++ us.take i ++ us.drop (i + 1)) [.slice pu lu cu] rfl (fun x hx => by rw [List.mem_singleton] at hx; subst hx; exact HU1.out) rfl HO.out (some ⟨W1.heap.size, 0, none⟩) 1 rfl (fun h0 => ⟨_, 0, rfl, fun j hj => (by have e : j = 0 := (by omega); subst e; exact HBX.out)⟩) (by omega) HKK.out.size ?_
      intro r20p r20c W19 ho1 hk1 hn1
      have HKO := HKK
      have HKK := Lib.hid (show Kept (fun _ => False) w3 W19 from HKO.out.trans hk1 (fun i hi h => by have := (World.ownsRow.lt HO.out i h).1; omega))
      have HO := Lib.hid ho1
      clear ho1 hk1 hn1
      refine hK.out _ _ HKK.out ?_
      clear hK K
      try simp only [Act.put, List.setIfInBounds_toArray, List.set_cons_zero, List.set_cons_succ]
      refine z_all (rs := [20]) (by as_aux_lemma => kernel_rfl) (by simp) ?_
      refine z_step 20 (by as_aux_lemma => kernel_rfl) (fun o ho K hK => ?_) AllReadyE.nil
      simp only [List.getElem?_toArray, List.getElem?_cons_succ, List.getElem?_cons_zero, Option.some.injEq] at ho
      subst ho
      go_simp
      refine hK.out _ _ HKK.out ?_
      clear hK K
      try simp only [Act.put, List.setIfInBounds_toArray, List.set_cons_zero, List.set_cons_succ]
      refine z_take 21 (by as_aux_lemma => kernel_rfl) (by as_aux_lemma => kernel_rfl) (by as_aux_lemma => kernel_rfl) (by as_aux_lemma => kernel_rfl) (by as_aux_lemma => kernel_rfl) HKK.out (fun oi ho => ?_)
      simp only [List.getElem?_toArray, List.getElem?_cons_succ, List.getElem?_cons_zero, Option.some.injEq] at ho
      subst ho
      refine ⟨?_, Or.inl ⟨by rfl, fun w _ => ?_⟩, ?_⟩
      rotate_left
      · (go_simp <;> with_reducible rfl)
      try simp only [Act.put, List.setIfInBounds_toArray, List.set_cons_zero, List.set_cons_succ]
      refine z_all (rs := [22]) (by as_aux_lemma => kernel_rfl) (by simp) (z_last (by as_aux_lemma => kernel_rfl) (fun o ho K hK => ?_))
      simp only [List.getElem?_toArray, List.getElem?_cons_succ, List.getElem?_cons_zero, Option.some.injEq] at ho
      subst ho
      have x2 := (HKK.out.cell (p := ⟨rb, 2, none⟩) HRL.out (fun h => h)).trans HC2.out
      have f2 : W19.frozen? ⟨rb, 2, none⟩ = false := fz_of ((HKK.out.block rb HRL.out (fun h => h)).trans HBK.out) 2
      have HVN := Lib.hid (show (Value.slice r20p n r20c).ownBlock ≠ some rb from fun e => by have := (World.ownsRow.lt HO.out _ e).1; have := HRL.out; omega)
      have HF := Lib.hid (RCAt.close (now := now + 1) HBK.out HKK.out (fun h => h) (fun j x b hj hb => ⟨fun h => h, fun e => by
        have h1 := (World.ownsRow.lt HO.out _ e).1
        have h2 := ((HKU.out.2 j x hj).2 b hb).2
        omega⟩) (by rw [HKL.out]; exact ownsRow_weaken HO.out HBL3.out) HVN.out HKU.out HLE.out HGR.out)
      have HNW := Lib.hid (fun b (e : (Value.slice r20p n r20c).ownBlock = some b) => (World.ownsRow.lt HO.out _ e).1)
      have HKF := Lib.hid (show Kept (fun i => i = rb) w3 (W19.setCell ⟨rb, 2, none⟩ (.slice r20p n r20c)) from (Kept.mono (S' := fun i => i = rb) HKK.out (fun _ _ h => h.elim)).setCell' (p := ⟨rb, 2, none⟩) rfl _)
      go_simp
      refine hK.out _ _ ?_
      clear hK K
      try simp only [Act.put, List.setIfInBounds_toArray, List.set_cons_zero, List.set_cons_succ]
      refine z_done (by as_aux_lemma => kernel_rfl) ?_
      go_wp2
      (try simp only [Exit.inBlock, Exit.then])
      refine bodyPost_ret (results_none rfl _ _ _) rfl ?_
      exact ⟨rfl, _, by rw [HASK.out]; exact HF.out, (HK3.out.mono (fun _ _ h => .inl h)).trans HKF.out (fun _ _ h => .inl h), fun b e => .inr (Nat.le_trans HK3.out.size (HNW.out b e))⟩
    exact AllReadyE.nil
  refine z_step 18 (by as_aux_lemma => kernel_rfl) (fun o ho K hK => ?_) ?_
  · simp only [List.getElem?_toArray, List.getElem?_cons_succ, List.getElem?_cons_zero, Option.some.injEq] at ho
    subst ho
    go_simp
    have HBX := Lib.hid (show (wd.alloc (.cells #[.slice pu lu cu] 32)).cell? ⟨wd.heap.size, 0, none⟩ = some (.slice pu lu cu) from World.cell?_alloc_new wd _ _ 0)
    have HBL := Lib.hid (show wd.heap.size < (wd.alloc (.cells #[.slice pu lu cu] 32)).heap.size by simp)
    have HKO := HKK
    have HKK := Lib.hid (show Kept (fun _ => False) w3 (wd.alloc (.cells #[.slice pu lu cu] 32)) from HKO.out.trans (Kept.alloc (fun _ => False) wd _) (fun _ _ h => h))
    generalize wd.alloc (.cells #[.slice pu lu cu] 32) = W21 at *
    refine hK.out _ _ HKK.out ?_
    clear hK K
    try simp only [Act.put, List.setIfInBounds_toArray, List.set_cons_zero, List.set_cons_succ]
    refine z_all (rs := [1]) (by as_aux_lemma => kernel_rfl) (by simp) ?_
    refine z_step 1 (by as_aux_lemma => kernel_rfl) (fun o ho K hK => ?_) AllReadyE.nil
    simp only [List.getElem?_toArray, List.getElem?_cons_succ, List.getElem?_cons_zero, Option.some.injEq] at ho
    subst ho
    go_simp
    have ho1 := World.ownsRow_lit (size := 1) (e := 32) W21 #[] 0 (Nat.le_refl _) (by unfold maxLen; omega) rfl
    have HO := Lib.hid (ownsRow_weaken ho1 HKK.out.size)
    clear ho1
    have HKO := HKK
    have HKK := Lib.hid (show Kept (fun _ => False) w3 (W21.alloc (.cells #[] 32)) from HKO.out.trans (Kept.alloc (fun _ => False) W21 _) (fun _ _ h => h))
    have HBX := Lib.hid (alloc_cell HBX.out (.cells #[] 32))
    have HBN := Lib.hid (show (Value.slice (some ⟨W21.heap.size, 0, none⟩) 0 0).ownBlock ≠ some wd.heap.size from fun e => by have := own_is e; have := HBL.out; omega)
    have HBL := Lib.hid (show wd.heap.size < (W21.alloc (.cells #[] 32)).heap.size by have := HBL.out; simp; omega)
    have h0x : (W21.alloc (.cells #[] 32)).heap.size = W21.heap.size + 1 := by simp
    have HZ0 := Lib.hid h0x
    clear h0x
    generalize W21.alloc (.cells #[] 32) = W22 at *
    refine hK.out _ _ HKK.out ?_
    clear hK K
    try simp only [Act.put, List.setIfInBounds_toArray, List.set_cons_zero, List.set_cons_succ]
    refine z_all (rs := [8]) (by as_aux_lemma => kernel_rfl) (by simp) ?_
    refine z_step 8 (by as_aux_lemma => kernel_rfl) (fun o ho K hK => ?_) AllReadyE.nil
    simp only [List.getElem?_toArray, List.getElem?_cons_succ, List.getElem?_cons_zero, Option.some.injEq] at ho
    subst ho
    refine step_many 65 32 24 (.slice none 0 0) Tryz.underlying65 infoIS rfl (by decide) rfl _ _ rfl w3.heap.size 0 i i (by omega) (.slice (some ⟨W21.heap.size, 0, none⟩) 0 0) [] (us.take i) (by rw [List.length_take, HUL.out]; omega) (fun x hx => HON.out x (List.mem_of_mem_take hx)) rfl HO.out (some ⟨g, 0, none⟩) cv rfl (fun _ => ⟨g, 0, rfl, fun j hj => by rw [Nat.zero_add, HCL.out _ HKK.out j (by omega), List.getElem?_take, if_pos hj]⟩) (by omega) HKK.out.size ?_
    intro r24p r24c W23 ho1 hk1 hn1
    have HKO := HKK
    have HKK := Lib.hid (show Kept (fun _ => False) w3 W23 from HKO.out.trans hk1 (fun i hi h => by have := (World.ownsRow.lt HO.out i h).1; omega))
    have HBX := Lib.hid ((hk1.cell (p := ⟨wd.heap.size, 0, none⟩) (blt HBX.out) (fun e => HBN.out e)).trans HBX.out)
    have HBN := Lib.hid (show (Value.slice r24p i r24c).ownBlock ≠ some wd.heap.size from fun e => by
      rcases hn1 _ e with h | h
      · exact HBN.out h
      · have := HBL.out; omega)
    have HBL := Lib.hid (show wd.heap.size < W23.heap.size from Nat.lt_of_lt_of_le HBL.out hk1.size)
    have HO := Lib.hid ho1
    clear ho1 hk1 hn1
    refine hK.out _ _ HKK.out ?_
    clear hK K
    try simp only [Act.put, List.setIfInBounds_toArray, List.set_cons_zero, List.set_cons_succ]
    refine z_all (rs := [16]) (by as_aux_lemma => kernel_rfl) (by simp) ?_
    refine z_step 16 (by as_aux_lemma => kernel_rfl) (fun o ho K hK => ?_) AllReadyE.nil
    simp only [List.getElem?_toArray, List.getElem?_cons_succ, List.getElem?_cons_zero, Option.some.injEq] at ho
    subst ho
    refine step_many 65 32 24 (.slice none 0 0) Tryz.underlying65 infoIS rfl (by decide) rfl _ _ rfl w3.heap.size i (n - (i + 1)) (n - 1) (by omega) (.slice r24p i r24c) ([] ++ us.take i) (us.drop (i + 1)) (by rw [List.length_drop, HUL.out]) (fun x hx => HON.out x (List.mem_of_mem_drop hx)) rfl HO.out pt (cv - (i + 1)) rfl (fun h0 => ⟨g, i + 1, HPT.out (by omega), fun j hj => by rw [HCL.out _ HKK.out (i + 1 + j) (by omega), List.getElem?_drop]⟩) (by omega) HKK.out.size ?_
    intro r26p r26c W25 ho1 hk1 hn1
    have HKO := HKK
    have HKK := Lib.hid (show Kept (fun _ => False) w3 W25 from HKO.out.trans hk1 (fun i hi h => by have := (World.ownsRow.lt HO.out i h).1; omega))
    have HBX := Lib.hid ((hk1.cell (p := ⟨wd.heap.size, 0, none⟩) (blt HBX.out) (fun e => HBN.out e)).trans HBX.out)
    have HBN := Lib.hid (show (Value.slice r26p (n - 1) r26c).ownBlock ≠ some wd.heap.size from fun e => by
      rcases hn1 _ e with h | h
      · exact HBN.out h
      · have := HBL.out; omega)
    have HBL := Lib.hid (show wd.heap.size < W25.heap.size from Nat.lt_of_lt_of_le HBL.out hk1.size)
    have HO := Lib.hid ho1
    clear ho1 hk1 hn1
    refine hK.out _ _ HKK.out ?_
    clear hK K
    try simp only [Act.put, List.setIfInBounds_toArray, List.set_cons_zero, List.set_cons_succ]
    refine z_all (rs := [19]) (by as_aux_lemma => kernel_rfl) (by simp) ?_
    refine z_step 19 (by as_aux_lemma => kernel_rfl) (fun o ho K hK => ?_) AllReadyE.nil
    simp only [List.getElem?_toArray, List.getElem?_cons_succ, List.getElem?_cons_zero, Option.some.injEq] at ho
    subst ho
    refine step_many 65 32 24 (.slice none 0 0) Tryz.underlying65 infoIS rfl (by decide) rfl _ _ rfl w3.heap.size (n - 1) 1 n (by omega) (.slice r26p (n - 1) r26c) ([] ++ us.take i ++ us.drop (i + 1)) [.slice pu lu cu] rfl (fun x hx => by rw [List.mem_singleton] at hx; subst hx; exact HU1.out) rfl HO.out (some ⟨wd.heap.size, 0, none⟩) 1 rfl (fun h0 => ⟨_, 0, rfl, fun j hj => (by have e : j = 0 := (by omega); subst e; exact HBX.out)⟩) (by omega) HKK.out.size ?_
    intro r28p r28c W27 ho1 hk1 hn1
    have HKO := HKK
    have HKK := Lib.hid (show Kept (fun _ => False) w3 W27 from HKO.out.trans hk1 (fun i hi h => by have := (World.ownsRow.lt HO.out i h).1; omega))
    have HO := Lib.hid ho1
    clear ho1 hk1 hn1
    refine hK.out _ _ HKK.out ?_
    clear hK K
    try simp only [Act.put, List.setIfInBounds_toArray, List.set_cons_zero, List.set_cons_succ]
    refine z_all (rs := [20]) (by as_aux_lemma => kernel_rfl) (by simp) ?_
    refine z_step 20 (by as_aux_lemma => kernel_rfl) (fun o ho K hK => ?_) AllReadyE.nil
    simp only [List.getElem?_toArray, List.getElem?_cons_succ, List.getElem?_cons_zero, Option.some.injEq] at ho
    subst ho
    go_simp
    refine hK.out _ _ HKK.out ?_
    clear hK K
    try simp only [Act.put, List.setIfInBounds_toArray, List.set_cons_zero, List.set_cons_succ]
    refine z_take 21 (by as_aux_lemma => kernel_rfl) (by as_aux_lemma => kernel_rfl) (by as_aux_lemma => kernel_rfl) (by as_aux_lemma => kernel_rfl) (by as_aux_lemma => kernel_rfl) HKK.out (fun oi ho => ?_)
    simp only [List.getElem?_toArray, List.getElem?_cons_succ, List.getElem?_cons_zero, Option.some.injEq] at ho
    subst ho
    refine ⟨?_, Or.inl ⟨by rfl, fun w _ => ?_⟩, ?_⟩
    rotate_left
    · (go_simp <;> with_reducible rfl)
    try simp only [Act.put, List.setIfInBounds_toArray, List.set_cons_zero, List.set_cons_succ]
    refine z_all (rs := [22]) (by as_aux_lemma => kernel_rfl) (by simp) (z_last (by as_aux_lemma => kernel_rfl) (fun o ho K hK => ?_))
    simp only [List.getElem?_toArray, List.getElem?_cons_succ, List.getElem?_cons_zero, Option.some.injEq] at ho
    subst ho
    have x2 := (HKK.out.cell (p := ⟨rb, 2, none⟩) HRL.out (fun h => h)).trans HC2.out
    have f2 : W27.frozen? ⟨rb, 2, none⟩ = false := fz_of ((HKK.out.block rb HRL.out (fun h => h)).trans HBK.out) 2
    have HVN := Lib.hid (show (Value.slice r28p n r28c).ownBlock ≠ some rb from fun e => by have := (World.ownsRow.lt HO.out _ e).1; have := HRL.out; omega)
    have HF := Lib.hid (RCAt.close (now := now + 1) HBK.out HKK.out (fun h => h) (fun j x b hj hb => ⟨fun h => h, fun e => by
      have h1 := (World.ownsRow.lt HO.out _ e).1
      have h2 := ((HKU.out.2 j x hj).2 b hb).2
      omega⟩) (by rw [HKL.out]; exact ownsRow_weaken HO.out HBL3.out) HVN.out HKU.out HLE.out HGR.out)
    have HNW := Lib.hid (fun b (e : (Value.slice r28p n r28c).ownBlock = some b) => (World.ownsRow.lt HO.out _ e).1)
    have HKF := Lib.hid (show Kept (fun i => i = rb) w3 (W27.setCell ⟨rb, 2, none⟩ (.slice r28p n r28c)) from (Kept.mono (S' := fun i => i = rb) HKK.out (fun _ _ h => h.elim)).setCell' (p := ⟨rb, 2, none⟩) rfl _)
    go_simp
    refine hK.out _ _ ?_
    clear hK K
    try simp only [Act.put, List.setIfInBounds_toArray, List.set_cons_zero, List.set_cons_succ]
    refine z_done (by as_aux_lemma => kernel_rfl) ?_
    go_wp2
    (try simp only [Exit.inBlock, Exit.then])
    refine bodyPost_ret (results_none rfl _ _ _) rfl ?_
    exact ⟨rfl, _, by rw [HASK.out]; exact HF.out, (HK3.out.mono (fun _ _ h => .inl h)).trans HKF.out (fun _ _ h => .inl h), fun b e => .inr (Nat.le_trans HK3.out.size (HNW.out b e))⟩
  exact AllReadyE.nil
end Go.Proofs.YtlmpagicjgldkaaGreat
