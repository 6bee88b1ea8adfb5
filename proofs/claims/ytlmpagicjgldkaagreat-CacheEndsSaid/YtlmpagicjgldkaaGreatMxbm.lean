/-
  CaM: A new cache; what was counted.
  CaN: Has: is a matrix kept?
-/
import Derived.Test.YtlmpagicjgldkaaGreatCaH
import Derived.Carry
import Derived.Test.YtlmpagicjgldkaaGreatMxbl
namespace Go.Proofs.YtlmpagicjgldkaaGreat

section -- CaM
open Go.RowKit Go.Maps
set_option linter.unusedVariables false
set_option linter.unusedSimpArgs false
set_option maxRecDepth 100000
set_option maxHeartbeats 1000000

theorem balC (w : World) (x : Obj) : Below w.heap.size w (w.alloc x) := (Kept.alloc (fun _ => False) w x).toBelow (Nat.le_refl _) (fun _ h => h.elim)
theorem new_bad (w : World) (n room : Int) (h : n < 1 ∨ 255 < n ∨ room < 1 ∨ 64 < room) :
    Calls Tryz.prog 7 #[.int .i64 n, .int .i64 room] w fun e w' => e = .returned (.tuple #[.pointer none, .int .i64 2]) ∧ w = w' := by
  by_cases h1 : n < 1
  · go_enter Tryz.func7, Tryz.ntmps7
    go_wp2
    go_ret2
    exact ⟨rfl, rfl⟩
  · by_cases h2 : n > 255
    · go_enter Tryz.func7, Tryz.ntmps7
      go_wp2
      go_ret2
      exact ⟨rfl, rfl⟩
    · by_cases h3 : room < 1
      · go_enter Tryz.func7, Tryz.ntmps7
        go_wp2
        go_ret2
        exact ⟨rfl, rfl⟩
      · have h4 : room > 64 := by omega
        go_enter Tryz.func7, Tryz.ntmps7
        go_wp2
        go_ret2
        exact ⟨rfl, rfl⟩

theorem new_any (w : World) (n room : Nat) (h1 : 1 ≤ n) (h2 : n ≤ 255) (h3 : 1 ≤ room) (h4 : room ≤ 64) :
    Calls Tryz.prog 7 #[.int .i64 (n : Int), .int .i64 (room : Int)] w fun e w' => ∃ b bm, e = .returned (.tuple #[.pointer (some ⟨b, 0, none⟩), .int .i64 0]) ∧ w.heap.size ≤ b ∧ w.heap.size ≤ bm ∧ (∀ F : Nat → Prop, F b → F bm → CacheAt w' F b bm ⟨n, room, 0, 0, 0, 0, []⟩) ∧ Below w.heap.size w w' := by
  have hmm := @run_makeMap Tryz.prog
  go_enter Tryz.func7, Tryz.ntmps7
  go_wp2
  go_ret2
  have hg : ∀ i, ((w.alloc (.map #[] 0)).alloc (.cells #[.map (some w.heap.size), .int .i64 (room : Int), .int .i64 0, .int .i64 (n : Int), .int .i64 0, .int .i64 0, .int .i64 0, .int .i64 0] 64)).cell? ⟨w.heap.size + 1, i, none⟩ = (#[.map (some w.heap.size), .int .i64 (room : Int), .int .i64 0, .int .i64 (n : Int), .int .i64 0, .int .i64 0, .int .i64 0, .int .i64 0] : Array Value)[i]? := fun i => by
    have := World.cell?_alloc_new (w.alloc (.map #[] 0)) #[.map (some w.heap.size), .int .i64 (room : Int), .int .i64 0, .int .i64 (n : Int), .int .i64 0, .int .i64 0, .int .i64 0, .int .i64 0] 64 i
    rwa [show (w.alloc (.map #[] 0)).heap.size = w.heap.size + 1 by simp] at this
  have hh := Go.heap_alloc_new (w.alloc (.map #[] 0)) (.cells #[.map (some w.heap.size), .int .i64 (room : Int), .int .i64 0, .int .i64 (n : Int), .int .i64 0, .int .i64 0, .int .i64 0, .int .i64 0] 64)
  rw [show (w.alloc (.map #[] 0)).heap.size = w.heap.size + 1 by simp] at hh
  refine ⟨w.heap.size + 1, w.heap.size, rfl, by omega, Nat.le_refl _, fun F hb hm => ⟨hg 0, hg 1, hg 2, hg 3, hg 4, hg 5, hg 6, hg 7, fun o => fz_of hh o, (MapIs.made w).kept (Kept.alloc (fun _ => False) _ _) (fun h => h), fun e he => by simp at he, fun e he => by simp at he, hb, hm, List.Pairwise.nil, h1, h2, h3, h4, Nat.zero_le _⟩, ?_⟩
  exact ((Kept.alloc (fun _ => False) w (.map #[] 0)).trans (Kept.alloc (fun _ => False) _ _) (fun _ _ h => h)).toBelow (Nat.le_refl _) (fun _ h => h.elim)

theorem stat_any (w : World) {F : Nat → Prop} {b bm : Nat} {s : CS} (hc : CacheAt w F b bm s) :
    Calls Tryz.prog 24 #[.pointer (some ⟨b, 0, none⟩)] w fun e w' => e = .returned (.agg #[.int .i64 (s.es.length : Int), .int .i64 (s.hits : Int), .int .i64 (s.misses : Int), .int .i64 (s.dropped : Int)]) ∧ Below w.heap.size w w' := by
  have HC := Lib.hid hc
  have c0 := hc.c0
  have c4 := hc.c4
  have c5 := hc.c5
  have c6 := hc.c6
  have c7 := hc.c7
  have hl := hc.lt
  obtain ⟨len, hln⟩ : ∃ n, s.es.length = n := ⟨_, rfl⟩
  have HLE := Lib.hid (show ∀ W, Kept (fun _ => False) w W → (Builtin.len_ #[60] 3 #[.map (some bm)]).run Tryz.prog W = .ok (.int .i64 (len : Int)) W from fun W hW => by
    have := (hc.map.kept hW (fun h => h)).len 3
    rw [List.length_map, hln] at this
    exact this)
  rw [hln]
  clear hc hln
  go_enter Tryz.func24, Tryz.ntmps24
  go_wp2_with fail
  refine (there_c _ (HC.out.below (balC _ _))).mono ?_
  rintro e w' ⟨rfl, rfl⟩
  have hlen := HLE.out ((w.alloc (.cells #[.int .i64 0, .int .i64 0, .int .i64 0, .int .i64 0] 58)).alloc (.cells #[.int .i64 0, .int .i64 (s.hits : Int), .int .i64 (s.misses : Int), .int .i64 (s.dropped : Int)] 58)) ((Kept.alloc (fun _ => False) w _).trans (Kept.alloc (fun _ => False) _ _) (fun _ _ h => h))
  go_wp2_with fail
  refine bodyPost_ret (v := .agg #[.int .i64 (len : Int), .int .i64 (s.hits : Int), .int .i64 (s.misses : Int), .int .i64 (s.dropped : Int)]) (by simp [results, Tryz.results24, go_sem]) rfl ⟨rfl, ?_⟩
  exact ((Kept.alloc (fun _ => False) w _).trans (Kept.alloc (fun _ => False) _ _) (fun _ _ h => h)).toBelow (Nat.le_refl _) (fun _ h => h.elim)
end -- CaM

section -- CaN
open Go.RowKit Go.Maps
set_option linter.unusedVariables false
set_option linter.unusedSimpArgs false
set_option maxRecDepth 100000
set_option maxHeartbeats 1000000

theorem look_all {w : World} {F : Nat → Prop} {b bm : Nat} {s : CS} (hc : CacheAt w F b bm s) {k' : Int} {xs' : List Int} (hi : Idx k' xs') (ok : Bool) (hok : ok = true ↔ ∃ x ∈ s.es, x.L = kl k' xs') :
    ∃ pe le ce, ∃ u : Int, ∀ W, Kept (fun _ => False) w W → (Instr.lookup 60 (.map (some bm)) (keyV k' xs') true).run Tryz.prog W = .ok (.tuple #[.agg #[.slice pe le ce, .int .i64 u], .bool ok]) W := by
  cases hk : ok
  · refine ⟨none, 0, 0, 0, fun W hW => ?_⟩
    rcases (hc.map.kept hW (fun h => h)).look hi _ (zero_entry W) with ⟨p, hp, e, _⟩ | ⟨_, h⟩
    · obtain ⟨x, hx, rfl⟩ := List.mem_map.1 hp
      have := hok.2 ⟨x, hx, e⟩
      rw [hk] at this
      cases this
    · exact h
  · obtain ⟨x, hx, hxl⟩ := hok.1 hk
    refine ⟨some ⟨x.gm, 0, none⟩, x.k, x.k, x.u, fun W hW => ?_⟩
    rcases (hc.map.kept hW (fun h => h)).look hi _ (zero_entry W) with ⟨p, hp, e, h⟩ | ⟨h, _⟩
    · obtain ⟨y, hy, rfl⟩ := List.mem_map.1 hp
      have : y.p = x.p := by
        by_cases q : y.p = x.p
        · exact q
        · exact absurd (e.trans hxl.symm) (nodup_fst hc.map.nodup (List.mem_map.2 ⟨y, hy, rfl⟩) (List.mem_map.2 ⟨x, hx, rfl⟩) q)
      rw [this] at h
      exact h
    · exact absurd hxl (h x.p (List.mem_map.2 ⟨x, hx, rfl⟩))

theorem has_core (w : World) {F : Nat → Prop} {b bm : Nat} {s : CS} (hc : CacheAt w F b bm s) (k : Int) (v : Value) (is r : Bool)
    (hof : Calls Tryz.prog 38 #[.pointer (some ⟨b, 0, none⟩), .int .i64 k, v] w fun e w' => ∃ k' xs' ok, Idx k' xs' ∧ (is && ok) = r ∧ (ok = true ↔ ∃ x ∈ s.es, x.L = kl k' xs') ∧ e = .returned (.tuple #[keyV k' xs', .bool is]) ∧ Below w.heap.size w w') (hsh : ∃ p l c, v = .slice p l c) :
    Calls Tryz.prog 19 #[.pointer (some ⟨b, 0, none⟩), .int .i64 k, v] w fun e w' => e = .returned (.bool r) ∧ Below w.heap.size w w' := by
  obtain ⟨p, l, c, rfl⟩ := hsh
  have HC := Lib.hid hc
  have HOF := Lib.hid hof
  have c0 := hc.c0
  have hlb := hc.lt
  clear hc hof
  go_enter Tryz.func19, Tryz.ntmps19
  go_wp2_with fail
  refine (there_c w HC.out).mono ?_
  rintro e w' ⟨rfl, rfl⟩
  go_wp2_with fail
  refine HOF.out.mono ?_
  rintro e1 w1 ⟨k', xs', ok, hi, hir, hok, rfl, hB1⟩
  obtain ⟨C, hC⟩ : ∃ C, (kcells k' xs').toArray = C := ⟨_, rfl⟩
  have HKV := Lib.hid (show keyV k' xs' = .agg C by unfold keyV; rw [hC])
  have HCZ := Lib.hid (show C.size = 256 by rw [← hC]; exact kc_size _ _)
  have HC1 := Lib.hid (show C.all (·.oneCell') = true by rw [← hC]; exact kc_one _ _)
  have HCS := Lib.hid (show (Tryz.prog.info? 86).map (·.size) = some C.size by rw [HCZ.out]; exact size_key)
  obtain ⟨pe, le, ce, u, hlk⟩ := look_all HC.out hi ok hok
  rw [HKV.out] at hlk ⊢
  have HLK := Lib.hid hlk
  have HIR := Lib.hid hir
  clear hC hlk hok hir hi
  have hk := keyW_facts w1 C w1.heap.size rfl
  have hsc := keyW_run w1 C w1.heap.size rfl HCZ.out HC1.out
  have HKW := Lib.hid (show Kept (fun _ => False) w (keyW w1 C w1.heap.size) from (Kept.below hB1).trans hk.2.1 (fun _ _ h => h))
  have HB1 := Lib.hid (show Below w.heap.size w (keyW w1 C w1.heap.size) from hB1.trans (hk.2.1.toBelow hB1.size (fun _ h => h.elim)))
  have HG1 := Lib.hid hk.1
  have HZ1 := Lib.hid hk.2.2
  have hs1 := hB1.size
  clear hk hB1
  go_wp2_with fail
  generalize keyW w1 C w1.heap.size = w2 at *
  have HK0 := Lib.hid (show Kept (fun _ => False) w2 w2.drew from ⟨rfl, rfl, rfl, Nat.le_refl _, fun _ _ _ => rfl⟩)
  have HL2 := Lib.hid (show b < w2.heap.size by rw [HZ1.out]; omega)
  have HGL := Lib.hid (show w1.heap.size < w2.heap.size by rw [HZ1.out]; omega)
  have C2 := Lib.hid ((HB1.out.cell (p := ⟨b, 0, none⟩) hlb).trans c0)
  refine s_start 13 (fun w' => Kept (fun _ => False) w2 w') (by as_aux_lemma => kernel_rfl) (by as_aux_lemma => kernel_rfl) HK0.out ?_
  refine s_take 0 (by as_aux_lemma => kernel_rfl) (by as_aux_lemma => kernel_rfl) (by as_aux_lemma => kernel_rfl) (by as_aux_lemma => kernel_rfl) HK0.out (fun oi ho => ?_)
  simp only [List.getElem?_toArray, List.getElem?_cons_succ, List.getElem?_cons_zero, Option.some.injEq] at ho
  subst ho
  refine ⟨?_, Or.inl ⟨by rfl, fun w _ => ?_⟩, ?_⟩
  rotate_left
  · (go_simp <;> with_reducible rfl)
  try simp only [Act.put, List.setIfInBounds_toArray, List.set_cons_zero, List.set_cons_succ]
  refine s_take 1 (by as_aux_lemma => kernel_rfl) (by as_aux_lemma => kernel_rfl) (by as_aux_lemma => kernel_rfl) (by as_aux_lemma => kernel_rfl) HK0.out (fun oi ho => ?_)
  simp only [List.getElem?_toArray, List.getElem?_cons_succ, List.getElem?_cons_zero, Option.some.injEq] at ho
  subst ho
  refine ⟨?_, Or.inl ⟨by rfl, fun w _ => ?_⟩, ?_⟩
  rotate_left
  · (go_simp <;> with_reducible rfl)
  try simp only [Act.put, List.setIfInBounds_toArray, List.set_cons_zero, List.set_cons_succ]
  refine s_take 2 (by as_aux_lemma => kernel_rfl) (by as_aux_lemma => kernel_rfl) (by as_aux_lemma => kernel_rfl) (by as_aux_lemma => kernel_rfl) HK0.out (fun oi ho => ?_)
  simp only [List.getElem?_toArray, List.getElem?_cons_succ, List.getElem?_cons_zero, Option.some.injEq] at ho
  subst ho
  refine ⟨?_, Or.inl ⟨by rfl, fun w _ => ?_⟩, ?_⟩
  rotate_left
  · (go_simp <;> with_reducible rfl)
  try simp only [Act.put, List.setIfInBounds_toArray, List.set_cons_zero, List.set_cons_succ]
  refine s_take 3 (by as_aux_lemma => kernel_rfl) (by as_aux_lemma => kernel_rfl) (by as_aux_lemma => kernel_rfl) (by as_aux_lemma => kernel_rfl) HK0.out (fun oi ho => ?_)
  simp only [List.getElem?_toArray, List.getElem?_cons_succ, List.getElem?_cons_zero, Option.some.injEq] at ho
  subst ho
  refine ⟨?_, Or.inl ⟨by rfl, fun w _ => ?_⟩, ?_⟩
  rotate_left
  · (go_simp <;> with_reducible rfl)
  try simp only [Act.put, List.setIfInBounds_toArray, List.set_cons_zero, List.set_cons_succ]
  refine s_take 4 (by as_aux_lemma => kernel_rfl) (by as_aux_lemma => kernel_rfl) (by as_aux_lemma => kernel_rfl) (by as_aux_lemma => kernel_rfl) HK0.out (fun oi ho => ?_)
  simp only [List.getElem?_toArray, List.getElem?_cons_succ, List.getElem?_cons_zero, Option.some.injEq] at ho
  subst ho
  refine ⟨.map (some bm), Or.inl ⟨by rfl, fun w' hS' => ?_⟩, ?_⟩
  · have q := (hS'.cell (p := ⟨b, 0, none⟩) HL2.out (fun h => h)).trans C2.out
    (go_simp <;> with_reducible rfl)
  try simp only [Act.put, List.setIfInBounds_toArray, List.set_cons_zero, List.set_cons_succ]
  refine s_take 5 (by as_aux_lemma => kernel_rfl) (by as_aux_lemma => kernel_rfl) (by as_aux_lemma => kernel_rfl) (by as_aux_lemma => kernel_rfl) HK0.out (fun oi ho => ?_)
  simp only [List.getElem?_toArray, List.getElem?_cons_succ, List.getElem?_cons_zero, Option.some.injEq] at ho
  subst ho
  refine ⟨_, yields_row (by rfl) 86 _ rfl w1.heap.size rfl C 86 (0, 0) _ (fun w' hS' => (hS'.block w1.heap.size HGL.out (fun h => h)).trans HG1.out) Tryz.underlying86 rfl HCS.out, ?_⟩
  try simp only [Act.put, List.setIfInBounds_toArray, List.set_cons_zero, List.set_cons_succ]
  refine s_take 6 (by as_aux_lemma => kernel_rfl) (by as_aux_lemma => kernel_rfl) (by as_aux_lemma => kernel_rfl) (by as_aux_lemma => kernel_rfl) HK0.out (fun oi ho => ?_)
  simp only [List.getElem?_toArray, List.getElem?_cons_succ, List.getElem?_cons_zero, Option.some.injEq] at ho
  subst ho
  refine ⟨.tuple #[.agg #[.slice pe le ce, .int .i64 u], .bool ok], Or.inl ⟨by rfl, fun w' hS' => ?_⟩, ?_⟩
  · have q := HLK.out w' (HKW.out.trans hS' (fun _ _ h => h))
    (go_simp <;> with_reducible rfl)
  try simp only [Act.put, List.setIfInBounds_toArray, List.set_cons_zero, List.set_cons_succ]
  refine s_take 7 (by as_aux_lemma => kernel_rfl) (by as_aux_lemma => kernel_rfl) (by as_aux_lemma => kernel_rfl) (by as_aux_lemma => kernel_rfl) HK0.out (fun oi ho => ?_)
  simp only [List.getElem?_toArray, List.getElem?_cons_succ, List.getElem?_cons_zero, Option.some.injEq] at ho
  subst ho
  refine ⟨?_, Or.inl ⟨by rfl, fun w _ => ?_⟩, ?_⟩
  rotate_left
  · (go_simp <;> with_reducible rfl)
  try simp only [Act.put, List.setIfInBounds_toArray, List.set_cons_zero, List.set_cons_succ]
  refine s_take 8 (by as_aux_lemma => kernel_rfl) (by as_aux_lemma => kernel_rfl) (by as_aux_lemma => kernel_rfl) (by as_aux_lemma => kernel_rfl) HK0.out (fun oi ho => ?_)
  simp only [List.getElem?_toArray, List.getElem?_cons_succ, List.getElem?_cons_zero, Option.some.injEq] at ho
  subst ho
  refine ⟨?_, Or.inl ⟨by rfl, fun w _ => ?_⟩, ?_⟩
  rotate_left
  · (go_simp <;> with_reducible rfl)
  try simp only [Act.put, List.setIfInBounds_toArray, List.set_cons_zero, List.set_cons_succ]
  refine s_take 9 (by as_aux_lemma => kernel_rfl) (by as_aux_lemma => kernel_rfl) (by as_aux_lemma => kernel_rfl) (by as_aux_lemma => kernel_rfl) HK0.out (fun oi ho => ?_)
  simp only [List.getElem?_toArray, List.getElem?_cons_succ, List.getElem?_cons_zero, Option.some.injEq] at ho
  subst ho
  refine ⟨?_, Or.inl ⟨by rfl, fun w _ => ?_⟩, ?_⟩
  rotate_left
  · (go_simp <;> with_reducible rfl)
  try simp only [Act.put, List.setIfInBounds_toArray, List.set_cons_zero, List.set_cons_succ]
  refine s_all (rs := [10]) (by as_aux_lemma => kernel_rfl) (by simp) ?_
  refine s_step 10 (by as_aux_lemma => kernel_rfl) (fun o ho K hK => ?_) AllReadyH.nil
  simp only [List.getElem?_toArray, List.getElem?_cons_succ, List.getElem?_cons_zero, Option.some.injEq] at ho
  subst ho
  go_simp
  refine hK.out _ _ (HK0.out.trans (Kept.alloc _ _ _) (fun _ _ h => h)) ?_
  clear hK K
  try simp only [Act.put, List.setIfInBounds_toArray, List.set_cons_zero, List.set_cons_succ]
  refine s_all (rs := [11]) (by as_aux_lemma => kernel_rfl) (by simp) ?_
  refine s_step 11 (by as_aux_lemma => kernel_rfl) (fun o ho K hK => ?_) AllReadyH.nil
  simp only [List.getElem?_toArray, List.getElem?_cons_succ, List.getElem?_cons_zero, Option.some.injEq] at ho
  subst ho
  go_simp
  refine hK.out _ _ (HK0.out.trans (Kept.alloc _ _ _) (fun _ _ h => h)) ?_
  clear hK K
  try simp only [Act.put, List.setIfInBounds_toArray, List.set_cons_zero, List.set_cons_succ]
  refine s_take 12 (by as_aux_lemma => kernel_rfl) (by as_aux_lemma => kernel_rfl) (by as_aux_lemma => kernel_rfl) (by as_aux_lemma => kernel_rfl) (HK0.out.trans (Kept.alloc _ _ _) (fun _ _ h => h)) (fun oi ho => ?_)
  simp only [List.getElem?_toArray, List.getElem?_cons_succ, List.getElem?_cons_zero, Option.some.injEq] at ho
  subst ho
  refine ⟨?_, Or.inl ⟨by rfl, fun w _ => ?_⟩, ?_⟩
  rotate_left
  · (go_simp <;> with_reducible rfl)
  try simp only [Act.put, List.setIfInBounds_toArray, List.set_cons_zero, List.set_cons_succ]
  refine s_done (by as_aux_lemma => kernel_rfl) ?_
  cases is
  all_goals
    go_wp2
    go_ret
    exact ⟨by rw [← HIR.out]; simp, HB1.out.trans ((HK0.out.trans (Kept.alloc _ _ _) (fun _ _ h => h)).toBelow HB1.out.size (fun _ h => h.elim))⟩

/-- Is it kept? -/
def PS.has (p : PS) (k : Int) (xs : List Int) : Bool := decide (1 ≤ k ∧ k ≤ p.n ∧ k ≤ xs.length ∧ (∀ x ∈ xs.take k.toNat, 0 ≤ x ∧ x < p.n) ∧ (k.toNat, xs.take k.toNat) ∈ p.keys)
theorem has_any (w : World) {F : Nat → Prop} {b bm : Nat} {s : CS} (hc : CacheAt w F b bm s) (k : Int) (v : Value) (xs : List Int) (hv : IntsAt w v xs) (hl : xs.length ≤ 1000000) :
    Calls Tryz.prog 19 #[.pointer (some ⟨b, 0, none⟩), .int .i64 k, v] w fun e w' => e = .returned (.bool (s.plain.has k xs)) ∧ Below w.heap.size w w' := by
  have h255 := hc.n255
  have hsh : ∃ p l c, v = .slice p l c := by
    obtain ⟨p, c, e, _⟩ := hv
    exact ⟨p, _, c, e⟩
  have hno : s.plain.has k xs = false → Calls Tryz.prog 38 #[.pointer (some ⟨b, 0, none⟩), .int .i64 k, v] w (OfNo w) → Calls Tryz.prog 19 #[.pointer (some ⟨b, 0, none⟩), .int .i64 k, v] w fun e w' => e = .returned (.bool (s.plain.has k xs)) ∧ Below w.heap.size w w' := fun hf hof => by
    classical
    rw [hf]
    refine has_core w hc k v false false (hof.mono (fun e w' ⟨k', xs', hi, he, hb⟩ => ?_)) hsh
    exact ⟨k', xs', decide (∃ x ∈ s.es, x.L = kl k' xs'), hi, by simp, by simp, he, hb⟩
  by_cases h : k < 1 ∨ s.n < k ∨ xs.length < k
  · refine hno ?_ (of_no1 w hc k v xs hv hl h)
    unfold PS.has
    rw [decide_eq_false_iff_not]
    rintro ⟨a1, a2, a3, _⟩
    have : s.plain.n = s.n := rfl
    omega
  · obtain ⟨K, rfl⟩ : ∃ K : Nat, k = K := ⟨k.toNat, by omega⟩
    have h1 : 1 ≤ K := by omega
    have h2 : K ≤ s.n := by omega
    have h3 : K ≤ xs.length := by omega
    have hylen : (xs.take K).length = K := by rw [List.length_take]; omega
    by_cases hr : ∀ x ∈ xs.take K, 0 ≤ x ∧ x < s.n
    · have hi : Idx (K : Int) (xs.take K) := ⟨by omega, by omega, by rw [hylen]; omega, fun y hy => by have := hr y hy; omega⟩
      refine has_core w hc K v true (s.plain.has K xs) ((of_yes w hc K v xs hv hl h1 h2 h3 hr).mono (fun e w' ⟨he, hb⟩ => ⟨K, xs.take K, s.plain.has K xs, hi, by simp, ?_, he, hb⟩)) hsh
      unfold PS.has
      rw [decide_eq_true_eq, Int.toNat_natCast]
      have hpn : s.plain.n = s.n := rfl
      constructor
      · rintro ⟨_, _, _, _, hm⟩
        obtain ⟨x, hx, hk⟩ := List.mem_map.1 hm
        exact ⟨x, hx, (key_of_L (hc.good x hx) h255 hi hylen).2 hk⟩
      · rintro ⟨x, hx, hk⟩
        exact ⟨by omega, by omega, by omega, hr, List.mem_map.2 ⟨x, hx, (key_of_L (hc.good x hx) h255 hi hylen).1 hk⟩⟩
    · refine hno ?_ (of_no2 w hc K v xs hv hl h1 h2 h3 hr)
      unfold PS.has
      rw [decide_eq_false_iff_not]
      rintro ⟨_, _, _, a4, _⟩
      rw [Int.toNat_natCast] at a4
      exact hr a4
end -- CaN

end Go.Proofs.YtlmpagicjgldkaaGreat
