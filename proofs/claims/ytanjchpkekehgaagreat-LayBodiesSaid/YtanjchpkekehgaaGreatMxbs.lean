/-
  KitN: Three groups of rows lie apart.
  LayBa: ApartRows: two groups.
-/
import Derived.Test.YtanjchpkekehgaaGreatMxbr
namespace Go.Proofs.YtanjchpkekehgaaGreat

section -- KitN
open Go.RowKit Go.Maps
set_option linter.unusedVariables false
set_option maxRecDepth 100000
set_option maxHeartbeats 4000000

/-- No two of them lie in one block. -/
def InjU (us : List Value) : Prop := ∀ (i j : Nat) (u z : Value) (b : Nat), us[i]? = some u → us[j]? = some z → u.ownBlock = some b → z.ownBlock = some b → i = j
theorem InjU.append {l1 l2 : List Value} (h1 : InjU l1) (h2 : InjU l2) (hx : ∀ u ∈ l1, ∀ z ∈ l2, ∀ b, u.ownBlock = some b → z.ownBlock ≠ some b) : InjU (l1 ++ l2) := by
  intro i j u z b hi hj hu hz
  by_cases e1 : i < l1.length <;> by_cases e2 : j < l1.length
  · rw [List.getElem?_append_left e1] at hi
    rw [List.getElem?_append_left e2] at hj
    exact h1 i j u z b hi hj hu hz
  · rw [List.getElem?_append_left e1] at hi
    rw [List.getElem?_append_right (by omega)] at hj
    exact absurd hz (hx u (List.mem_of_getElem? hi) z (List.mem_of_getElem? hj) b hu)
  · rw [List.getElem?_append_right (by omega)] at hi
    rw [List.getElem?_append_left e2] at hj
    exact absurd hu (hx z (List.mem_of_getElem? hj) u (List.mem_of_getElem? hi) b hz)
  · rw [List.getElem?_append_right (by omega)] at hi hj
    have := h2 _ _ u z b hi hj hu hz
    omega

/-- A group of rows: the headers, the rows. -/
structure GroupAt (w : World) (lo : Nat) (v : Value) (us : List Value) : Prop where
  outer : w.ownsRow 0 50 1 v us.length us
  rows : ∀ u ∈ us, ∃ l : List B, l.length ≤ 100000 ∧ Own w 0 u l
  inj : InjU us
  ne : ∀ u ∈ us, ∀ b, u.ownBlock = some b → v.ownBlock ≠ some b
  lowv : ∀ b, v.ownBlock = some b → lo ≤ b
  lowu : ∀ u ∈ us, ∀ b, u.ownBlock = some b → lo ≤ b
/-- Of two groups: no block is of both. -/
def GroupNe (v1 : Value) (us1 : List Value) (v2 : Value) (us2 : List Value) : Prop := ∀ b, (v1.ownBlock = some b ∨ ∃ u ∈ us1, u.ownBlock = some b) → ¬ (v2.ownBlock = some b ∨ ∃ u ∈ us2, u.ownBlock = some b)

theorem RowsLone.group {w : World} {base : Nat} {v : Value} {ls : List (List B)} (h : RowsLone w base v ls) (hl : ∀ i, i < ls.length → (ls.getD i []).length ≤ 100000) : ∃ us, us.length = ls.length ∧ GroupAt w base v us := by
  obtain ⟨us, h1, h2, h3⟩ := h
  have hlen : us.length = ls.length := by have := h1.1; omega
  refine ⟨us, hlen, ⟨by rw [hlen]; exact ownsRow_weaken h1 (Nat.zero_le _), fun u hu => ?_, h3, fun u hu b hb => ?_, fun b hb => (h1.lt b hb).1, fun u hu b hb => ?_⟩⟩
  · obtain ⟨i, hi, e⟩ := List.mem_iff_getElem.1 hu
    have := (h2 i u (by rw [List.getElem?_eq_getElem hi, e])).1
    exact ⟨_, hl i (by omega), this.weaken (Nat.zero_le _)⟩
  · obtain ⟨i, hi, e⟩ := List.mem_iff_getElem.1 hu
    exact (h2 i u (by rw [List.getElem?_eq_getElem hi, e])).2 b hb
  · obtain ⟨i, hi, e⟩ := List.mem_iff_getElem.1 hu
    exact ((h2 i u (by rw [List.getElem?_eq_getElem hi, e])).1.blk b hb).1
theorem GroupAt.below {w w' : World} {lo : Nat} {v : Value} {us : List Value} (h : GroupAt w lo v us) (hb : Below w.heap.size w w') : GroupAt w' lo v us :=
  ⟨ownsRow_keptS h.outer (Kept.below hb) (fun _ _ h => h), fun u hu => by
    obtain ⟨l, a, b⟩ := h.rows u hu
    exact ⟨l, a, b.below hb⟩, h.inj, h.ne, h.lowv, h.lowu⟩
theorem GroupAt.top {w : World} {lo : Nat} {v : Value} {us : List Value} (h : GroupAt w lo v us) : ∀ b, (v.ownBlock = some b ∨ ∃ u ∈ us, u.ownBlock = some b) → lo ≤ b ∧ b < w.heap.size := by
  rintro b (e | ⟨u, hu, e⟩)
  · exact ⟨h.lowv b e, (h.outer.lt b e).2⟩
  · obtain ⟨l, _, c⟩ := h.rows u hu
    exact ⟨h.lowu u hu b e, (c.blk b e).2⟩

theorem apart3_any (w : World) (B0 B1 B2 Bm g : Nat) (v0 v1 v2 : Value) (us0 us1 us2 : List Value) (h0 : GroupAt w B0 v0 us0) (h1 : GroupAt w B1 v1 us1) (h2 : GroupAt w B2 v2 us2) (x01 : GroupNe v0 us0 v1 us1) (x02 : GroupNe v0 us0 v2 us2) (x12 : GroupNe v1 us1 v2 us2)
    (hb0 : Bm ≤ B0) (hb1 : Bm ≤ B1) (hb2 : Bm ≤ B2) (hbw : Bm ≤ w.heap.size) (hn0 : us0.length ≤ 300) (hn1 : us1.length ≤ 300) (hn2 : us2.length ≤ 300) (hg : w.heap.size = g) :
    Calls Tryz.prog 15 #[.slice (some ⟨g, 0, none⟩) 3 3] (w.alloc (.cells #[v0, v1, v2] 22)) fun e w' => e = .returned (.bool true) ∧ Below Bm w w' := by
  subst hg
  have hal := bal' w (.cells #[v0, v1, v2] 22)
  have g0 := h0.below hal
  have g1 := h1.below hal
  have g2 := h2.below hal
  have shp : ∀ {v : Value} {us : List Value} {lo : Nat}, GroupAt (w.alloc (.cells #[v0, v1, v2] 22)) lo v us → ∃ p c, v = .slice p us.length c ∧ (0 < us.length → p = some ⟨v.ownBlock.getD 0, 0, none⟩) ∧ (0 < us.length → v.ownBlock = some (v.ownBlock.getD 0)) := by
    intro v us lo h
    rcases h.outer.2 with ⟨e, hz⟩ | ⟨g, c, cur, e, _⟩
    · exact ⟨none, 0, by rw [e, hz], fun h => by omega, fun h => by omega⟩
    · exact ⟨_, c, e, fun _ => by rw [e]; rfl, fun _ => by rw [e]; rfl⟩
  have out : ∀ {v : Value} {us : List Value} {lo : Nat}, GroupAt (w.alloc (.cells #[v0, v1, v2] 22)) lo v us → 0 < us.length → ∃ C : Array Value, (w.alloc (.cells #[v0, v1, v2] 22)).heap[v.ownBlock.getD 0]? = some (.cells C 50 (0, 0)) ∧ us.length ≤ C.size ∧ ∀ i, i < us.length → C[i]? = us[i]? := by
    intro v us lo h h0
    rcases h.outer.2 with ⟨e, hz⟩ | ⟨g, c, cur, e, h2, h3, h4, h5, h6, h7⟩
    · omega
    · subst e
      refine ⟨cur, h3, by omega, fun i hi => ?_⟩
      have e : (cur.toList.take (us.length * 1))[i]? = us[i]? := by rw [h7]
      rw [List.getElem?_take, if_pos (by omega), Array.getElem?_toList] at e
      exact e
  have hall : allU (fun t => if t = 0 then us0 else if t = 1 then us1 else us2) 3 = us0 ++ us1 ++ us2 := by simp [allU]
  have three : ∀ {P : Nat → Prop}, P 0 → P 1 → P 2 → ∀ t, t < 3 → P t := by
    intro P a b c t ht
    obtain rfl | rfl | rfl : t = 0 ∨ t = 1 ∨ t = 2 := by omega
    · exact a
    · exact b
    · exact c
  have hgt : ∀ {v : Value} {us : List Value} {lo : Nat}, GroupAt w lo v us → ∀ b, (v.ownBlock = some b ∨ ∃ u ∈ us, u.ownBlock = some b) → b ≠ w.heap.size := fun h b e z => by have := (h.top b e).2; omega
  obtain ⟨p0, c0, e0, q0, o0⟩ := shp g0
  obtain ⟨p1, c1, e1, q1, o1⟩ := shp g1
  obtain ⟨p2, c2, e2, q2, o2⟩ := shp g2
  have hAp : ApIn (w.alloc (.cells #[v0, v1, v2] 22)) w.heap.size 0 3 (fun t => if t = 0 then v0 else if t = 1 then v1 else v2) (fun t => if t = 0 then us0.length else if t = 1 then us1.length else us2.length) (fun t => if t = 0 then v0.ownBlock.getD 0 else if t = 1 then v1.ownBlock.getD 0 else v2.ownBlock.getD 0) (fun t => if t = 0 then us0 else if t = 1 then us1 else us2) := by
    refine ⟨three ?_ ?_ ?_, three ⟨p0, c0, e0, q0⟩ ⟨p1, c1, e1, q1⟩ ⟨p2, c2, e2, q2⟩, three (out g0) (out g1) (out g2), three rfl rfl rfl, ?_, ?_, ?_, three ?_ ?_ ?_, ?_⟩
    · exact (World.cell?_alloc_new w _ _ 0).trans rfl
    · exact (World.cell?_alloc_new w _ _ 1).trans rfl
    · exact (World.cell?_alloc_new w _ _ 2).trans rfl
    · rw [hall]
      intro u hu
      rcases List.mem_append.1 hu with hu | hu
      · rcases List.mem_append.1 hu with hu | hu
        · exact g0.rows u hu
        · exact g1.rows u hu
      · exact g2.rows u hu
    · rw [hall]
      refine InjU.append (InjU.append h0.inj h1.inj (fun u hu z hz b e1 e2 => x01 b (.inr ⟨u, hu, e1⟩) (.inr ⟨z, hz, e2⟩))) h2.inj (fun u hu z hz b e1 e2 => ?_)
      rcases List.mem_append.1 hu with hu | hu
      · exact x02 b (.inr ⟨u, hu, e1⟩) (.inr ⟨z, hz, e2⟩)
      · exact x12 b (.inr ⟨u, hu, e1⟩) (.inr ⟨z, hz, e2⟩)
    · rw [hall]
      intro u hu b hb
      rcases List.mem_append.1 hu with hu | hu
      · rcases List.mem_append.1 hu with hu | hu
        · exact ⟨hgt h0 b (.inr ⟨u, hu, hb⟩), three (fun hp e => h0.ne u hu b hb (by rw [o0 hp]; exact congrArg some e.symm)) (fun hp e => x01 b (.inr ⟨u, hu, hb⟩) (.inl (by rw [o1 hp]; exact congrArg some e.symm))) (fun hp e => x02 b (.inr ⟨u, hu, hb⟩) (.inl (by rw [o2 hp]; exact congrArg some e.symm)))⟩
        · exact ⟨hgt h1 b (.inr ⟨u, hu, hb⟩), three (fun hp e => x01 b (.inl (by rw [o0 hp]; exact congrArg some e.symm)) (.inr ⟨u, hu, hb⟩)) (fun hp e => h1.ne u hu b hb (by rw [o1 hp]; exact congrArg some e.symm)) (fun hp e => x12 b (.inr ⟨u, hu, hb⟩) (.inl (by rw [o2 hp]; exact congrArg some e.symm)))⟩
      · exact ⟨hgt h2 b (.inr ⟨u, hu, hb⟩), three (fun hp e => x02 b (.inl (by rw [o0 hp]; exact congrArg some e.symm)) (.inr ⟨u, hu, hb⟩)) (fun hp e => x12 b (.inl (by rw [o1 hp]; exact congrArg some e.symm)) (.inr ⟨u, hu, hb⟩)) (fun hp e => h2.ne u hu b hb (by rw [o2 hp]; exact congrArg some e.symm))⟩
    · exact fun hp => hgt h0 _ (.inl (o0 hp))
    · exact fun hp => hgt h1 _ (.inl (o1 hp))
    · exact fun hp => hgt h2 _ (.inl (o2 hp))
    · intro s t hs' ht'
      have hs3 : s = 0 ∨ s = 1 ∨ s = 2 := by omega
      have ht3 : t = 0 ∨ t = 1 ∨ t = 2 := by omega
      rcases hs3 with rfl | rfl | rfl <;> rcases ht3 with rfl | rfl | rfl <;> intro hs ht e
      · rfl
      · exact absurd (.inl (by rw [o1 ht]; exact congrArg some (show v1.ownBlock.getD 0 = v0.ownBlock.getD 0 from e.symm))) (x01 _ (.inl (o0 hs)))
      · exact absurd (.inl (by rw [o2 ht]; exact congrArg some (show v2.ownBlock.getD 0 = v0.ownBlock.getD 0 from e.symm))) (x02 _ (.inl (o0 hs)))
      · exact absurd (.inl (by rw [o1 hs]; exact congrArg some (show v1.ownBlock.getD 0 = v0.ownBlock.getD 0 from e))) (x01 _ (.inl (o0 ht)))
      · rfl
      · exact absurd (.inl (by rw [o2 ht]; exact congrArg some (show v2.ownBlock.getD 0 = v1.ownBlock.getD 0 from e.symm))) (x12 _ (.inl (o1 hs)))
      · exact absurd (.inl (by rw [o2 hs]; exact congrArg some (show v2.ownBlock.getD 0 = v0.ownBlock.getD 0 from e))) (x02 _ (.inl (o0 ht)))
      · exact absurd (.inl (by rw [o2 hs]; exact congrArg some (show v2.ownBlock.getD 0 = v1.ownBlock.getD 0 from e))) (x12 _ (.inl (o1 ht)))
      · rfl
  refine (apartR_any _ w.heap.size 0 3 3 _ _ _ _ hAp (Nat.le_refl _) (three hn0 hn1 hn2) (fun m hm => ?_)).mono ?_
  · obtain rfl | rfl | rfl | rfl : m = 0 ∨ m = 1 ∨ m = 2 ∨ m = 3 := by omega
    · simp [allU]
    · simp [allU]; omega
    · simp [allU]; omega
    · simp [allU]; omega
  · rintro e w' ⟨rfl, hk⟩
    refine ⟨rfl, ?_⟩
    have hlow : ∀ b, ((∃ u ∈ allU (fun t => if t = 0 then us0 else if t = 1 then us1 else us2) 3, u.ownBlock = some b) ∨ outB 3 (fun t => if t = 0 then us0.length else if t = 1 then us1.length else us2.length) (fun t => if t = 0 then v0.ownBlock.getD 0 else if t = 1 then v1.ownBlock.getD 0 else v2.ownBlock.getD 0) b) → Bm ≤ b := by
      rintro b (⟨u, hu, e⟩ | ⟨t, ht, hp, e⟩)
      · rw [hall] at hu
        rcases List.mem_append.1 hu with hu | hu
        · rcases List.mem_append.1 hu with hu | hu
          · have := h0.lowu u hu b e; omega
          · have := h1.lowu u hu b e; omega
        · have := h2.lowu u hu b e; omega
      · obtain rfl | rfl | rfl : t = 0 ∨ t = 1 ∨ t = 2 := by omega
        · have := h0.lowv b (by rw [o0 hp]; exact congrArg some e); omega
        · have := h1.lowv b (by rw [o1 hp]; exact congrArg some e); omega
        · have := h2.lowv b (by rw [o2 hp]; exact congrArg some e); omega
    have hb1 : Below Bm w (w.alloc (.cells #[v0, v1, v2] 22)) := ⟨hal.os, hal.tape, hal.output, hal.size, fun i hi => hal.block i (by omega)⟩
    exact hb1.trans (hk.toBelow (by simp; omega) hlow)
end -- KitN

section -- LayBa
open Go.RowKit Go.Maps
set_option linter.unusedVariables false
set_option maxRecDepth 100000
set_option maxHeartbeats 4000000

theorem apart2_any (w : World) (B0 B1 Bm g : Nat) (v0 v1 : Value) (us0 us1 : List Value) (h0 : GroupAt w B0 v0 us0) (h1 : GroupAt w B1 v1 us1) (x01 : GroupNe v0 us0 v1 us1)
    (hb0 : Bm ≤ B0) (hb1 : Bm ≤ B1) (hbw : Bm ≤ w.heap.size) (hn0 : us0.length ≤ 300) (hn1 : us1.length ≤ 300) (hg : w.heap.size = g) :
    Calls Tryz.prog 15 #[.slice (some ⟨g, 0, none⟩) 2 2] (w.alloc (.cells #[v0, v1] 22)) fun e w' => e = .returned (.bool true) ∧ Below Bm w w' := by
  subst hg
  have hal := bal' w (.cells #[v0, v1] 22)
  have g0 := h0.below hal
  have g1 := h1.below hal
  have shp : ∀ {v : Value} {us : List Value} {lo : Nat}, GroupAt (w.alloc (.cells #[v0, v1] 22)) lo v us → ∃ p c, v = .slice p us.length c ∧ (0 < us.length → p = some ⟨v.ownBlock.getD 0, 0, none⟩) ∧ (0 < us.length → v.ownBlock = some (v.ownBlock.getD 0)) := by
    intro v us lo h
    rcases h.outer.2 with ⟨e, hz⟩ | ⟨g, c, cur, e, _⟩
    · exact ⟨none, 0, by rw [e, hz], fun h => by omega, fun h => by omega⟩
    · exact ⟨_, c, e, fun _ => by rw [e]; rfl, fun _ => by rw [e]; rfl⟩
  have out : ∀ {v : Value} {us : List Value} {lo : Nat}, GroupAt (w.alloc (.cells #[v0, v1] 22)) lo v us → 0 < us.length → ∃ C : Array Value, (w.alloc (.cells #[v0, v1] 22)).heap[v.ownBlock.getD 0]? = some (.cells C 50 (0, 0)) ∧ us.length ≤ C.size ∧ ∀ i, i < us.length → C[i]? = us[i]? := by
    intro v us lo h h0
    rcases h.outer.2 with ⟨e, hz⟩ | ⟨g, c, cur, e, h2, h3, h4, h5, h6, h7⟩
    · omega
    · subst e
      refine ⟨cur, h3, by omega, fun i hi => ?_⟩
      have e : (cur.toList.take (us.length * 1))[i]? = us[i]? := by rw [h7]
      rw [List.getElem?_take, if_pos (by omega), Array.getElem?_toList] at e
      exact e
  have hall : allU (fun t => if t = 0 then us0 else us1) 2 = us0 ++ us1 := by simp [allU]
  have two : ∀ {P : Nat → Prop}, P 0 → P 1 → ∀ t, t < 2 → P t := by
    intro P a b t ht
    obtain rfl | rfl : t = 0 ∨ t = 1 := by omega
    · exact a
    · exact b
  have hgt : ∀ {v : Value} {us : List Value} {lo : Nat}, GroupAt w lo v us → ∀ b, (v.ownBlock = some b ∨ ∃ u ∈ us, u.ownBlock = some b) → b ≠ w.heap.size := fun h b e z => by have := (h.top b e).2; omega
  obtain ⟨p0, c0, e0, q0, o0⟩ := shp g0
  obtain ⟨p1, c1, e1, q1, o1⟩ := shp g1
  have hAp : ApIn (w.alloc (.cells #[v0, v1] 22)) w.heap.size 0 2 (fun t => if t = 0 then v0 else v1) (fun t => if t = 0 then us0.length else us1.length) (fun t => if t = 0 then v0.ownBlock.getD 0 else v1.ownBlock.getD 0) (fun t => if t = 0 then us0 else us1) := by
    refine ⟨two ?_ ?_, two ⟨p0, c0, e0, q0⟩ ⟨p1, c1, e1, q1⟩, two (out g0) (out g1), two rfl rfl, ?_, ?_, ?_, two ?_ ?_, ?_⟩
    · exact (World.cell?_alloc_new w _ _ 0).trans rfl
    · exact (World.cell?_alloc_new w _ _ 1).trans rfl
    · rw [hall]
      intro u hu
      rcases List.mem_append.1 hu with hu | hu
      · exact g0.rows u hu
      · exact g1.rows u hu
    · rw [hall]
      exact InjU.append h0.inj h1.inj (fun u hu z hz b e1 e2 => x01 b (.inr ⟨u, hu, e1⟩) (.inr ⟨z, hz, e2⟩))
    · rw [hall]
      intro u hu b hb
      rcases List.mem_append.1 hu with hu | hu
      · exact ⟨hgt h0 b (.inr ⟨u, hu, hb⟩), two (fun hp e => h0.ne u hu b hb (by rw [o0 hp]; exact congrArg some e.symm)) (fun hp e => x01 b (.inr ⟨u, hu, hb⟩) (.inl (by rw [o1 hp]; exact congrArg some e.symm)))⟩
      · exact ⟨hgt h1 b (.inr ⟨u, hu, hb⟩), two (fun hp e => x01 b (.inl (by rw [o0 hp]; exact congrArg some e.symm)) (.inr ⟨u, hu, hb⟩)) (fun hp e => h1.ne u hu b hb (by rw [o1 hp]; exact congrArg some e.symm))⟩
    · exact fun hp => hgt h0 _ (.inl (o0 hp))
    · exact fun hp => hgt h1 _ (.inl (o1 hp))
    · intro s t hs' ht'
      have hs3 : s = 0 ∨ s = 1 := by omega
      have ht3 : t = 0 ∨ t = 1 := by omega
      rcases hs3 with rfl | rfl <;> rcases ht3 with rfl | rfl <;> intro hs ht e
      · rfl
      · exact absurd (.inl (by rw [o1 ht]; exact congrArg some (show v1.ownBlock.getD 0 = v0.ownBlock.getD 0 from e.symm))) (x01 _ (.inl (o0 hs)))
      · exact absurd (.inl (by rw [o1 hs]; exact congrArg some (show v1.ownBlock.getD 0 = v0.ownBlock.getD 0 from e))) (x01 _ (.inl (o0 ht)))
      · rfl
  refine (apartR_any _ w.heap.size 0 2 2 _ _ _ _ hAp (by omega) (two hn0 hn1) (fun m hm => ?_)).mono ?_
  · obtain rfl | rfl | rfl : m = 0 ∨ m = 1 ∨ m = 2 := by omega
    · simp [allU]
    · simp [allU]; omega
    · simp [allU]; omega
  · rintro e w' ⟨rfl, hk⟩
    refine ⟨rfl, ?_⟩
    have hlow : ∀ b, ((∃ u ∈ allU (fun t => if t = 0 then us0 else us1) 2, u.ownBlock = some b) ∨ outB 2 (fun t => if t = 0 then us0.length else us1.length) (fun t => if t = 0 then v0.ownBlock.getD 0 else v1.ownBlock.getD 0) b) → Bm ≤ b := by
      rintro b (⟨u, hu, e⟩ | ⟨t, ht, hp, e⟩)
      · rw [hall] at hu
        rcases List.mem_append.1 hu with hu | hu
        · have := h0.lowu u hu b e; omega
        · have := h1.lowu u hu b e; omega
      · obtain rfl | rfl : t = 0 ∨ t = 1 := by omega
        · have := h0.lowv b (by rw [o0 hp]; exact congrArg some e); omega
        · have := h1.lowv b (by rw [o1 hp]; exact congrArg some e); omega
    have hb1 : Below Bm w (w.alloc (.cells #[v0, v1] 22)) := ⟨hal.os, hal.tape, hal.output, hal.size, fun i hi => hal.block i (by omega)⟩
    exact hb1.trans (hk.toBelow (by simp; omega) hlow)
end -- LayBa

end Go.Proofs.YtanjchpkekehgaaGreat
