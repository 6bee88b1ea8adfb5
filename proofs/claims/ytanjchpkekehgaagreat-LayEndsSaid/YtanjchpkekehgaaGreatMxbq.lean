/-
  KitE: Rows that are lent, still as they were: KeptRows.
  OwnW: A slice of bytes in a block of its own, whose capacity is within the block: a row, or a row that is cut.
  KitH: Append that tells where the row lies; marks.
-/
import Derived.Test.YtanjchpkekehgaaGreatMxbp
import Derived.Test.YtanjchpkekehgaaGreatMxas
import Derived.Test.YtanjchpkekehgaaGreatMxaw
namespace Go.Proofs.YtanjchpkekehgaaGreat

section -- KitE
open Go.RowKit Go.Maps
set_option linter.unusedVariables false
set_option maxRecDepth 100000
set_option maxHeartbeats 2000000

/-- A slice reads as rows that are lent. -/
def LentRowsAt (w : World) (base : Nat) (v : Value) (ls : List (List B)) : Prop := ∃ p cap, v = .slice p ls.length cap ∧ (0 < ls.length → ∃ g off, p = some ⟨g, off, none⟩ ∧ ∀ i, i < ls.length → ∃ u, w.cell? ⟨g, off + i, none⟩ = some u ∧ LentAt w base u (ls.getD i []))
theorem LentRowsAt.of_owns {w : World} {base b2 : Nat} {v : Value} {ls : List (List B)} {us : List Value} (h : w.ownsRow b2 50 1 v ls.length us) (hu : ∀ i u, us[i]? = some u → LentAt w base u (ls.getD i [])) : LentRowsAt w base v ls := by
  obtain ⟨h0, h1⟩ := h
  rcases h1 with ⟨rfl, hz⟩ | ⟨g, cap, cur, rfl, h2, h3, h4, h5, h6, h7⟩
  · exact ⟨none, 0, by rw [hz], fun hl => by omega⟩
  · refine ⟨_, cap, rfl, fun _ => ⟨g, 0, rfl, fun i hi => ?_⟩⟩
    have hi' : i < us.length := by omega
    refine ⟨us[i], ?_, hu i _ (List.getElem?_eq_getElem hi')⟩
    have : us[i]? = some us[i] := List.getElem?_eq_getElem hi'
    conv at this => lhs; rw [← h7]
    rw [List.getElem?_take, if_pos (by omega), Array.getElem?_toList] at this
    simp [World.cell?, h3, this]
theorem RowsLent.at' {w : World} {base : Nat} {v : Value} {ls : List (List B)} (h : RowsLent w base v ls) : LentRowsAt w base v ls := by
  obtain ⟨us, h1, h2, h3⟩ := h
  exact LentRowsAt.of_owns h1 (fun i u hi => (h2 i u hi).1)

theorem keptR_any (w : World) (va vb : Value) (ls : List (List B)) (base : Nat) (ha : LentRowsAt w base va ls) (hb : RowsAt w vb ls) (hl : ls.length ≤ 1000000) (hw : ∀ i, i < ls.length → (ls.getD i []).length ≤ 1000000) :
    Calls Tryz.prog 13 #[va, vb] w fun e w' => e = .returned (.bool true) ∧ ∃ q, w' = w.drewN q := by
  obtain ⟨pa, ca, rfl, hha⟩ := ha
  obtain ⟨pb, cb, rfl, hhb⟩ := hb
  have HA := Lib.hid hha
  have HB := Lib.hid hhb
  have HW := Lib.hid hw
  obtain ⟨n, hn⟩ : ∃ n, ls.length = n := ⟨_, rfl⟩
  rw [hn] at HA HB HW hl ⊢
  clear hha hhb hw hn
  go_enter Tryz.func13, Tryz.ntmps13
  go_wp2
  go_loopw [5] (fun i wr => ∃ (k q : Nat), k ≤ n ∧ i = .int .i64 (k : Int) ∧ wr = w.drewN q) (fun i _ => n - (intOf i).toNat)
  case atStart => exact ⟨0, 0, by omega, rfl, rfl⟩
  case round =>
    obtain ⟨k, q, hk, rfl, rfl⟩ := hrel
    by_cases hlt : k < n
    · obtain ⟨ga, oa, rfl, hca⟩ := HA.out (by omega)
      obtain ⟨gb, ob, rfl, hcb⟩ := HB.out (by omega)
      obtain ⟨ua, x, xa⟩ := hca k hlt
      obtain ⟨ub, y, yb⟩ := hcb k hlt
      have XA := Lib.hid xa
      have YB := Lib.hid yb
      have HWK := Lib.hid (HW.out k hlt)
      clear hca hcb xa yb
      go_wp2_with fail
      go_quiet ((go_at_call 34; exact q_add (keptB_any _ ua ub (ls.getD k []) base (by exact XA.out) (by exact YB.out) HWK.out)))
      go_wp2
      go_roundw
      case rel => exact ⟨k + 1, _, by omega, by go_num, by first | rfl | rw [World.drewN_drewN]⟩
      case measure => simp [intOf]; omega
    · obtain rfl : k = n := by omega
      go_wp2
      go_ret
      exact ⟨rfl, q, rfl⟩
end -- KitE

section -- OwnW
open Go.RowKit Go.Maps
set_option linter.unusedVariables false
set_option maxRecDepth 100000
set_option maxHeartbeats 2000000

/-- A slice of bytes at the begin of a block, with its spare room in the block. -/
def OwnW (w : World) (base : Nat) (v : Value) (l : List B) : Prop := (v = .slice none 0 0 ∧ l = []) ∨ ∃ (g c : Nat) (C : Array Value), v = .slice (some ⟨g, 0, none⟩) l.length c ∧ base ≤ g ∧ w.heap[g]? = some (.cells C 5 (0, 0)) ∧ l.length ≤ c ∧ c ≤ maxLen ∧ c ≤ C.size ∧ ∀ i, i < l.length → C[i]? = some (bv (l.getD i 0))

section
variable {w w' : World} {base : Nat} {v : Value} {l : List B}
theorem OwnW.rowW {g c : Nat} (h : OwnW w base (.slice (some ⟨g, 0, none⟩) l.length c) l) : base ≤ g ∧ l.length ≤ c ∧ c ≤ maxLen ∧ RowW w g l := by
  rcases h with ⟨h, _⟩ | ⟨g', c', C, e, h1, h2, h3, h4, h5, h6⟩
  · cases h
  · simp only [Value.slice.injEq, Option.some.injEq, Addr.mk.injEq, true_and, and_true] at e
    obtain ⟨rfl, rfl⟩ := e
    exact ⟨h1, h3, h4, C, h2, by omega, h6⟩
theorem Own.wide (h : Own w base v l) : OwnW w base v l := by
  obtain ⟨h0, h1⟩ := h
  rcases h1 with ⟨e, hz⟩ | ⟨g, cap, cur, e, h2, h3, h4, h5, h6, h7⟩
  · exact .inl ⟨e, List.eq_nil_of_length_eq_zero hz⟩
  · refine .inr ⟨g, cap, cur, e, h2, h3, h4, h5, by omega, fun i hi => ?_⟩
    have := map_getD_bv hi
    rw [← h7, List.getElem?_take, if_pos (by omega), Array.getElem?_toList] at this
    exact this
theorem CutAt.wide (h : CutAt w base v l) (hl : l.length ≤ maxLen) : OwnW w base v l := by
  obtain ⟨g, e, h1, h2, C, h3, h4, h5⟩ := h
  exact .inr ⟨g, l.length, C, e, h1, h3, Nat.le_refl _, hl, h4, h5⟩
theorem OwnL.wide (h : OwnL w base v l) (hl : l.length ≤ maxLen) : OwnW w base v l := by
  rcases h with h | h
  · exact h.wide
  · exact h.wide hl
theorem OwnW.bytes (h : OwnW w base v l) : BytesAt w v l := by
  rcases h with ⟨rfl, rfl⟩ | ⟨g, c, C, rfl, h1, h2, h3, h4, h5, h6⟩
  · exact ⟨none, 0, rfl, fun h => absurd h (by simp)⟩
  · exact (show RowW w g l from ⟨C, h2, by omega, h6⟩).toBytes _
theorem OwnW.kept {S : Nat → Prop} (h : OwnW w base v l) (hk : Kept S w w') (hS : ∀ b, v.ownBlock = some b → ¬ S b) : OwnW w' base v l := by
  rcases h with h | ⟨g, c, C, rfl, h1, h2, h3⟩
  · exact .inl h
  · exact .inr ⟨g, c, C, rfl, h1, (hk.block g (Array.getElem?_eq_some_iff.1 h2).1 (hS g rfl)).trans h2, h3⟩
theorem OwnW.below (h : OwnW w base v l) (hb : Below w.heap.size w w') : OwnW w' base v l := h.kept (Kept.below hb) (fun _ _ h => h)
theorem OwnW.blk (h : OwnW w base v l) : ∀ b, v.ownBlock = some b → base ≤ b ∧ b < w.heap.size := by
  rcases h with ⟨rfl, _⟩ | ⟨g, c, C, rfl, h1, h2, h3⟩
  · intro b hb; cases hb
  · intro b hb
    have := own_is hb
    subst this
    exact ⟨h1, (Array.getElem?_eq_some_iff.1 h2).1⟩
theorem OwnW.weaken {base' : Nat} (h : OwnW w base v l) (hb : base' ≤ base) : OwnW w base' v l := by
  rcases h with h | ⟨g, c, C, rfl, h1, h3⟩
  · exact .inl h
  · exact .inr ⟨g, c, C, rfl, by omega, h3⟩
theorem OwnW.nil (w : World) (base : Nat) : OwnW w base (.slice none 0 0) [] := .inl ⟨rfl, rfl⟩
theorem OwnW.shape (h : OwnW w base v l) : ∃ p c, v = .slice p l.length c := h.bytes.shape
theorem OwnW.row (h : OwnW w base v l) (hl : 0 < l.length) : ∃ g c, v = .slice (some ⟨g, 0, none⟩) l.length c ∧ base ≤ g ∧ RowW w g l := by
  rcases h with ⟨_, rfl⟩ | ⟨g, c, C, rfl, h1, h2, h3, h4, h5, h6⟩
  · simp at hl
  · exact ⟨g, c, rfl, h1, C, h2, by omega, h6⟩
theorem OwnW.alloc (h : OwnW w base v l) (x : Obj) : OwnW (w.alloc x) base v l := h.kept (Kept.alloc (fun _ => False) w x) (fun _ _ h => h)
theorem OwnW.set (h : OwnW w base v l) {i : Nat} (hi : i < l.length) {g c : Nat} (e : v = .slice (some ⟨g, 0, none⟩) l.length c) (x : B) : OwnW (w.setCell ⟨g, i, none⟩ (bv x)) base v (l.set i x) := by
  subst e
  rcases h with ⟨h, _⟩ | ⟨g', c', C, e, h1, h2, h3, h4, h5, h6⟩
  · cases h
  · simp only [Value.slice.injEq, Option.some.injEq, Addr.mk.injEq, true_and, and_true] at e
    obtain ⟨rfl, rfl⟩ := e
    refine .inr ⟨g, c, C.setIfInBounds i (bv x), by rw [List.length_set], h1, heap_set h2 _, by rw [List.length_set]; exact h3, h4, by simpa using h5, fun j hj => ?_⟩
    rw [List.length_set] at hj
    rw [Array.getElem?_setIfInBounds]
    by_cases e : i = j
    · subst e
      rw [if_pos rfl, if_pos (by omega), List.getD_eq_getElem?_getD, List.getElem?_set_self hi]; rfl
    · rw [if_neg e, h6 j hj, List.getD_eq_getElem?_getD, List.getD_eq_getElem?_getD, List.getElem?_set_ne e]
end
end -- OwnW

section -- KitH
open Go.RowKit Go.Maps
set_option linter.unusedVariables false
set_option maxRecDepth 100000
set_option maxHeartbeats 2000000

/-- What an append of bytes makes: in its place, with its capacity; or in a new block, and no old one turns. -/
theorem run_app_w {P : Program} {w : World} (t ty e : TypeId) (i : TypeInfo) (z : Value) (ht : P.underlying t = some (.slice e)) (hi : P.info? e = some i) (hz : i.zero = some z) (hzs : z.cells.size = 1) (hsize : i.size = 1) (hbt : i.bytes = 1) (he : e = 5)
    (v : Value) (l1 l2 : List B) (hown : OwnW w 0 v l1) (g off c : Nat) (hm : 0 < l2.length) (hnews : ∀ j u, (l2.map bv)[j]? = some u → w.cell? ((⟨g, off, none⟩ : Addr).add j) = some u)
    (hb : l1.length + l2.length < 1000000000000) :
    ∃ g' c' w', (Builtin.append_ #[t, t] ty #[v, .slice (some ⟨g, off, none⟩) l2.length c]).run P w = .ok (.slice (some ⟨g', 0, none⟩) (l1.length + l2.length) c') w' ∧ OwnW w' 0 (.slice (some ⟨g', 0, none⟩) (l1.length + l2.length) c') (l1 ++ l2) ∧
      ((v = .slice (some ⟨g', 0, none⟩) l1.length c' ∧ Kept (fun k => k = g') w w') ∨ (Kept (fun _ => False) w w' ∧ w.heap.size ≤ g')) := by
  subst he
  have h1 : ∀ u ∈ l2.map bv, u.oneCell' = true := fun v hv => by obtain ⟨x, _, rfl⟩ := List.mem_map.1 hv; rfl
  have hl : (l2.map bv).length = l2.length * i.size := by rw [hsize]; simp
  have hlen : (l1.map bv ++ l2.map bv).length = (l1.length + l2.length) := by simp
  have fresh : ∀ (old : Nat), OwnW (w.drew.alloc (.cells ((l1.map bv).toArray ++ (l2.map bv).toArray ++ Builtin.zeroCells z.cells (grownCap w (l1.length + l2.length) old 5 - (l1.length + l2.length))) 5)) 0
        (.slice (some ⟨w.heap.size, 0, none⟩) (l1.length + l2.length) (grownCap w (l1.length + l2.length) old 5)) (l1 ++ l2) := by
    intro old
    have hge := grownCap_ge w (l1.length + l2.length) old 5
    refine .inr ⟨w.heap.size, _, _, by rw [List.length_append], Nat.zero_le _, heap_alloc_new w.drew _, by rw [List.length_append]; exact hge, grownCap_le_maxLen w (l1.length + l2.length) old 5 (by unfold maxLen; omega), ?_, fun k hk => ?_⟩
    · simp only [Array.size_append, List.size_toArray, size_zeroCells, hzs, List.length_map, Nat.mul_one]
      omega
    · have := map_getD_bv hk
      rw [← this, List.map_append, Array.getElem?_append, if_pos (by simpa using hk), List.append_toArray, List.getElem?_toArray]
  have keep : ∀ o, Kept (fun _ => False) w (w.drew.alloc o) := fun o => ⟨rfl, rfl, rfl, by simp, fun k hk _ => Below.heap_alloc w.drew _ k hk⟩
  rcases hown with ⟨rfl, rfl⟩ | ⟨g0, cap, cur, rfl, hbg, hg, hnc, hcm, hcs, hget⟩
  · have hr := run_append_nil (P := P) w t ty 5 i z ht hi hz ⟨g, off, none⟩ l2.length c (l2.map bv) hl hnews hm (by simp at hb; omega) (by rw [hbt]; simp at hb; omega)
    have hf := fresh 0
    simp only [List.length_nil, Nat.zero_add, List.nil_append, List.map_nil, Array.empty_append] at hf ⊢
    exact ⟨_, _, _, hr, hf, .inr ⟨keep _, Nat.le_refl _⟩⟩
  · by_cases hroom : l1.length + l2.length ≤ cap
    · have hfit : l1.length * i.size + (l2.map bv).length ≤ cur.size := by rw [hsize]; simp; omega
      refine ⟨_, _, _, run_append_room (P := P) w t ty 5 i ht hi g0 l1.length cap cur hg ⟨g, off, none⟩ l2.length c (l2.map bv) hl hnews h1 hroom hfit, .inr ⟨g0, cap, _, by rw [List.length_append], hbg, setRow_heap w g0 cur _ 5 _ hg, by rw [List.length_append]; exact hroom, hcm, ?_, fun k hk => ?_⟩,
        .inl ⟨rfl, ⟨rfl, rfl, rfl, by simp, fun k _ hk => setRow_other w g0 k _ hk⟩⟩⟩
      · simp only [List.size_toArray, List.length_append, List.length_take, List.length_drop, Array.length_toList, List.length_map, hsize]
        omega
      · have h2 := map_getD_bv hk
        rw [← h2, List.getElem?_toArray, hsize, Nat.mul_one, List.map_append]
        have h3 : cur.toList.take l1.length = l1.map bv := by
          apply List.ext_getElem?
          intro j
          by_cases hj : j < l1.length
          · rw [List.getElem?_take, if_pos hj, Array.getElem?_toList, hget j hj, map_getD_bv hj]
          · rw [List.getElem?_eq_none (by simp; omega), List.getElem?_eq_none (by simp; omega)]
        rw [h3, List.getElem?_append_left (by simpa using hk)]
    · have holds : ∀ j u, (l1.map bv)[j]? = some u → w.cell? ((⟨g0, 0, none⟩ : Addr).add j) = some u := fun j u hj => by
        have hjl : j < l1.length := by
          have := (List.getElem?_eq_some_iff.1 hj).1
          simpa using this
        rw [map_getD_bv hjl] at hj
        rw [add_zero_off, cell_of hg, hget j hjl, hj]
      exact ⟨_, _, _, run_append_grow (P := P) w t ty 5 i z ht hi hz ⟨g0, 0, none⟩ l1.length cap (l1.map bv) (by rw [hsize]; simp) holds ⟨g, off, none⟩ l2.length c (l2.map bv) hl hnews (by omega) (by omega) (growslice_fits (by omega) (by rw [hbt]; omega)), fresh cap, .inr ⟨keep _, Nat.le_refl _⟩⟩

/-- Append of bytes: it is told where the row lies. -/
theorem app_own2 {ops : Array Oper} {rest : List Oper} {o : Oper} {a : Act} {Q : Exit → Act → World → Prop} {W : World}
    (hgd : o.guard = none) (s x : Operand) (ho : o.op = .call { callee := .builtin .append, args := #[s, x], argTypes := #[50, 50] })
    (n m : Nat) (v : Value) (l1 l2 : List B) (hn : l1.length = n) (hm : l2.length = m) (hown : OwnW W 0 v l1) (g off c : Nat) (hm0 : 0 < m) (hc : ∀ i, i < m → W.cell? ⟨g, off + i, none⟩ = some (bv (l2.getD i 0)))
    (hs : a.eval s = v) (hx : a.eval x = .slice (some ⟨g, off, none⟩) m c) (hnm : n + m < 1000000000000)
    (h : ∀ g' c' w', OwnW w' 0 (.slice (some ⟨g', 0, none⟩) (n + m) c') (l1 ++ l2) → ((v = .slice (some ⟨g', 0, none⟩) n c' ∧ Kept (fun k => k = g') W w') ∨ (Kept (fun _ => False) W w' ∧ W.heap.size ≤ g')) →
      wpList Tryz.prog ops Q rest (a.put o.dst (.slice (some ⟨g', 0, none⟩) (n + m) c')) w') : wpList Tryz.prog ops Q (o :: rest) a W := by
  obtain ⟨i, hi, hz, hsize, hbytes⟩ := info_parts infoB
  subst hn
  subst hm
  obtain ⟨g', c', w', hr, h2, h3⟩ := run_app_w (P := Tryz.prog) (w := W) 50 o.type 5 i (.int .u8 0) Tryz.underlying50 hi hz rfl hsize hbytes rfl v l1 l2 hown g off c hm0 (fun j u hj => by
      have hjm : j < l2.length := by
        have := (List.getElem?_eq_some_iff.1 hj).1
        simpa using this
      rw [add_off, hc j (by omega)]
      rw [map_getD_bv hjm] at hj
      exact hj) hnm
  have h2' := h2
  refine wpList_plain hgd fun K hK => ?_
  have h5 := h g' c' w' h2' h3
  unfold Oper.wp execOp
  simp only [ho, resolve, invoke, builtin, Sem.run_bind, Sem.run_pure, Result.andThen_ok, List.map_toArray, List.map_cons, List.map_nil, hs, hx, hr]
  exact hK _ _ h5

/-- The begin of a row that is owned. -/
theorem OwnW.begin {w : World} {base g n m c : Nat} {l1 l2 : List B} (h : OwnW w base (.slice (some ⟨g, 0, none⟩) (n + m) c) (l1 ++ l2)) (hn : l1.length = n) (hm : l2.length = m) : OwnW w base (.slice (some ⟨g, 0, none⟩) n c) l1 := by
  subst hn
  subst hm
  rcases h with ⟨q, _⟩ | ⟨g', cap, C, e, h2, h3, h4, h5, h6, h7⟩
  · cases q
  · simp only [Value.slice.injEq, Option.some.injEq, Addr.mk.injEq, and_true] at e
    obtain ⟨rfl, _, rfl⟩ := e
    rw [List.length_append] at h4 h7
    refine .inr ⟨g, c, C, rfl, h2, h3, by omega, h5, h6, fun i hi => ?_⟩
    rw [h7 i (by omega), List.getD_eq_getElem?_getD, List.getD_eq_getElem?_getD, List.getElem?_append_left hi]

theorem rowL_nil (n : Nat) : rowL n (fun _ => (0 : B)) = List.replicate n 0 := by apply List.ext_getElem <;> simp [rowL]
theorem rowL_succ (n : Nat) (f : Nat → B) : rowL (n + 1) f = rowL n f ++ [f n] := by simp [rowL, List.range_succ]
theorem rowL_add (n m : Nat) (f : Nat → B) : rowL (n + m) f = rowL n f ++ rowL m (fun i => f (n + i)) := by
  simp [rowL, List.range_add]
/-- A byte is written into a row that is worked out. -/
theorem OwnW.prog {w : World} {base : Nat} {v : Value} {n t : Nat} {f h : Nat → B} (ho : OwnW w base v (progL n f h t)) (ht : t < n) {g c : Nat} (e : v = .slice (some ⟨g, 0, none⟩) n c) : OwnW (w.setCell ⟨g, t, none⟩ (bv (f t))) base v (progL n f h (t + 1)) := by
  have := ho.set (i := t) (by rw [progL_len]; exact ht) (g := g) (c := c) (by rw [progL_len]; exact e) (f t)
  rwa [progL_set _ _ ht] at this
theorem OwnW.dr {w : World} {base : Nat} {v : Value} {l : List B} (h : OwnW w base v l) (q : Nat) : OwnW (w.drewN q) base v l := h

/-- Where a slice that owns its block lies. -/
theorem OwnW.slot {w : World} {base : Nat} {v : Value} {l : List B} (h : OwnW w base v l) : (v = .slice none 0 0 ∧ l = []) ∨ ∃ g c, v = .slice (some ⟨g, 0, none⟩) l.length c := by
  rcases h with h | ⟨g, c, C, e, _⟩
  · exact .inl h
  · exact .inr ⟨g, c, e⟩
/-- A slice that grew out of another: in its place, or in a new block. -/
def Grew (V : Value) (n N : Nat) (g : Value) (t : Nat) : Prop := (∃ g0 c0, V = .slice (some ⟨g0, 0, none⟩) n c0 ∧ g = .slice (some ⟨g0, 0, none⟩) (n + t) c0) ∨ (∀ b, g.ownBlock = some b → N ≤ b)
theorem Grew.start {w : World} {V : Value} {l : List B} {n N : Nat} (h : OwnW w 0 V l) (hn : l.length = n) : Grew V n N V 0 := by
  rcases h.slot with ⟨rfl, _⟩ | ⟨g, c, rfl⟩
  · exact .inr (fun b hb => by cases hb)
  · exact .inl ⟨g, c, by rw [hn], by rw [hn]; rfl⟩
theorem Grew.blk {V g : Value} {n N t : Nat} (h : Grew V n N g t) : ∀ b, g.ownBlock = some b → V.ownBlock = some b ∨ N ≤ b := by
  rcases h with ⟨g0, c0, rfl, rfl⟩ | h
  · exact fun b hb => .inl (by rw [← hb]; rfl)
  · exact fun b hb => .inr (h b hb)
theorem Grew.step {W w6 : World} {V g : Value} {n N t m : Nat} {l0 l1 l2 : List B} {g' c' : Nat} (h : Grew V n N g t) (hl0 : l0.length = n) (hl1 : l1.length = t) (hl2 : l2.length = m) (hV : OwnW W 0 V l0) (hVb : ∀ b, V.ownBlock = some b → b < N) (hN : N ≤ W.heap.size)
    (hO : OwnW w6 0 (.slice (some ⟨g', 0, none⟩) (n + t + m) c') (l0 ++ l1 ++ l2)) (hor : (g = .slice (some ⟨g', 0, none⟩) (n + t) c' ∧ Kept (fun k => k = g') W w6) ∨ (Kept (fun _ => False) W w6 ∧ W.heap.size ≤ g')) :
    OwnW w6 0 V l0 ∧ Grew V n N (.slice (some ⟨g', 0, none⟩) (n + t + m) c') (t + m) ∧ Kept (fun b => V.ownBlock = some b ∨ N ≤ b) W w6 := by
  rcases hor with ⟨e, hk⟩ | ⟨hk, hg⟩
  · subst e
    rcases h with ⟨g0, c0, rfl, e2⟩ | h
    · simp only [Value.slice.injEq, Option.some.injEq, Addr.mk.injEq, true_and, and_true] at e2
      obtain ⟨rfl, rfl⟩ := e2
      rw [Nat.add_assoc, List.append_assoc] at hO
      exact ⟨hO.begin hl0 (by rw [List.length_append, hl1, hl2]), .inl ⟨g', c', rfl, by rw [Nat.add_assoc]⟩, hk.mono (fun b _ e => .inl (by rw [e]; rfl))⟩
    · have hg := h g' rfl
      exact ⟨hV.kept hk (fun b hb e => by have := hVb b hb; omega), .inr (fun b hb => by have e : g' = b := own_is hb; omega), hk.mono (fun b _ e => .inr (by omega))⟩
  · exact ⟨hV.kept hk (fun _ _ h => h), .inr (fun b hb => by have e : g' = b := own_is hb; omega), hk.mono (fun _ _ h => h.elim)⟩
end -- KitH

end Go.Proofs.YtanjchpkekehgaaGreat
