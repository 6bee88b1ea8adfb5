/-
  KitH: Append that tells where the row lies; marks.
  KitG: Walks of the kit: the flats of nothing.
-/
import Derived.Test.YtanjchpkekehgaaGreatMxba
namespace Go.Proofs.YtanjchpkekehgaaGreat

section -- KitH
open Go.RowKit Go.Maps
set_option linter.unusedVariables false
set_option maxRecDepth 100000
set_option maxHeartbeats 2000000

/-- What an append makes: in its place, with its capacity; or in a new block, and no old one turns. -/
theorem run_app_or {P : Program} {w : World} (base : Nat) (t ty e : TypeId) (i : TypeInfo) (z : Value) (ht : P.underlying t = some (.slice e)) (hi : P.info? e = some i) (hz : i.zero = some z) (hzs : z.cells.size = i.size)
    (v : Value) (n : Nat) (us : List Value) (hown : w.ownsRow base e i.size v n us) (g off : Nat) (m c : Nat) (news : List Value) (hl : news.length = m * i.size) (hm : 0 < m) (hnews : ∀ j u, news[j]? = some u → w.cell? ((⟨g, off, none⟩ : Addr).add j) = some u)
    (h1 : ∀ u ∈ news, u.oneCell' = true) (h63 : n + m ≤ 9223372036854775807) (hbytes : (n + m) * i.bytes ≤ 140737488355328) (hbase : base ≤ w.heap.size) :
    ∃ g' c' w', (Builtin.append_ #[t, t] ty #[v, .slice (some ⟨g, off, none⟩) m c]).run P w = .ok (.slice (some ⟨g', 0, none⟩) (n + m) c') w' ∧ w'.ownsRow base e i.size (.slice (some ⟨g', 0, none⟩) (n + m) c') (n + m) (us ++ news) ∧
      ((v = .slice (some ⟨g', 0, none⟩) n c' ∧ Kept (fun k => k = g') w w') ∨ (Kept (fun _ => False) w w' ∧ w.heap.size ≤ g')) := by
  have hlen : (us ++ news).length = (n + m) * i.size := by rw [List.length_append, hown.1, hl, Nat.add_mul]
  have fresh : ∀ (old : Nat), (w.drew.alloc (.cells (us.toArray ++ news.toArray ++ Builtin.zeroCells z.cells (grownCap w (n + m) old e - (n + m))) e)).ownsRow base e i.size
        (.slice (some ⟨w.heap.size, 0, none⟩) (n + m) (grownCap w (n + m) old e)) (n + m) (us ++ news) := by
    intro old
    have hge := grownCap_ge w (n + m) old e
    refine ⟨hlen, .inr ⟨w.heap.size, _, _, rfl, hbase, heap_alloc_new w.drew _, hge, grownCap_le_maxLen w (n + m) old e (by unfold maxLen; omega), ?_, ?_⟩⟩
    · simp only [Array.size_append, List.size_toArray, size_zeroCells, hzs, hown.1, hl, ← Nat.add_mul]
      congr 1
      omega
    · simp only [Array.toList_append, List.append_assoc]
      rw [← List.append_assoc, ← hlen]
      exact List.take_left
  have keep : ∀ o, Kept (fun _ => False) w (w.drew.alloc o) := fun o => ⟨rfl, rfl, rfl, by simp, fun k hk _ => Below.heap_alloc w.drew _ k hk⟩
  rcases hown.2 with ⟨rfl, rfl⟩ | ⟨g0, cap, cur, rfl, hbg, hg, hnc, hcm, hcs, htake⟩
  · have hx : us = [] := List.eq_nil_of_length_eq_zero (by simpa using hown.1)
    subst hx
    have hr := run_append_nil (P := P) w t ty e i z ht hi hz ⟨g, off, none⟩ m c news hl hnews hm (by omega) (by have hb := hbytes; simp only [Nat.zero_add] at hb; omega)
    have hf := fresh 0
    simp only [Nat.zero_add, List.nil_append, Array.empty_append] at hf ⊢
    exact ⟨_, _, _, hr, hf, .inr ⟨keep _, Nat.le_refl _⟩⟩
  · by_cases hroom : n + m ≤ cap
    · have hfit : n * i.size + news.length ≤ cur.size := by rw [hl, hcs, ← Nat.add_mul]; exact Nat.mul_le_mul_right _ hroom
      refine ⟨_, _, _, run_append_room (P := P) w t ty e i ht hi g0 n cap cur hg ⟨g, off, none⟩ m c news hl hnews h1 hroom hfit, ⟨hlen, .inr ⟨g0, cap, _, rfl, hbg, setRow_heap w g0 cur _ e _ hg, hroom, hcm, ?_, ?_⟩⟩,
        .inl ⟨rfl, ⟨rfl, rfl, rfl, by simp, fun k _ hk => setRow_other w g0 k _ hk⟩⟩⟩
      · simp only [List.size_toArray, List.length_append, List.length_take, List.length_drop, Array.length_toList]
        omega
      · rw [htake, ← hlen]
        exact List.take_left
    · have holds : ∀ j u, us[j]? = some u → w.cell? ((⟨g0, 0, none⟩ : Addr).add j) = some u := hown.cells (g := g0) rfl
      exact ⟨_, _, _, run_append_grow (P := P) w t ty e i z ht hi hz ⟨g0, 0, none⟩ n cap us hown.1 holds ⟨g, off, none⟩ m c news hl hnews (by omega) (by omega) (growslice_fits (by omega) hbytes), fresh cap, .inr ⟨keep _, Nat.le_refl _⟩⟩

/-- Append of bytes: it is told where the row lies. -/
theorem app_own2 {ops : Array Oper} {rest : List Oper} {o : Oper} {a : Act} {Q : Exit → Act → World → Prop} {W : World}
    (hgd : o.guard = none) (s x : Operand) (ho : o.op = .call { callee := .builtin .append, args := #[s, x], argTypes := #[50, 50] })
    (n m : Nat) (v : Value) (l1 l2 : List B) (hn : l1.length = n) (hm : l2.length = m) (hown : Own W 0 v l1) (g off c : Nat) (hm0 : 0 < m) (hc : ∀ i, i < m → W.cell? ⟨g, off + i, none⟩ = some (bv (l2.getD i 0)))
    (hs : a.eval s = v) (hx : a.eval x = .slice (some ⟨g, off, none⟩) m c) (hnm : n + m < 1000000000000)
    (h : ∀ g' c' w', Own w' 0 (.slice (some ⟨g', 0, none⟩) (n + m) c') (l1 ++ l2) → ((v = .slice (some ⟨g', 0, none⟩) n c' ∧ Kept (fun k => k = g') W w') ∨ (Kept (fun _ => False) W w' ∧ W.heap.size ≤ g')) →
      wpList Tryz.prog ops Q rest (a.put o.dst (.slice (some ⟨g', 0, none⟩) (n + m) c')) w') : wpList Tryz.prog ops Q (o :: rest) a W := by
  obtain ⟨i, hi, hz, hsize, hbytes⟩ := info_parts infoB
  have hown' : W.ownsRow 0 5 i.size v n (l1.map bv) := by rw [hsize, ← hn]; exact hown
  obtain ⟨g', c', w', hr, h2, h3⟩ := run_app_or (P := Tryz.prog) (w := W) 0 50 o.type 5 i (.int .u8 0) Tryz.underlying50 hi hz (by rw [hsize]; rfl) v n (l1.map bv) hown' g off m c (l2.map bv) (by simp [hsize, hm]) hm0 (fun j u hj => by
      have hjm : j < l2.length := by
        have := (List.getElem?_eq_some_iff.1 hj).1
        simpa using this
      rw [add_off, hc j (by omega)]
      rw [map_getD_bv hjm] at hj
      exact hj) (fun v hv => by obtain ⟨x, _, rfl⟩ := List.mem_map.1 hv; rfl) (by omega) (by rw [hbytes]; omega) (by omega)
  rw [hsize, ← List.map_append] at h2
  have h2' : Own w' 0 (.slice (some ⟨g', 0, none⟩) (n + m) c') (l1 ++ l2) := by unfold Own; rw [List.length_append, hn, hm]; exact h2
  refine wpList_plain hgd fun K hK => ?_
  have h5 := h g' c' w' h2' h3
  unfold Oper.wp execOp
  simp only [ho, resolve, invoke, builtin, Sem.run_bind, Sem.run_pure, Result.andThen_ok, List.map_toArray, List.map_cons, List.map_nil, hs, hx, hr]
  exact hK _ _ h5

/-- The begin of a row that is owned. -/
theorem Own.begin {w : World} {base g n m c : Nat} {l1 l2 : List B} (h : Own w base (.slice (some ⟨g, 0, none⟩) (n + m) c) (l1 ++ l2)) (hn : l1.length = n) (hm : l2.length = m) : Own w base (.slice (some ⟨g, 0, none⟩) n c) l1 := by
  subst hn
  subst hm
  unfold Own at h ⊢
  rw [List.length_append] at h
  obtain ⟨h0, h1⟩ := h
  refine ⟨by simp, ?_⟩
  rcases h1 with ⟨q, _⟩ | ⟨g', cap, cur, e, h2, h3, h4, h5, h6, h7⟩
  · cases q
  · simp only [Value.slice.injEq, Option.some.injEq, Addr.mk.injEq, true_and] at e
    obtain ⟨⟨rfl, _⟩, rfl⟩ := e
    refine .inr ⟨g, c, cur, rfl, h2, h3, by omega, h5, h6, ?_⟩
    rw [Nat.mul_one] at h7 ⊢
    have := congrArg (List.take l1.length) h7
    rw [List.take_take, Nat.min_eq_left (by omega)] at this
    rw [this, List.map_append, List.take_append_of_le_length (by simp), List.take_of_length_le (by simp)]

theorem rowL_nil (n : Nat) : rowL n (fun _ => (0 : B)) = List.replicate n 0 := by apply List.ext_getElem <;> simp [rowL]
theorem rowL_succ (n : Nat) (f : Nat → B) : rowL (n + 1) f = rowL n f ++ [f n] := by simp [rowL, List.range_succ]
theorem rowL_add (n m : Nat) (f : Nat → B) : rowL (n + m) f = rowL n f ++ rowL m (fun i => f (n + i)) := by
  simp [rowL, List.range_add]
/-- A byte is written into a row that is worked out. -/
theorem Own.prog {w : World} {base : Nat} {v : Value} {n t : Nat} {f h : Nat → B} (ho : Own w base v (progL n f h t)) (ht : t < n) {g c : Nat} (e : v = .slice (some ⟨g, 0, none⟩) n c) : Own (w.setCell ⟨g, t, none⟩ (bv (f t))) base v (progL n f h (t + 1)) := by
  have := ho.set (i := t) (by rw [progL_len]; exact ht) (g := g) (c := c) (by rw [progL_len]; exact e) (f t)
  rwa [progL_set _ _ ht] at this
theorem Own.dr {w : World} {base : Nat} {v : Value} {l : List B} (h : Own w base v l) (q : Nat) : Own (w.drewN q) base v l := h

/-- Where a slice that owns its block lies. -/
theorem Own.slot {w : World} {base : Nat} {v : Value} {l : List B} (h : Own w base v l) : (v = .slice none 0 0 ∧ l = []) ∨ ∃ g c, v = .slice (some ⟨g, 0, none⟩) l.length c := by
  obtain ⟨h0, h1⟩ := h
  rcases h1 with ⟨e, hz⟩ | ⟨g, cap, cur, e, _⟩
  · exact .inl ⟨e, List.eq_nil_of_length_eq_zero hz⟩
  · exact .inr ⟨g, cap, e⟩
/-- A slice that grew out of another: in its place, or in a new block. -/
def Grew (V : Value) (n N : Nat) (g : Value) (t : Nat) : Prop := (∃ g0 c0, V = .slice (some ⟨g0, 0, none⟩) n c0 ∧ g = .slice (some ⟨g0, 0, none⟩) (n + t) c0) ∨ (∀ b, g.ownBlock = some b → N ≤ b)
theorem Grew.start {w : World} {V : Value} {l : List B} {n N : Nat} (h : Own w 0 V l) (hn : l.length = n) : Grew V n N V 0 := by
  rcases h.slot with ⟨rfl, _⟩ | ⟨g, c, rfl⟩
  · exact .inr (fun b hb => by cases hb)
  · exact .inl ⟨g, c, by rw [hn], by rw [hn]; rfl⟩
theorem Grew.blk {V g : Value} {n N t : Nat} (h : Grew V n N g t) : ∀ b, g.ownBlock = some b → V.ownBlock = some b ∨ N ≤ b := by
  rcases h with ⟨g0, c0, rfl, rfl⟩ | h
  · exact fun b hb => .inl (by rw [← hb]; rfl)
  · exact fun b hb => .inr (h b hb)
theorem Grew.step {W w6 : World} {V g : Value} {n N t m : Nat} {l0 l1 l2 : List B} {g' c' : Nat} (h : Grew V n N g t) (hl0 : l0.length = n) (hl1 : l1.length = t) (hl2 : l2.length = m) (hV : Own W 0 V l0) (hVb : ∀ b, V.ownBlock = some b → b < N) (hN : N ≤ W.heap.size)
    (hO : Own w6 0 (.slice (some ⟨g', 0, none⟩) (n + t + m) c') (l0 ++ l1 ++ l2)) (hor : (g = .slice (some ⟨g', 0, none⟩) (n + t) c' ∧ Kept (fun k => k = g') W w6) ∨ (Kept (fun _ => False) W w6 ∧ W.heap.size ≤ g')) :
    Own w6 0 V l0 ∧ Grew V n N (.slice (some ⟨g', 0, none⟩) (n + t + m) c') (t + m) ∧ Kept (fun b => V.ownBlock = some b ∨ N ≤ b) W w6 := by
  rcases hor with ⟨e, hk⟩ | ⟨hk, hg⟩
  · subst e
    rcases h with ⟨g0, c0, rfl, e2⟩ | h
    · simp only [Value.slice.injEq, Option.some.injEq, Addr.mk.injEq, true_and, and_true] at e2
      obtain ⟨rfl, rfl⟩ := e2
      rw [Nat.add_assoc, List.append_assoc] at hO
      exact ⟨hO.begin hl0 (by rw [List.length_append, hl1, hl2]), .inl ⟨g', c', rfl, by rw [Nat.add_assoc]⟩, hk.mono (fun b _ e => .inl (by rw [e]; rfl))⟩
    · have hg := h g' rfl
      exact ⟨hV.kept hk (fun b hb e => by have := hVb b hb; omega), .inr (fun b hb => by have e : g' = b := own_is hb; omega), hk.mono (fun b _ e => .inr (by omega))⟩
  · exact ⟨hV.kept hk (fun _ _ h => h), .inr (fun b hb => by have e : g' = b := own_is hb; omega), hk.mono (fun _ _ h => h.elim)⟩
end -- KitH

section -- KitG
open Go.RowKit Go.Maps
set_option linter.unusedVariables false
set_option maxRecDepth 100000
set_option maxHeartbeats 2000000

theorem flatLimbs_nil (w : World) :
    Calls Tryz.prog 71 #[.slice none 0 0] w fun e w' => e = .returned (.bool true) ∧ Below w.heap.size w w' := by
  have hmk := run_make_one (w := w) 88 151 (.slice none 0 0) 24 Tryz.underlying88 (by kernel_rfl) rfl (by omega) 0 (by omega)
  rw [show (((0 : Nat) : Nat) : Int) = 0 from rfl] at hmk
  go_enter Tryz.func71, Tryz.ntmps71
  go_wp2
  refine wp_loop_rounds 1 ?_
  rw [rounds_succ]
  go_wp2
  clear hmk
  refine wp_loop_rounds 1 ?_
  rw [rounds_succ]
  go_wp2
  refine wp_loop_rounds 1 ?_
  rw [rounds_succ]
  go_wp2
  refine wp_loop_rounds 1 ?_
  rw [rounds_succ]
  go_wp2
  refine wp_loop_rounds 1 ?_
  rw [rounds_succ]
  go_wp2
  go_ret
  exact ⟨rfl, bal' _ _⟩

theorem flatWords_nil (w : World) :
    Calls Tryz.prog 72 #[.slice none 0 0] w fun e w' => e = .returned (.bool true) ∧ Below w.heap.size w w' := by
  have hmk := run_make_one (w := w) 89 153 (.slice none 0 0) 24 Tryz.underlying89 (by kernel_rfl) rfl (by omega) 0 (by omega)
  rw [show (((0 : Nat) : Nat) : Int) = 0 from rfl] at hmk
  go_enter Tryz.func72, Tryz.ntmps72
  go_wp2
  refine wp_loop_rounds 1 ?_
  rw [rounds_succ]
  go_wp2
  clear hmk
  refine wp_loop_rounds 1 ?_
  rw [rounds_succ]
  go_wp2
  refine wp_loop_rounds 1 ?_
  rw [rounds_succ]
  go_wp2
  refine wp_loop_rounds 1 ?_
  rw [rounds_succ]
  go_wp2
  refine wp_loop_rounds 1 ?_
  rw [rounds_succ]
  go_wp2
  go_ret
  exact ⟨rfl, bal' _ _⟩

theorem flatInts_nil (w : World) :
    Calls Tryz.prog 73 #[.slice none 0 0] w fun e w' => e = .returned (.bool true) ∧ Below w.heap.size w w' := by
  have hmk := run_make_one (w := w) 90 23 (.slice none 0 0) 24 Tryz.underlying90 (by kernel_rfl) rfl (by omega) 0 (by omega)
  rw [show (((0 : Nat) : Nat) : Int) = 0 from rfl] at hmk
  go_enter Tryz.func73, Tryz.ntmps73
  go_wp2
  refine wp_loop_rounds 1 ?_
  rw [rounds_succ]
  go_wp2
  clear hmk
  refine wp_loop_rounds 1 ?_
  rw [rounds_succ]
  go_wp2
  refine wp_loop_rounds 1 ?_
  rw [rounds_succ]
  go_wp2
  refine wp_loop_rounds 1 ?_
  rw [rounds_succ]
  go_wp2
  refine wp_loop_rounds 1 ?_
  rw [rounds_succ]
  go_wp2
  go_ret
  exact ⟨rfl, bal' _ _⟩

theorem flatLongs_nil (w : World) :
    Calls Tryz.prog 74 #[.slice none 0 0] w fun e w' => e = .returned (.bool true) ∧ Below w.heap.size w w' := by
  have hmk := run_make_one (w := w) 91 154 (.slice none 0 0) 24 Tryz.underlying91 (by kernel_rfl) rfl (by omega) 0 (by omega)
  rw [show (((0 : Nat) : Nat) : Int) = 0 from rfl] at hmk
  go_enter Tryz.func74, Tryz.ntmps74
  go_wp2
  refine wp_loop_rounds 1 ?_
  rw [rounds_succ]
  go_wp2
  clear hmk
  refine wp_loop_rounds 1 ?_
  rw [rounds_succ]
  go_wp2
  refine wp_loop_rounds 1 ?_
  rw [rounds_succ]
  go_wp2
  refine wp_loop_rounds 1 ?_
  rw [rounds_succ]
  go_wp2
  refine wp_loop_rounds 1 ?_
  rw [rounds_succ]
  go_wp2
  go_ret
  exact ⟨rfl, bal' _ _⟩

theorem flatTexts_nil (w : World) :
    Calls Tryz.prog 75 #[.slice none 0 0] w fun e w' => e = .returned (.bool true) ∧ Below w.heap.size w w' := by
  have hmk := run_make_one (w := w) 92 155 (.slice none 0 0) 24 Tryz.underlying92 (by kernel_rfl) rfl (by omega) 0 (by omega)
  rw [show (((0 : Nat) : Nat) : Int) = 0 from rfl] at hmk
  go_enter Tryz.func75, Tryz.ntmps75
  go_wp2
  refine wp_loop_rounds 1 ?_
  rw [rounds_succ]
  go_wp2
  clear hmk
  refine wp_loop_rounds 1 ?_
  rw [rounds_succ]
  go_wp2
  refine wp_loop_rounds 1 ?_
  rw [rounds_succ]
  go_wp2
  refine wp_loop_rounds 1 ?_
  rw [rounds_succ]
  go_wp2
  refine wp_loop_rounds 1 ?_
  rw [rounds_succ]
  go_wp2
  go_ret
  exact ⟨rfl, bal' _ _⟩

theorem flatTruths_nil (w : World) :
    Calls Tryz.prog 77 #[.slice none 0 0] w fun e w' => e = .returned (.bool true) ∧ Below w.heap.size w w' := by
  have hmk := run_make_one (w := w) 93 157 (.slice none 0 0) 24 Tryz.underlying93 (by kernel_rfl) rfl (by omega) 0 (by omega)
  rw [show (((0 : Nat) : Nat) : Int) = 0 from rfl] at hmk
  go_enter Tryz.func77, Tryz.ntmps77
  go_wp2
  refine wp_loop_rounds 1 ?_
  rw [rounds_succ]
  go_wp2
  clear hmk
  refine wp_loop_rounds 1 ?_
  rw [rounds_succ]
  go_wp2
  refine wp_loop_rounds 1 ?_
  rw [rounds_succ]
  go_wp2
  refine wp_loop_rounds 1 ?_
  rw [rounds_succ]
  go_wp2
  refine wp_loop_rounds 1 ?_
  rw [rounds_succ]
  go_wp2
  go_ret
  exact ⟨rfl, bal' _ _⟩

theorem flatLayers_nil (w : World) :
    Calls Tryz.prog 78 #[.slice none 0 0] w fun e w' => e = .returned (.bool true) ∧ Below w.heap.size w w' := by
  have hmk := run_make_one (w := w) 94 158 (.slice none 0 0) 24 Tryz.underlying94 (by kernel_rfl) rfl (by omega) 0 (by omega)
  rw [show (((0 : Nat) : Nat) : Int) = 0 from rfl] at hmk
  go_enter Tryz.func78, Tryz.ntmps78
  go_wp2
  refine wp_loop_rounds 1 ?_
  rw [rounds_succ]
  go_wp2
  clear hmk
  refine wp_loop_rounds 1 ?_
  rw [rounds_succ]
  go_wp2
  refine wp_loop_rounds 1 ?_
  rw [rounds_succ]
  go_wp2
  refine wp_loop_rounds 1 ?_
  rw [rounds_succ]
  go_wp2
  refine wp_loop_rounds 1 ?_
  rw [rounds_succ]
  go_wp2
  go_ret
  exact ⟨rfl, bal' _ _⟩

theorem flatTable_nil (w : World) :
    Calls Tryz.prog 79 #[.slice none 0 0] w fun e w' => e = .returned (.bool true) ∧ Below w.heap.size w w' := by
  have hmk := run_make_one (w := w) 95 36 (.slice none 0 0) 24 Tryz.underlying95 (by kernel_rfl) rfl (by omega) 0 (by omega)
  rw [show (((0 : Nat) : Nat) : Int) = 0 from rfl] at hmk
  go_enter Tryz.func79, Tryz.ntmps79
  go_wp2
  refine wp_loop_rounds 1 ?_
  rw [rounds_succ]
  go_wp2
  clear hmk
  refine wp_loop_rounds 1 ?_
  rw [rounds_succ]
  go_wp2
  refine wp_loop_rounds 1 ?_
  rw [rounds_succ]
  go_wp2
  refine wp_loop_rounds 1 ?_
  rw [rounds_succ]
  go_wp2
  refine wp_loop_rounds 1 ?_
  rw [rounds_succ]
  go_wp2
  go_ret
  exact ⟨rfl, bal' _ _⟩

theorem flatHeads_nil (w : World) :
    Calls Tryz.prog 80 #[.slice none 0 0] w fun e w' => e = .returned (.bool true) ∧ Below w.heap.size w w' := by
  have hmk := run_make_one (w := w) 96 163 (.slice none 0 0) 24 Tryz.underlying96 (by kernel_rfl) rfl (by omega) 0 (by omega)
  rw [show (((0 : Nat) : Nat) : Int) = 0 from rfl] at hmk
  go_enter Tryz.func80, Tryz.ntmps80
  go_wp2
  refine wp_loop_rounds 1 ?_
  rw [rounds_succ]
  go_wp2
  clear hmk
  refine wp_loop_rounds 1 ?_
  rw [rounds_succ]
  go_wp2
  refine wp_loop_rounds 1 ?_
  rw [rounds_succ]
  go_wp2
  refine wp_loop_rounds 1 ?_
  rw [rounds_succ]
  go_wp2
  refine wp_loop_rounds 1 ?_
  rw [rounds_succ]
  go_wp2
  go_ret
  exact ⟨rfl, bal' _ _⟩

theorem flatCounts_nil (w : World) :
    Calls Tryz.prog 81 #[.slice none 0 0] w fun e w' => e = .returned (.bool true) ∧ Below w.heap.size w w' := by
  have hmk := run_make_one (w := w) 97 168 (.slice none 0 0) 24 Tryz.underlying97 (by kernel_rfl) rfl (by omega) 0 (by omega)
  rw [show (((0 : Nat) : Nat) : Int) = 0 from rfl] at hmk
  go_enter Tryz.func81, Tryz.ntmps81
  go_wp2
  refine wp_loop_rounds 1 ?_
  rw [rounds_succ]
  go_wp2
  clear hmk
  refine wp_loop_rounds 1 ?_
  rw [rounds_succ]
  go_wp2
  refine wp_loop_rounds 1 ?_
  rw [rounds_succ]
  go_wp2
  refine wp_loop_rounds 1 ?_
  rw [rounds_succ]
  go_wp2
  refine wp_loop_rounds 1 ?_
  rw [rounds_succ]
  go_wp2
  go_ret
  exact ⟨rfl, bal' _ _⟩

theorem flatNotes_nil (w : World) :
    Calls Tryz.prog 82 #[.slice none 0 0] w fun e w' => e = .returned (.bool true) ∧ Below w.heap.size w w' := by
  have hmk := run_make_one (w := w) 98 172 (.slice none 0 0) 24 Tryz.underlying98 (by kernel_rfl) rfl (by omega) 0 (by omega)
  rw [show (((0 : Nat) : Nat) : Int) = 0 from rfl] at hmk
  go_enter Tryz.func82, Tryz.ntmps82
  go_wp2
  refine wp_loop_rounds 1 ?_
  rw [rounds_succ]
  go_wp2
  clear hmk
  refine wp_loop_rounds 1 ?_
  rw [rounds_succ]
  go_wp2
  refine wp_loop_rounds 1 ?_
  rw [rounds_succ]
  go_wp2
  refine wp_loop_rounds 1 ?_
  rw [rounds_succ]
  go_wp2
  refine wp_loop_rounds 1 ?_
  rw [rounds_succ]
  go_wp2
  go_ret
  exact ⟨rfl, bal' _ _⟩

theorem flatFates_nil (w : World) :
    Calls Tryz.prog 83 #[.slice none 0 0] w fun e w' => e = .returned (.bool true) ∧ Below w.heap.size w w' := by
  have hmk := run_make_one (w := w) 99 177 (.slice none 0 0) 24 Tryz.underlying99 (by kernel_rfl) rfl (by omega) 0 (by omega)
  rw [show (((0 : Nat) : Nat) : Int) = 0 from rfl] at hmk
  go_enter Tryz.func83, Tryz.ntmps83
  go_wp2
  refine wp_loop_rounds 1 ?_
  rw [rounds_succ]
  go_wp2
  clear hmk
  refine wp_loop_rounds 1 ?_
  rw [rounds_succ]
  go_wp2
  refine wp_loop_rounds 1 ?_
  rw [rounds_succ]
  go_wp2
  refine wp_loop_rounds 1 ?_
  rw [rounds_succ]
  go_wp2
  refine wp_loop_rounds 1 ?_
  rw [rounds_succ]
  go_wp2
  go_ret
  exact ⟨rfl, bal' _ _⟩

theorem flatBytes_nil (w : World) :
    Calls Tryz.prog 76 #[.slice none 0 0] w fun e w' => e = .returned (.bool true) ∧ Below w.heap.size w w' := by
  have hmk := run_make_one (w := w) 22 50 (.slice none 0 0) 24 Tryz.underlying22 (by kernel_rfl) rfl (by omega) 0 (by omega)
  rw [show (((0 : Nat) : Nat) : Int) = 0 from rfl] at hmk
  go_enter Tryz.func76, Tryz.ntmps76
  go_wp2
  refine wp_loop_rounds 1 ?_
  rw [rounds_succ]
  go_wp2
  clear hmk
  refine wp_loop_rounds 1 ?_
  rw [rounds_succ]
  go_wp2
  refine wp_loop_rounds 1 ?_
  rw [rounds_succ]
  go_wp2
  refine wp_loop_rounds 1 ?_
  rw [rounds_succ]
  go_wp2
  refine wp_loop_rounds 1 ?_
  rw [rounds_succ]
  go_wp2
  go_ret
  exact ⟨rfl, bal' _ _⟩
end -- KitG

end Go.Proofs.YtanjchpkekehgaaGreat
