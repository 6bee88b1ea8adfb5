/-
  GpI: Walks of layer 17: how many a group holds; Ready; Whole.
  GpJ: Walks of layer 17: Take, of a header that is right, and like the group's, and a body as long as it should be.
  TbD: Layer 18: entries of a table; which one is the first of which something is so.
-/
import Derived.Test.YtibelpamolcmcaaMxax
import Derived.Test.YtibelpamolcmcaaMxat
import Derived.Test.YtibelpamolcmcaaMxad
import Derived.Test.YtibelpamolcmcaaMxaq
import Derived.Test.YtibelpamolcmcaaMxav
namespace Go.Proofs.Ytibelpamolcmcaa

section -- GpI
open Go.RowKit Go.Maps
set_option linter.unusedVariables false
set_option linter.unusedSimpArgs false
set_option maxRecDepth 100000
set_option maxHeartbeats 4000000

theorem gmany_any (w : World) (bm : Nat) (es : List (Int × Value)) (h : MapI w bm es) :
    Calls Try.prog 39 #[.map (some bm)] w fun e w' => e = .returned (.int .i64 (es.length : Nat)) ∧ w = w' := by
  have hl := fun ty => h.len (mt := 75) Try.underlying75 ty
  clear h
  go_enter Try.func39, Try.ntmps39
  go_wp2
  go_ret
  exact ⟨rfl, rfl⟩

section
variable {w : World} {base b bm : Nat} {H : HeadV} {vr : Value} {hs : List (Int × List B)} {V : Int → Value}
theorem esV_len (ks : List Int) (V : Int → Value) : (esV ks V).length = ks.length := by simp [esV]
theorem gcame_any (h : GrpAt w base b bm H vr hs V) :
    Calls Try.prog 20 #[.pointer (some ⟨b, 0, none⟩)] w fun e w' => e = .returned (.int .i64 (hs.length : Nat)) ∧ w = w' := by
  have HM := Lib.hid (gmade_any h)
  have HN := Lib.hid (gmany_any w bm _ h.map)
  rw [esV_len, List.length_map] at HN
  have c0 := h.c0
  clear h
  go_enter Try.func20, Try.ntmps20
  go_wp2_with fail
  refine HM.out.mono ?_
  rintro e w1 ⟨rfl, rfl⟩
  go_wp2_with fail
  refine HN.out.mono ?_
  rintro e w1 ⟨rfl, rfl⟩
  go_wp2
  go_ret
  exact ⟨rfl, rfl⟩

end
end -- GpI

section -- GpJ
open Go.RowKit Go.Maps
set_option linter.unusedVariables false
set_option linter.unusedSimpArgs false
set_option maxRecDepth 100000
set_option maxHeartbeats 4000000

theorem MapI.look_yes {w : World} {b : Nat} {es : List (Int × Value)} {mt e : TypeId} {x : Int} {v : Value} (h : MapI w b es) (hm : Try.prog.underlying mt = some (.map 3 e)) (hx : In64 x) (z : Value) (hz : (zeroValue e).run Try.prog w = .ok z w) (hp : (x, v) ∈ es) :
    (Instr.lookup mt (.map (some b)) (.int .i64 x) true).run Try.prog w = .ok (.tuple #[v, .bool true]) w := by
  rcases h.look true hm hx z hz with ⟨p, hq, e1, hr⟩ | ⟨hn, _⟩
  · have : p = (x, v) := inj_nodup h.nodup hq hp e1
    rw [this] at hr
    exact hr
  · exact absurd rfl (hn _ hp)
theorem MapI.look_no {w : World} {b : Nat} {es : List (Int × Value)} {mt e : TypeId} {x : Int} (h : MapI w b es) (hm : Try.prog.underlying mt = some (.map 3 e)) (hx : In64 x) (z : Value) (hz : (zeroValue e).run Try.prog w = .ok z w) (hp : ∀ p ∈ es, p.1 ≠ x) :
    (Instr.lookup mt (.map (some b)) (.int .i64 x) true).run Try.prog w = .ok (.tuple #[z, .bool false]) w := by
  rcases h.look true hm hx z hz with ⟨p, hq, e1, hr⟩ | ⟨_, hr⟩
  · exact absurd e1 (hp p hq)
  · exact hr
theorem step_putI {ops : Array Oper} {o : Oper} {a : Act} {W : World} {K : Act → World → Prop} {Q : Exit → Act → World → Prop} {E : Prop} {mt e : TypeId} (hmt : Try.prog.underlying mt = some (.map 3 e)) (hw : Region.wanted o (yielded ops a.tmps) = true) (m x v : Operand) (hop : o.op = .mapUpdate mt m x v)
    (bm : Nat) (es : List (Int × Value)) (h : MapI W bm es) (k : Int) (hk : In64 k) (hnew : ∀ p ∈ es, p.1 ≠ k) (val : Value) (hm : a.eval m = .map (some bm)) (hx : a.eval x = .int .i64 k) (hv : a.eval v = val) (hl : es.length < 1000000)
    (H : ∀ w', MapI w' bm (es ++ [(k, val)]) → Kept (fun i => i = bm) W w' → K (a.put o.dst undef) w') : if Region.wanted o (yielded ops a.tmps) = true then Oper.wp Try.prog o a W K Q else E := by
  rw [if_pos hw]
  obtain ⟨w', hrun, h1, h2⟩ := h.putNew hmt hk hnew val (by omega)
  have h3 := H w' h1 (MapI.turned h2)
  unfold Oper.wp execOp
  simp only [hop, hm, hx, hv, Sem.run_bind, Sem.run_pure, hrun, Result.andThen_ok]
  exact h3
/-- A world is given a name. -/
theorem K_name {K : Act → World → Prop} {a : Act} {W : World} (h : ∀ W', W' = W → K a W') : K a W := h _ rfl
/-- Append of bytes to none. -/
theorem app_own0 {ops : Array Oper} {rest : List Oper} {o : Oper} {a : Act} {Q : Exit → Act → World → Prop} {W : World}
    (hgd : o.guard = none) (s x : Operand) (ho : o.op = .call { callee := .builtin .append, args := #[s, x], argTypes := #[32, 32] })
    (base m : Nat) (v : Value) (l2 : List B) (hm : l2.length = m) (hown : Own W base v []) (p : Option Addr) (c : Nat) (hc : 0 < m → ∃ g off, p = some ⟨g, off, none⟩ ∧ ∀ i, i < m → W.cell? ⟨g, off + i, none⟩ = some (bv (l2.getD i 0)))
    (hs : a.eval s = v) (hx : a.eval x = .slice p m c) (hnm : m < 1000000000000) (hbase : base ≤ W.heap.size)
    (h : ∀ p' c' w', Own w' base (.slice p' m c') l2 → Kept (fun k => v.ownBlock = some k) W w' → (∀ b, (Value.slice p' m c').ownBlock = some b → v.ownBlock = some b ∨ W.heap.size ≤ b) →
      wpList Try.prog ops Q rest (a.put o.dst (.slice p' m c')) w') : wpList Try.prog ops Q (o :: rest) a W := by
  refine app_own_many hgd s x ho base 0 m v [] l2 rfl hm hown p c hc hs hx (by omega) hbase (fun p' c' w' h2 h3 h4 => ?_)
  rw [Nat.zero_add] at h2 h4
  rw [List.nil_append] at h2
  have := h p' c' w' h2 h3 h4
  rwa [Nat.zero_add]

section
variable {w : World} {base b bm : Nat} {H : HeadV} {vr : Value} {hs : List (Int × List B)} {V : Int → Value}
theorem gtake_any (h : GrpAt w base b bm H vr hs V) (hbase : base ≤ w.heap.size) (x : HeadV) (v vb : Value) (l : List B) (hv : TableAt w v x.rows) (hb : BytesAt w vb l) (hx : HeadOk x) (hl : LikeH x H) (hlen : l.length = atT H.rows H.rows.length) (hhs : hs.length ≤ 1000) :
    Calls Try.prog 35 #[.pointer (some ⟨b, 0, none⟩), headVal x v, vb] w fun e w' => ∃ V', e = .returned (.int .i64 (if x.index ∈ hs.map (·.1) then 9 else 0)) ∧ GrpAt w' base b bm H vr (if x.index ∈ hs.map (·.1) then hs else insH x.index l hs) V' ∧ Kept (fun k => k = bm) w w' := by
  have HG0 := Lib.hid h
  have HM := Lib.hid (fun W (hB : Below w.heap.size w W) => gmade_any (h.below hB))
  have hI : In64 x.index := ⟨by have := hx.2.1; omega, by have h1 := hx.2.2.1; have h2 := hx.1.2.1; omega⟩
  have HI := Lib.hid hI
  have HRG := Lib.hid (show 0 ≤ x.index ∧ x.index < H.n from by have h1 := hx.2.1; have h2 := hx.2.2.1; have h3 := hl.2.2.1; omega)
  have HB1 := Lib.hid (balI w (.cells #[.int .i64 x.stream, .int .i64 x.frame, .int .i64 x.index, .int .i64 x.n, .int .i64 x.deadline, v] 31))
  have HX1 := Lib.hid (HeadBox.new w x v)
  have HR := Lib.hid (fun W (hB : Below w.heap.size w W) => show Calls Try.prog 45 #[headVal x v] W fun e w' => e = .returned (.bool true) ∧ Below W.heap.size W w' from by
    have := hright_any W x v (hv.below hB)
    rwa [decide_eq_true hx] at this)
  have HH0 : LikeH x ⟨H.stream, H.frame, 0, H.n, H.deadline, H.rows⟩ := hl
  have hTX := hx.1
  have HLK := Lib.hid (fun W (hB : Below w.heap.size w W) => show Calls Try.prog 21 #[headVal x v, .agg #[.int .i64 H.stream, .int .i64 H.frame, .int .i64 0, .int .i64 H.n, .int .i64 H.deadline, vr]] W fun e w' => e = .returned (.bool true) ∧ Below W.heap.size W w' from by
    have := like_any W x ⟨H.stream, H.frame, 0, H.n, H.deadline, H.rows⟩ v vr (hv.below hB) (h.tab.below hB) (by have := hTX.2.2.2.1; omega)
    rwa [decide_eq_true HH0] at this)
  have hlow := atT_low h.ok.2.2.2.2 (i := H.rows.length) (Nat.le_refl _)
  have hrl := h.ok.2.2.2.1
  obtain ⟨pb, cb, rfl⟩ := hb.shape
  have HBY := Lib.hid hb
  obtain ⟨Ln, hLn⟩ : ∃ y, atT H.rows H.rows.length = y := ⟨_, rfl⟩
  have HLN := Lib.hid hLn
  rw [hLn] at hlow hlen
  have HLEN := Lib.hid hlen
  rw [hlen] at HBY ⊢
  have hLb : Ln ≤ 524280 := by omega
  obtain ⟨pr, cr, hvr⟩ := h.tab.shape
  obtain ⟨M, hM⟩ : ∃ y, H.rows.length = y := ⟨_, rfl⟩
  rw [hM] at hvr
  obtain ⟨P, hP⟩ : ∃ P : Prop, P = (x.index ∈ hs.map (·.1)) := ⟨_, rfl⟩
  have HP := Lib.hid hP
  have HMP := Lib.hid (fun W (hB : Below w.heap.size w W) => h.map.below hB)
  have HLN0 := Lib.hid h.c7
  rw [hLn] at HLN0
  have g0 := h.c0
  have g1 := h.c1
  have g2 := h.c2
  have g3 := h.c3
  have g4 := h.c4
  have g5 := h.c5
  have g6 := h.c6
  have g7 := HLN0.out
  rw [hvr] at g6 HLK
  obtain ⟨hS, hS'⟩ : ∃ y, H.stream = y := ⟨_, rfl⟩
  obtain ⟨hF, hF'⟩ : ∃ y, H.frame = y := ⟨_, rfl⟩
  obtain ⟨hN, hN'⟩ : ∃ y, H.n = y := ⟨_, rfl⟩
  obtain ⟨hD, hD'⟩ : ∃ y, H.deadline = y := ⟨_, rfl⟩
  rw [hS'] at g1 HLK
  rw [hF'] at g2 HLK
  rw [hN'] at g4 HLK
  rw [hD'] at g5 HLK
  clear h hv hx hl hb hlow hrl hM hvr hTX HH0 hI hLn hlen hS' hF' hN' hD' hP
  obtain ⟨stream, frame, index, n, deadline, rows⟩ := x
  dsimp only at HB1 HX1 HR HLK HI HP HRG ⊢
  go_enter Try.func35, Try.ntmps35
  go_wp2_with fail
  generalize w.alloc (.cells #[.int .i64 stream, .int .i64 frame, .int .i64 index, .int .i64 n, .int .i64 deadline, v] 31) = w1 at *
  refine (HM.out w1 HB1.out).mono ?_
  rintro e w2 ⟨rfl, rfl⟩
  have b2 := HX1.out.c2
  dsimp only at b2
  have HD1 := Lib.hid (show Below w1.heap.size w1 w1.drew from (Kept.refl (fun _ => False) w1).drew.toBelow (Nat.le_refl _) (fun _ h => h.elim))
  obtain ⟨u, tw, hlk, htw⟩ : ∃ (u : Value) (tw : Bool), (∀ W, Below w1.heap.size w1 W → (Instr.lookup 75 (.map (some bm)) (.int .i64 index) true).run Try.prog W = .ok (.tuple #[u, .bool tw]) W) ∧ (tw = true ↔ index ∈ hs.map (·.1)) := by
    by_cases hin : index ∈ hs.map (·.1)
    · refine ⟨V index, true, fun W hW => ?_, by simp [hin]⟩
      exact (HMP.out W (below_more HB1.out hW HB1.out.size)).look_yes Try.underlying75 HI.out _ (Try.zeroValue32 W) (List.mem_map.2 ⟨index, hin, rfl⟩)
    · refine ⟨.slice none 0 0, false, fun W hW => ?_, by simp [hin]⟩
      refine (HMP.out W (below_more HB1.out hW HB1.out.size)).look_no Try.underlying75 HI.out _ (Try.zeroValue32 W) (fun p hp e => hin ?_)
      obtain ⟨k, hk, rfl⟩ := List.mem_map.1 hp
      rw [← e]
      exact hk
  have HL := Lib.hid hlk
  have HTW := Lib.hid htw
  have q0 := (HB1.out.cell (p := ⟨b, 0, none⟩) (blt g0)).trans g0
  clear hlk htw
  go_wp2_with fail
  refine s_start 12 (fun W => Below w1.heap.size w1 W) (by as_aux_lemma => kernel_rfl) (by as_aux_lemma => kernel_rfl) HD1.out ?_
  refine s_take 0 (by as_aux_lemma => kernel_rfl) (by as_aux_lemma => kernel_rfl) (by as_aux_lemma => kernel_rfl) (by as_aux_lemma => kernel_rfl) HD1.out (fun oi ho => ?_)
  simp only [List.getElem?_toArray, List.getElem?_cons_succ, List.getElem?_cons_zero, Option.some.injEq] at ho
  subst ho
  refine ⟨?_, Or.inl ⟨by rfl, fun w _ => ?_⟩, ?_⟩
  rotate_left
  · (go_simp <;> with_reducible rfl)
  try simp only [Act.put, List.setIfInBounds_toArray, List.set_cons_zero, List.set_cons_succ]
  refine s_take 1 (by as_aux_lemma => kernel_rfl) (by as_aux_lemma => kernel_rfl) (by as_aux_lemma => kernel_rfl) (by as_aux_lemma => kernel_rfl) HD1.out (fun oi ho => ?_)
  simp only [List.getElem?_toArray, List.getElem?_cons_succ, List.getElem?_cons_zero, Option.some.injEq] at ho
  subst ho
  refine ⟨?_, Or.inl ⟨by rfl, fun w _ => ?_⟩, ?_⟩
  rotate_left
  · (go_simp <;> with_reducible rfl)
  try simp only [Act.put, List.setIfInBounds_toArray, List.set_cons_zero, List.set_cons_succ]
  refine s_take 2 (by as_aux_lemma => kernel_rfl) (by as_aux_lemma => kernel_rfl) (by as_aux_lemma => kernel_rfl) (by as_aux_lemma => kernel_rfl) HD1.out (fun oi ho => ?_)
  simp only [List.getElem?_toArray, List.getElem?_cons_succ, List.getElem?_cons_zero, Option.some.injEq] at ho
  subst ho
  refine ⟨?_, Or.inl ⟨by rfl, fun w _ => ?_⟩, ?_⟩
  rotate_left
  · (go_simp <;> with_reducible rfl)
  try simp only [Act.put, List.setIfInBounds_toArray, List.set_cons_zero, List.set_cons_succ]
  refine s_take 3 (by as_aux_lemma => kernel_rfl) (by as_aux_lemma => kernel_rfl) (by as_aux_lemma => kernel_rfl) (by as_aux_lemma => kernel_rfl) HD1.out (fun oi ho => ?_)
  simp only [List.getElem?_toArray, List.getElem?_cons_succ, List.getElem?_cons_zero, Option.some.injEq] at ho
  subst ho
  refine ⟨.map (some bm), Or.inl ⟨by rfl, fun w' hS' => ?_⟩, ?_⟩
  · have z := (hS'.cell (p := ⟨b, 0, none⟩) (blt q0)).trans q0
    clear g0 g1 g2 g3 g4 g5 g6 g7 b2 q0
    (go_simp <;> with_reducible rfl)
  try simp only [Act.put, List.setIfInBounds_toArray, List.set_cons_zero, List.set_cons_succ]
  refine s_take 4 (by as_aux_lemma => kernel_rfl) (by as_aux_lemma => kernel_rfl) (by as_aux_lemma => kernel_rfl) (by as_aux_lemma => kernel_rfl) HD1.out (fun oi ho => ?_)
  simp only [List.getElem?_toArray, List.getElem?_cons_succ, List.getElem?_cons_zero, Option.some.injEq] at ho
  subst ho
  refine ⟨?_, Or.inl ⟨by rfl, fun w _ => ?_⟩, ?_⟩
  rotate_left
  · (go_simp <;> with_reducible rfl)
  try simp only [Act.put, List.setIfInBounds_toArray, List.set_cons_zero, List.set_cons_succ]
  refine s_take 5 (by as_aux_lemma => kernel_rfl) (by as_aux_lemma => kernel_rfl) (by as_aux_lemma => kernel_rfl) (by as_aux_lemma => kernel_rfl) HD1.out (fun oi ho => ?_)
  simp only [List.getElem?_toArray, List.getElem?_cons_succ, List.getElem?_cons_zero, Option.some.injEq] at ho
  subst ho
  refine ⟨.int .i64 index, Or.inl ⟨by rfl, fun w' hS' => ?_⟩, ?_⟩
  · have z := (hS'.cell (p := ⟨w.heap.size, 2, none⟩) (blt b2)).trans b2
    clear g0 g1 g2 g3 g4 g5 g6 g7 b2 q0
    (go_simp <;> with_reducible rfl)
  try simp only [Act.put, List.setIfInBounds_toArray, List.set_cons_zero, List.set_cons_succ]
  refine s_take 6 (by as_aux_lemma => kernel_rfl) (by as_aux_lemma => kernel_rfl) (by as_aux_lemma => kernel_rfl) (by as_aux_lemma => kernel_rfl) HD1.out (fun oi ho => ?_)
  simp only [List.getElem?_toArray, List.getElem?_cons_succ, List.getElem?_cons_zero, Option.some.injEq] at ho
  subst ho
  refine ⟨.tuple #[u, .bool tw], Or.inl ⟨by rfl, fun w' hS' => ?_⟩, ?_⟩
  · have z := HL.out _ hS'
    clear g0 g1 g2 g3 g4 g5 g6 g7 b2 q0
    (go_simp <;> with_reducible rfl)
  try simp only [Act.put, List.setIfInBounds_toArray, List.set_cons_zero, List.set_cons_succ]
  refine s_take 7 (by as_aux_lemma => kernel_rfl) (by as_aux_lemma => kernel_rfl) (by as_aux_lemma => kernel_rfl) (by as_aux_lemma => kernel_rfl) HD1.out (fun oi ho => ?_)
  simp only [List.getElem?_toArray, List.getElem?_cons_succ, List.getElem?_cons_zero, Option.some.injEq] at ho
  subst ho
  refine ⟨?_, Or.inl ⟨by rfl, fun w _ => ?_⟩, ?_⟩
  rotate_left
  · (go_simp <;> with_reducible rfl)
  try simp only [Act.put, List.setIfInBounds_toArray, List.set_cons_zero, List.set_cons_succ]
  refine s_take 8 (by as_aux_lemma => kernel_rfl) (by as_aux_lemma => kernel_rfl) (by as_aux_lemma => kernel_rfl) (by as_aux_lemma => kernel_rfl) HD1.out (fun oi ho => ?_)
  simp only [List.getElem?_toArray, List.getElem?_cons_succ, List.getElem?_cons_zero, Option.some.injEq] at ho
  subst ho
  refine ⟨?_, Or.inl ⟨by rfl, fun w _ => ?_⟩, ?_⟩
  rotate_left
  · (go_simp <;> with_reducible rfl)
  try simp only [Act.put, List.setIfInBounds_toArray, List.set_cons_zero, List.set_cons_succ]
  refine s_take 9 (by as_aux_lemma => kernel_rfl) (by as_aux_lemma => kernel_rfl) (by as_aux_lemma => kernel_rfl) (by as_aux_lemma => kernel_rfl) HD1.out (fun oi ho => ?_)
  simp only [List.getElem?_toArray, List.getElem?_cons_succ, List.getElem?_cons_zero, Option.some.injEq] at ho
  subst ho
  refine ⟨?_, Or.inl ⟨by rfl, fun w _ => ?_⟩, ?_⟩
  rotate_left
  · (go_simp <;> with_reducible rfl)
  try simp only [Act.put, List.setIfInBounds_toArray, List.set_cons_zero, List.set_cons_succ]
  refine s_take 10 (by as_aux_lemma => kernel_rfl) (by as_aux_lemma => kernel_rfl) (by as_aux_lemma => kernel_rfl) (by as_aux_lemma => kernel_rfl) HD1.out (fun oi ho => ?_)
  simp only [List.getElem?_toArray, List.getElem?_cons_succ, List.getElem?_cons_zero, Option.some.injEq] at ho
  subst ho
  refine ⟨?_, Or.inl ⟨by rfl, fun w _ => ?_⟩, ?_⟩
  rotate_left
  · (go_simp <;> with_reducible rfl)
  try simp only [Act.put, List.setIfInBounds_toArray, List.set_cons_zero, List.set_cons_succ]
  refine s_take 11 (by as_aux_lemma => kernel_rfl) (by as_aux_lemma => kernel_rfl) (by as_aux_lemma => kernel_rfl) (by as_aux_lemma => kernel_rfl) HD1.out (fun oi ho => ?_)
  simp only [List.getElem?_toArray, List.getElem?_cons_succ, List.getElem?_cons_zero, Option.some.injEq] at ho
  subst ho
  refine ⟨?_, Or.inl ⟨by rfl, fun w _ => ?_⟩, ?_⟩
  rotate_left
  · (go_simp <;> with_reducible rfl)
  try simp only [Act.put, List.setIfInBounds_toArray, List.set_cons_zero, List.set_cons_succ]
  refine s_done (by as_aux_lemma => kernel_rfl) ?_
  skip
  have HX2 := Lib.hid (HX1.out.below HD1.out)
  have HB2 := Lib.hid (below_more HB1.out HD1.out HB1.out.size)
  have HDS := Lib.hid (show w1.heap.size ≤ w1.drew.heap.size from HD1.out.size)
  have hbl : w.heap.size < w1.heap.size := HX1.out.lt
  generalize w1.drew = w2 at *
  have y0 := HX2.out.c0
  have y1 := HX2.out.c1
  have y2 := HX2.out.c2
  have y3 := HX2.out.c3
  have y4 := HX2.out.c4
  have y5 := HX2.out.c5
  dsimp only at y0 y1 y2 y3 y4
  clear b2 q0
  go_wp2_with fail
  refine (HR.out w2 HB2.out).mono ?_
  rintro e w3 ⟨rfl, hB3⟩
  have HX3 := Lib.hid (HX2.out.below hB3)
  have HB3 := Lib.hid (below_more HB2.out hB3 HB2.out.size)
  clear hB3 y0 y1 y2 y3 y4 y5
  have y0 := HX3.out.c0
  have y1 := HX3.out.c1
  have y2 := HX3.out.c2
  have y3 := HX3.out.c3
  have y4 := HX3.out.c4
  have y5 := HX3.out.c5
  dsimp only at y0 y1 y2 y3 y4
  have k1 := (HB3.out.cell (p := ⟨b, 1, none⟩) (blt g1)).trans g1
  have k2 := (HB3.out.cell (p := ⟨b, 2, none⟩) (blt g2)).trans g2
  have k3 := (HB3.out.cell (p := ⟨b, 3, none⟩) (blt g3)).trans g3
  have k4 := (HB3.out.cell (p := ⟨b, 4, none⟩) (blt g4)).trans g4
  have k5 := (HB3.out.cell (p := ⟨b, 5, none⟩) (blt g5)).trans g5
  have k6 := (HB3.out.cell (p := ⟨b, 6, none⟩) (blt g6)).trans g6
  have HD3 := Lib.hid (show Below w3.heap.size w3 w3.drew from (Kept.refl (fun _ => False) w3).drew.toBelow (Nat.le_refl _) (fun _ h => h.elim))
  clear g1 g2 g3 g4 g5 g6
  go_wp2_with fail
  refine s_start 8 (fun W => Below w3.heap.size w3 W) (by as_aux_lemma => kernel_rfl) (by as_aux_lemma => kernel_rfl) HD3.out ?_
  refine s_take 0 (by as_aux_lemma => kernel_rfl) (by as_aux_lemma => kernel_rfl) (by as_aux_lemma => kernel_rfl) (by as_aux_lemma => kernel_rfl) HD3.out (fun oi ho => ?_)
  simp only [List.getElem?_toArray, List.getElem?_cons_succ, List.getElem?_cons_zero, Option.some.injEq] at ho
  subst ho
  refine ⟨.agg #[.int .i64 stream, .int .i64 frame, .int .i64 index, .int .i64 n, .int .i64 deadline, v], Or.inl ⟨by rfl, fun w' hS' => ?_⟩, ?_⟩
  · have z0 := (hS'.cell (p := ⟨w.heap.size, 0, none⟩) (blt y0)).trans y0
    have z1 := (hS'.cell (p := ⟨w.heap.size, 1, none⟩) (blt y1)).trans y1
    have z2 := (hS'.cell (p := ⟨w.heap.size, 2, none⟩) (blt y2)).trans y2
    have z3 := (hS'.cell (p := ⟨w.heap.size, 3, none⟩) (blt y3)).trans y3
    have z4 := (hS'.cell (p := ⟨w.heap.size, 4, none⟩) (blt y4)).trans y4
    have z5 := (hS'.cell (p := ⟨w.heap.size, 5, none⟩) (blt y5)).trans y5
    clear g0 g7 y0 y1 y2 y3 y4 y5 k1 k2 k3 k4 k5 k6
    (go_simp <;> with_reducible rfl)
  try simp only [Act.put, List.setIfInBounds_toArray, List.set_cons_zero, List.set_cons_succ]
  refine s_take 1 (by as_aux_lemma => kernel_rfl) (by as_aux_lemma => kernel_rfl) (by as_aux_lemma => kernel_rfl) (by as_aux_lemma => kernel_rfl) HD3.out (fun oi ho => ?_)
  simp only [List.getElem?_toArray, List.getElem?_cons_succ, List.getElem?_cons_zero, Option.some.injEq] at ho
  subst ho
  refine ⟨?_, Or.inl ⟨by rfl, fun w _ => ?_⟩, ?_⟩
  rotate_left
  · (go_simp <;> with_reducible rfl)
  try simp only [Act.put, List.setIfInBounds_toArray, List.set_cons_zero, List.set_cons_succ]
  refine s_take 2 (by as_aux_lemma => kernel_rfl) (by as_aux_lemma => kernel_rfl) (by as_aux_lemma => kernel_rfl) (by as_aux_lemma => kernel_rfl) HD3.out (fun oi ho => ?_)
  simp only [List.getElem?_toArray, List.getElem?_cons_succ, List.getElem?_cons_zero, Option.some.injEq] at ho
  subst ho
  refine ⟨?_, Or.inl ⟨by rfl, fun w _ => ?_⟩, ?_⟩
  rotate_left
  · (go_simp <;> with_reducible rfl)
  try simp only [Act.put, List.setIfInBounds_toArray, List.set_cons_zero, List.set_cons_succ]
  refine s_take 3 (by as_aux_lemma => kernel_rfl) (by as_aux_lemma => kernel_rfl) (by as_aux_lemma => kernel_rfl) (by as_aux_lemma => kernel_rfl) HD3.out (fun oi ho => ?_)
  simp only [List.getElem?_toArray, List.getElem?_cons_succ, List.getElem?_cons_zero, Option.some.injEq] at ho
  subst ho
  refine ⟨?_, Or.inl ⟨by rfl, fun w _ => ?_⟩, ?_⟩
  rotate_left
  · (go_simp <;> with_reducible rfl)
  try simp only [Act.put, List.setIfInBounds_toArray, List.set_cons_zero, List.set_cons_succ]
  refine s_take 4 (by as_aux_lemma => kernel_rfl) (by as_aux_lemma => kernel_rfl) (by as_aux_lemma => kernel_rfl) (by as_aux_lemma => kernel_rfl) HD3.out (fun oi ho => ?_)
  simp only [List.getElem?_toArray, List.getElem?_cons_succ, List.getElem?_cons_zero, Option.some.injEq] at ho
  subst ho
  refine ⟨.agg #[.int .i64 hS, .int .i64 hF, .int .i64 0, .int .i64 hN, .int .i64 hD, .slice pr M cr], Or.inl ⟨by rfl, fun w' hS' => ?_⟩, ?_⟩
  · have z1 := (hS'.cell (p := ⟨b, 1, none⟩) (blt k1)).trans k1
    have z2 := (hS'.cell (p := ⟨b, 2, none⟩) (blt k2)).trans k2
    have z3 := (hS'.cell (p := ⟨b, 3, none⟩) (blt k3)).trans k3
    have z4 := (hS'.cell (p := ⟨b, 4, none⟩) (blt k4)).trans k4
    have z5 := (hS'.cell (p := ⟨b, 5, none⟩) (blt k5)).trans k5
    have z6 := (hS'.cell (p := ⟨b, 6, none⟩) (blt k6)).trans k6
    clear g0 g7 y0 y1 y2 y3 y4 y5 k1 k2 k3 k4 k5 k6
    (go_simp <;> with_reducible rfl)
  try simp only [Act.put, List.setIfInBounds_toArray, List.set_cons_zero, List.set_cons_succ]
  refine s_all (rs := [5]) (by as_aux_lemma => kernel_rfl) (by simp) ?_
  refine s_step 5 (by as_aux_lemma => kernel_rfl) (fun o ho K hK => ?_) AllReadyH.nil
  simp only [List.getElem?_toArray, List.getElem?_cons_succ, List.getElem?_cons_zero, Option.some.injEq] at ho
  subst ho
  go_simp
  refine (HLK.out _ (below_more HB3.out HD3.out HB3.out.size)).mono ?_
  rintro e w4 ⟨rfl, hB4⟩
  have HB4 := Lib.hid (below_more HD3.out hB4 HD3.out.size)
  clear hB4
  go_wp2_with fail
  refine hK.out _ _ HB4.out ?_
  clear hK K
  try simp only [Act.put, List.setIfInBounds_toArray, List.set_cons_zero, List.set_cons_succ]
  refine s_take 6 (by as_aux_lemma => kernel_rfl) (by as_aux_lemma => kernel_rfl) (by as_aux_lemma => kernel_rfl) (by as_aux_lemma => kernel_rfl) HB4.out (fun oi ho => ?_)
  simp only [List.getElem?_toArray, List.getElem?_cons_succ, List.getElem?_cons_zero, Option.some.injEq] at ho
  subst ho
  refine ⟨?_, Or.inl ⟨by rfl, fun w _ => ?_⟩, ?_⟩
  rotate_left
  · (go_simp <;> with_reducible rfl)
  try simp only [Act.put, List.setIfInBounds_toArray, List.set_cons_zero, List.set_cons_succ]
  refine s_take 7 (by as_aux_lemma => kernel_rfl) (by as_aux_lemma => kernel_rfl) (by as_aux_lemma => kernel_rfl) (by as_aux_lemma => kernel_rfl) HB4.out (fun oi ho => ?_)
  simp only [List.getElem?_toArray, List.getElem?_cons_succ, List.getElem?_cons_zero, Option.some.injEq] at ho
  subst ho
  refine ⟨?_, Or.inl ⟨by rfl, fun w _ => ?_⟩, ?_⟩
  rotate_left
  · (go_simp <;> with_reducible rfl)
  try simp only [Act.put, List.setIfInBounds_toArray, List.set_cons_zero, List.set_cons_succ]
  refine s_done (by as_aux_lemma => kernel_rfl) ?_
  skip
  have HB34 := Lib.hid (below_more HB3.out HB4.out HB3.out.size)
  have HX4 := Lib.hid (HX3.out.below HB4.out)
  have m7 := (HB34.out.cell (p := ⟨b, 7, none⟩) (blt g7)).trans g7
  have m0 := (HB34.out.cell (p := ⟨b, 0, none⟩) (blt g0)).trans g0
  have m2 := HX4.out.c2
  dsimp only at m2
  clear g0 g7 y0 y1 y2 y3 y4 y5 k1 k2 k3 k4 k5 k6
  cases tw with
  | true =>
    have hin : index ∈ hs.map (·.1) := HTW.out.1 rfl
    have HIN := Lib.hid hin
    clear hin
    go_wp2
    go_ret
    exact ⟨rfl, ⟨V, HG0.out.below HB34.out⟩, (Kept.below HB34.out).mono (fun _ _ h => h.elim)⟩
  | false =>
    have hin : ¬ index ∈ hs.map (·.1) := fun e => by have := HTW.out.2 e; cases this
    have HIN := Lib.hid hin
    clear hin
    have hnb : b ≠ bm := HG0.out.nb
    have hgb : w.heap.size ≠ bm := fun e => by have := HG0.out.map.lt; omega
    have HD4 := Lib.hid (show Kept (fun k => k = bm) w4 w4.drew from (Kept.refl (fun k => k = bm) w4).drew)
    have HBY4 := Lib.hid (show 0 < Ln → ∃ g off, pb = some ⟨g, off, none⟩ ∧ ∀ i, i < Ln → w4.cell? ⟨g, off + i, none⟩ = some (bv (l.getD i 0)) from fun h0 => by
      obtain ⟨_, _, e, hh⟩ := HBY.out.below HB34.out
      simp only [Value.slice.injEq] at e
      obtain ⟨g, off, e1, hc⟩ := hh (by rw [HLEN.out]; exact h0)
      exact ⟨g, off, e.1.trans e1, fun i hi => hc i (by rw [HLEN.out]; exact hi)⟩)
    have hw4 : base ≤ w4.heap.size := Nat.le_trans hbase HB34.out.size
    have HES := Lib.hid (show MapI w4 bm (esV (hs.map (·.1)) V) from HMP.out w4 HB34.out)
    have HNW := Lib.hid (show ∀ p ∈ esV (hs.map (·.1)) V, p.1 ≠ index from fun p hp e => by
      obtain ⟨k, hk, rfl⟩ := List.mem_map.1 hp
      exact HIN.out (e ▸ hk))
    have HEL := Lib.hid (show (esV (hs.map (·.1)) V).length < 1000000 from by rw [esV_len, List.length_map]; omega)
    go_wp2_with fail
    refine s_start 10 (fun W => Kept (fun k => k = bm) w4 W) (by as_aux_lemma => kernel_rfl) (by as_aux_lemma => kernel_rfl) HD4.out ?_
    refine s_take 0 (by as_aux_lemma => kernel_rfl) (by as_aux_lemma => kernel_rfl) (by as_aux_lemma => kernel_rfl) (by as_aux_lemma => kernel_rfl) HD4.out (fun oi ho => ?_)
    simp only [List.getElem?_toArray, List.getElem?_cons_succ, List.getElem?_cons_zero, Option.some.injEq] at ho
    subst ho
    refine ⟨?_, Or.inl ⟨by rfl, fun w _ => ?_⟩, ?_⟩
    rotate_left
    · (go_simp <;> with_reducible rfl)
    try simp only [Act.put, List.setIfInBounds_toArray, List.set_cons_zero, List.set_cons_succ]
    refine s_take 1 (by as_aux_lemma => kernel_rfl) (by as_aux_lemma => kernel_rfl) (by as_aux_lemma => kernel_rfl) (by as_aux_lemma => kernel_rfl) HD4.out (fun oi ho => ?_)
    simp only [List.getElem?_toArray, List.getElem?_cons_succ, List.getElem?_cons_zero, Option.some.injEq] at ho
    subst ho
    refine ⟨?_, Or.inl ⟨by rfl, fun w _ => ?_⟩, ?_⟩
    rotate_left
    · (go_simp <;> with_reducible rfl)
    try simp only [Act.put, List.setIfInBounds_toArray, List.set_cons_zero, List.set_cons_succ]
    refine s_take 2 (by as_aux_lemma => kernel_rfl) (by as_aux_lemma => kernel_rfl) (by as_aux_lemma => kernel_rfl) (by as_aux_lemma => kernel_rfl) HD4.out (fun oi ho => ?_)
    simp only [List.getElem?_toArray, List.getElem?_cons_succ, List.getElem?_cons_zero, Option.some.injEq] at ho
    subst ho
    refine ⟨?_, Or.inl ⟨by rfl, fun w _ => ?_⟩, ?_⟩
    rotate_left
    · (go_simp <;> with_reducible rfl)
    try simp only [Act.put, List.setIfInBounds_toArray, List.set_cons_zero, List.set_cons_succ]
    refine s_take 3 (by as_aux_lemma => kernel_rfl) (by as_aux_lemma => kernel_rfl) (by as_aux_lemma => kernel_rfl) (by as_aux_lemma => kernel_rfl) HD4.out (fun oi ho => ?_)
    simp only [List.getElem?_toArray, List.getElem?_cons_succ, List.getElem?_cons_zero, Option.some.injEq] at ho
    subst ho
    refine ⟨.map (some bm), Or.inl ⟨by rfl, fun w' hS' => ?_⟩, ?_⟩
    · have z := (hS'.cell (p := ⟨b, 0, none⟩) (blt m0) hnb).trans m0
      clear m0 m2 m7
      (go_simp <;> with_reducible rfl)
    try simp only [Act.put, List.setIfInBounds_toArray, List.set_cons_zero, List.set_cons_succ]
    refine s_take 4 (by as_aux_lemma => kernel_rfl) (by as_aux_lemma => kernel_rfl) (by as_aux_lemma => kernel_rfl) (by as_aux_lemma => kernel_rfl) HD4.out (fun oi ho => ?_)
    simp only [List.getElem?_toArray, List.getElem?_cons_succ, List.getElem?_cons_zero, Option.some.injEq] at ho
    subst ho
    refine ⟨?_, Or.inl ⟨by rfl, fun w _ => ?_⟩, ?_⟩
    rotate_left
    · (go_simp <;> with_reducible rfl)
    try simp only [Act.put, List.setIfInBounds_toArray, List.set_cons_zero, List.set_cons_succ]
    refine s_take 5 (by as_aux_lemma => kernel_rfl) (by as_aux_lemma => kernel_rfl) (by as_aux_lemma => kernel_rfl) (by as_aux_lemma => kernel_rfl) HD4.out (fun oi ho => ?_)
    simp only [List.getElem?_toArray, List.getElem?_cons_succ, List.getElem?_cons_zero, Option.some.injEq] at ho
    subst ho
    refine ⟨.int .i64 index, Or.inl ⟨by rfl, fun w' hS' => ?_⟩, ?_⟩
    · have z := (hS'.cell (p := ⟨w.heap.size, 2, none⟩) (blt m2) hgb).trans m2
      clear m0 m2 m7
      (go_simp <;> with_reducible rfl)
    try simp only [Act.put, List.setIfInBounds_toArray, List.set_cons_zero, List.set_cons_succ]
    refine s_take 7 (by as_aux_lemma => kernel_rfl) (by as_aux_lemma => kernel_rfl) (by as_aux_lemma => kernel_rfl) (by as_aux_lemma => kernel_rfl) HD4.out (fun oi ho => ?_)
    simp only [List.getElem?_toArray, List.getElem?_cons_succ, List.getElem?_cons_zero, Option.some.injEq] at ho
    subst ho
    refine ⟨?_, Or.inl ⟨by rfl, fun w _ => ?_⟩, ?_⟩
    rotate_left
    · (go_simp <;> with_reducible rfl)
    try simp only [Act.put, List.setIfInBounds_toArray, List.set_cons_zero, List.set_cons_succ]
    refine s_all (rs := [6]) (by as_aux_lemma => kernel_rfl) (by simp) ?_
    refine s_step 6 (by as_aux_lemma => kernel_rfl) (fun o ho K hK => ?_) AllReadyH.nil
    simp only [List.getElem?_toArray, List.getElem?_cons_succ, List.getElem?_cons_zero, Option.some.injEq] at ho
    subst ho
    go_simp
    refine K_name ?_
    intro w6 e6
    have HA6 := Lib.hid (show Below w4.heap.size w4 w6 from by
      rw [e6]
      exact below_more (balI w4 _) ((Kept.refl (fun _ => False) _).drew.toBelow (Nat.le_refl _) (fun _ h => h.elim)) (balI w4 _).size)
    have HO6 := Lib.hid (show Own w6 base (.slice (some ⟨w4.heap.size, 0, none⟩) 0 0) [] from by
      rw [e6]
      exact ⟨by simp, .inr ⟨w4.heap.size, 0, #[], rfl, hw4, heap_alloc_new w4 _, Nat.le_refl _, by unfold maxLen; omega, by simp, by simp⟩⟩)
    have HK6 := Lib.hid (show Kept (fun k => k = bm) w4 w6 from (Kept.below HA6.out).mono (fun _ _ h => h.elim))
    clear e6
    refine hK.out _ _ HK6.out ?_
    clear hK K
    try simp only [Act.put, List.setIfInBounds_toArray, List.set_cons_zero, List.set_cons_succ]
    refine s_all (rs := [8]) (by as_aux_lemma => kernel_rfl) (by simp) ?_
    refine s_step 8 (by as_aux_lemma => kernel_rfl) (fun o ho K hK => ?_) AllReadyH.nil
    simp only [List.getElem?_toArray, List.getElem?_cons_succ, List.getElem?_cons_zero, Option.some.injEq] at ho
    subst ho
    refine step_of_list rfl (app_own0 rfl _ _ rfl base Ln _ l HLEN.out HO6.out _ cb (fun h0 => by
      obtain ⟨g, off, e, hc⟩ := HBY4.out h0
      exact ⟨g, off, e, fun i hi => (HA6.out.cell (p := ⟨g, off + i, none⟩) (blt (hc i hi))).trans (hc i hi)⟩) rfl rfl (by omega) (Nat.le_trans hw4 HA6.out.size) ?_)
    intro p8 c8 w8 hO8 hk8 hb8
    have HO8 := Lib.hid hO8
    have HB8 := Lib.hid (show Below w4.heap.size w4 w8 from HA6.out.trans (hk8.toBelow HA6.out.size (fun k e => by have : w4.heap.size = k := own_is e; omega)))
    have HN8 := Lib.hid (show ∀ k, (Value.slice p8 Ln c8).ownBlock = some k → w4.heap.size ≤ k from fun k e => by
      have h6 := HA6.out.size
      rcases hb8 k e with q | q
      · have : w4.heap.size = k := own_is q
        omega
      · omega)
    have HK8 := Lib.hid (show Kept (fun k => k = bm) w4 w8 from (Kept.below HB8.out).mono (fun _ _ h => h.elim))
    clear hO8 hk8 hb8
    show K _ _
    refine hK.out _ _ HK8.out ?_
    clear hK K
    try simp only [Act.put, List.setIfInBounds_toArray, List.set_cons_zero, List.set_cons_succ]
    refine s_all (rs := [9]) (by as_aux_lemma => kernel_rfl) (by simp) ?_
    refine s_step 9 (by as_aux_lemma => kernel_rfl) (fun o ho K hK => ?_) AllReadyH.nil
    simp only [List.getElem?_toArray, List.getElem?_cons_succ, List.getElem?_cons_zero, Option.some.injEq] at ho
    subst ho
    refine step_putI Try.underlying75 (by rfl) _ _ _ rfl bm _ (HES.out.below HB8.out) index HI.out HNW.out (.slice p8 Ln c8) rfl rfl rfl HEL.out ?_
    intro w9 hm9 hk9
    have HM9 := Lib.hid hm9
    have HK89 := Lib.hid hk9
    have HK9 := Lib.hid (show Kept (fun k => k = bm) w4 w9 from HK8.out.trans hk9 (fun _ _ h => h))
    clear hm9 hk9
    refine hK.out _ _ HK9.out ?_
    clear hK K
    try simp only [Act.put, List.setIfInBounds_toArray, List.set_cons_zero, List.set_cons_succ]
    refine s_done (by as_aux_lemma => kernel_rfl) ?_
    skip
    have HG4 := Lib.hid (HG0.out.below HB34.out)
    have hb4 : b < w4.heap.size := HG4.out.lt
    have hm4 : bm < w4.heap.size := HG4.out.map.lt
    have hv1 : ∀ k, k ∈ hs.map (·.1) → (if k = index then Value.slice p8 Ln c8 else V k) = V k := fun k hk => if_neg (fun e => HIN.out (by rw [← e]; exact hk))
    have HFIN := Lib.hid (show GrpAt w9 base b bm H vr (insH index l hs) (fun k => if k = index then .slice p8 Ln c8 else V k) from by
      refine ⟨(HK9.out.block b hb4 hnb).trans HG4.out.blk, HG4.out.ok, HG4.out.tab.keptB HK9.out (fun k hk e => HG4.out.nr.2 (by rw [hk, e])), ?_, insH_rises HG4.out.rises (fun p hp e => HIN.out (List.mem_map.2 ⟨p, hp, e⟩)), fun p hp => ?_, fun p hp => ?_, fun p hp => ?_, hnb, HG4.out.nr, fun p hp => ?_, HG4.out.lo⟩
      · refine HM9.out.perm ?_
        have h1 : ((insH index l hs).map (·.1)).Perm (index :: hs.map (·.1)) := insH_perm.map _
        have h2 : (esV ((insH index l hs).map (·.1)) (fun k => if k = index then Value.slice p8 Ln c8 else V k)).Perm ((index, Value.slice p8 Ln c8) :: esV (hs.map (·.1)) V) := by
          have h3 := h1.map (fun k => (k, if k = index then Value.slice p8 Ln c8 else V k))
          rw [List.map_cons, if_pos rfl] at h3
          refine h3.trans ?_
          refine List.Perm.cons _ ?_
          rw [show (hs.map (·.1)).map (fun k => (k, if k = index then Value.slice p8 Ln c8 else V k)) = esV (hs.map (·.1)) V from List.map_congr_left (fun k hk => by rw [hv1 k hk])]
        exact (List.perm_append_singleton _ _).trans h2.symm
      · rcases insH_mem.1 hp with rfl | hp
        · exact HRG.out
        · exact HG4.out.rng p hp
      · rcases insH_mem.1 hp with rfl | hp
        · exact HLEN.out.trans HLN.out.symm
        · exact HG4.out.wide p hp
      · rcases insH_mem.1 hp with rfl | hp
        · simp only [if_true]
          exact HO8.out.kept HK89.out (fun k hk e => by have := HN8.out k hk; omega)
        · rw [hv1 p.1 (List.mem_map.2 ⟨p, hp, rfl⟩)]
          exact (HG4.out.vals p hp).kept HK9.out (fun k hk e => (HG4.out.nv p hp k hk).2 e)
      · rcases insH_mem.1 hp with rfl | hp
        · simp only [if_true]
          intro k hk
          have := HN8.out k hk
          exact ⟨by omega, by omega⟩
        · rw [hv1 p.1 (List.mem_map.2 ⟨p, hp, rfl⟩)]
          exact HG4.out.nv p hp)
    have HKW := Lib.hid (show Kept (fun k => k = bm) w w9 from ((Kept.below HB34.out).mono (fun _ _ h => h.elim)).trans HK9.out (fun _ _ h => h))
    clear hv1
    go_wp2
    go_ret
    exact ⟨rfl, ⟨_, HFIN.out⟩, HKW.out⟩
end
end -- GpJ

section -- TbD
open Go.RowKit Go.Maps
set_option linter.unusedVariables false
set_option linter.unusedSimpArgs false
set_option maxRecDepth 100000
set_option maxHeartbeats 4000000

/-- An entry: its group's block, its frame, its deadline. -/
abbrev Ent := Nat × Int × Int
def encO (x : Ent) : List Value := [.pointer (some ⟨x.1, 0, none⟩), .int .i64 x.2.1, .int .i64 x.2.2]
def flatO (L : List Ent) : List Value := L.flatMap encO
theorem encO_len (x : Ent) : (encO x).length = 3 := rfl
theorem flatO_cons (x : Ent) (L : List Ent) : flatO (x :: L) = encO x ++ flatO L := rfl
theorem flatO_app (L M : List Ent) : flatO (L ++ M) = flatO L ++ flatO M := List.flatMap_append
theorem flatO_len : ∀ (L : List Ent), (flatO L).length = L.length * 3
  | [] => rfl
  | x :: L => by rw [flatO_cons, List.length_append, flatO_len L, encO_len, List.length_cons]; omega
theorem flatO_take : ∀ (i : Nat) (L : List Ent), (flatO L).take (i * 3) = flatO (L.take i)
  | 0, L => by simp [flatO]
  | i + 1, [] => by simp [flatO]
  | i + 1, x :: L => by
    rw [flatO_cons, List.take_succ_cons, flatO_cons, ← flatO_take i L, show (i + 1) * 3 = (encO x).length + i * 3 by rw [encO_len]; omega, List.take_length_add_append]
theorem flatO_drop : ∀ (i : Nat) (L : List Ent), (flatO L).drop (i * 3) = flatO (L.drop i)
  | 0, L => by simp
  | i + 1, [] => by simp [flatO]
  | i + 1, x :: L => by
    rw [flatO_cons, List.drop_succ_cons, ← flatO_drop i L, show (i + 1) * 3 = (encO x).length + i * 3 by rw [encO_len]; omega, List.drop_length_add_append]
theorem flatO_one {L : List Ent} : ∀ u ∈ flatO L, u.oneCell' = true := fun u hu => by
  obtain ⟨x, _, hx⟩ := List.mem_flatMap.1 hu
  simp only [encO, List.mem_cons, List.not_mem_nil, or_false] at hx
  rcases hx with rfl | rfl | rfl <;> rfl
theorem flatO_get : ∀ {L : List Ent} {j : Nat}, j < L.length → ∀ c, c < 3 → (flatO L)[j * 3 + c]? = (encO (L.getD j (0, 0, 0)))[c]?
  | x :: L, 0, _, c, hc => by
    rw [flatO_cons, Nat.zero_mul, Nat.zero_add, List.getElem?_append_left (by rw [encO_len]; exact hc)]
    rfl
  | x :: L, j + 1, hj, c, hc => by
    rw [flatO_cons, show (j + 1) * 3 + c = (encO x).length + (j * 3 + c) by rw [encO_len]; omega, List.getElem?_append_right (by omega), Nat.add_sub_cancel_left, flatO_get (by simpa using hj) c hc]
    simp [List.getD_eq_getElem?_getD]
/-- A row of entries. -/
def EntsAt (w : World) (base : Nat) (v : Value) (L : List Ent) : Prop := w.ownsRow base 65 3 v L.length (flatO L)
section
variable {w w' : World} {base : Nat} {v : Value} {L : List Ent}
theorem EntsAt.shape (h : EntsAt w base v L) : ∃ p c, v = .slice p L.length c ∧ L.length ≤ c := by
  rcases h.2 with ⟨rfl, h0⟩ | ⟨g, cap, cur, rfl, _, _, h2, _⟩
  · exact ⟨none, 0, by rw [h0], by omega⟩
  · exact ⟨_, cap, rfl, h2⟩
theorem EntsAt.cell (h : EntsAt w base v L) {j : Nat} (hj : j < L.length) : ∃ g c, v = .slice (some ⟨g, 0, none⟩) L.length c ∧ w.cell? ⟨g, 0 + j * 3, none⟩ = some (.pointer (some ⟨(L.getD j (0, 0, 0)).1, 0, none⟩)) ∧ w.cell? ⟨g, 0 + j * 3 + 1, none⟩ = some (.int .i64 (L.getD j (0, 0, 0)).2.1) ∧ w.cell? ⟨g, 0 + j * 3 + 2, none⟩ = some (.int .i64 (L.getD j (0, 0, 0)).2.2) := by
  rcases h.2 with ⟨rfl, h0⟩ | ⟨g, cap, cur, rfl, _, hg, _, _, _, ht⟩
  · omega
  · have e : ∀ c, c < 3 → w.cell? ⟨g, 0 + j * 3 + c, none⟩ = (encO (L.getD j (0, 0, 0)))[c]? := fun c hc => by
      rw [cell_of hg, Nat.zero_add, ← flatO_get hj c hc, ← ht, List.getElem?_take, if_pos (by omega), Array.getElem?_toList]
    exact ⟨g, cap, rfl, e 0 (by omega), e 1 (by omega), e 2 (by omega)⟩
theorem EntsAt.lt (h : EntsAt w base v L) : ∀ k, v.ownBlock = some k → base ≤ k ∧ k < w.heap.size := World.ownsRow.lt h
theorem EntsAt.keptS {S : Nat → Prop} (h : EntsAt w base v L) (hk : Kept S w w') (hS : ∀ k, v.ownBlock = some k → ¬ S k) : EntsAt w' base v L := ownsRow_keptS h hk hS
theorem EntsAt.below (h : EntsAt w base v L) (hB : Below w.heap.size w w') : EntsAt w' base v L := ownsRow_keptS h (Kept.below hB) (fun _ _ h => h)
theorem EntsAt.nil (w : World) (base : Nat) : EntsAt w base (.slice none 0 0) [] := World.ownsRow_nil _ _ _ _
end

/-- A function that tells of each entry whether something is so, and leaves all as it was. -/
def TellsO (g : Nat) (lb : Array Value) (p : Ent → Bool) (w : World) : Prop := ∀ (W : World) (x : Ent), Below w.heap.size w W → Calls Try.prog g (#[.agg #[.pointer (some ⟨x.1, 0, none⟩), .int .i64 x.2.1, .int .i64 x.2.2]] ++ lb) W fun e w' => e = .returned (.bool (p x)) ∧ Below W.heap.size W w'
theorem TellsO.below {g : Nat} {lb : Array Value} {p : Ent → Bool} {w w' : World} (h : TellsO g lb p w) (hB : Below w.heap.size w w') : TellsO g lb p w' := fun W x hW => h W x (below_more hB hW hB.size)
theorem of1_tells (w : World) (bx : Nat) (f : Int) (hb : w.cell? ⟨bx, 0, none⟩ = some (.int .i64 f)) : TellsO 54 #[.pointer (some ⟨bx, 0, none⟩)] (fun x => decide (x.2.1 = f)) w := fun W x hW => by
  have hB := balT W (.cells #[.pointer (some ⟨x.1, 0, none⟩), .int .i64 x.2.1, .int .i64 x.2.2] 65)
  have hb1 := (hW.cell (p := ⟨bx, 0, none⟩) (blt hb)).trans hb
  have hb2 := (hB.cell (p := ⟨bx, 0, none⟩) (blt hb1)).trans hb1
  have HB := Lib.hid hB
  obtain ⟨g, xf, xd⟩ := x
  clear hB hb hW hb1
  show Calls Try.prog _ #[.agg #[.pointer (some ⟨g, 0, none⟩), .int .i64 xf, .int .i64 xd], .pointer (some ⟨bx, 0, none⟩)] W _
  by_cases e : xf = f
  · subst e
    go_enter Try.func54, Try.ntmps54
    go_wp2
    go_ret
    exact ⟨by simp, HB.out⟩
  · have e1 : (xf == f) = false := by simpa using e
    go_enter Try.func54, Try.ntmps54
    go_wp2
    go_ret
    exact ⟨by simp [e], HB.out⟩
theorem but1_tells (w : World) (bx : Nat) (f : Int) (hb : w.cell? ⟨bx, 0, none⟩ = some (.int .i64 f)) : TellsO 50 #[.pointer (some ⟨bx, 0, none⟩)] (fun x => decide (x.2.1 ≠ f)) w := fun W x hW => by
  have hB := balT W (.cells #[.pointer (some ⟨x.1, 0, none⟩), .int .i64 x.2.1, .int .i64 x.2.2] 65)
  have hb1 := (hW.cell (p := ⟨bx, 0, none⟩) (blt hb)).trans hb
  have hb2 := (hB.cell (p := ⟨bx, 0, none⟩) (blt hb1)).trans hb1
  have HB := Lib.hid hB
  obtain ⟨g, xf, xd⟩ := x
  clear hB hb hW hb1
  show Calls Try.prog _ #[.agg #[.pointer (some ⟨g, 0, none⟩), .int .i64 xf, .int .i64 xd], .pointer (some ⟨bx, 0, none⟩)] W _
  by_cases e : xf = f
  · subst e
    go_enter Try.func50, Try.ntmps50
    go_wp2
    go_ret
    exact ⟨by simp, HB.out⟩
  · have e1 : (xf == f) = false := by simpa using e
    go_enter Try.func50, Try.ntmps50
    go_wp2
    go_ret
    exact ⟨by simp [e], HB.out⟩
theorem exp1_tells (w : World) (bx : Nat) (now : Int) (hb : w.cell? ⟨bx, 0, none⟩ = some (.int .i64 now)) : TellsO 27 #[.pointer (some ⟨bx, 0, none⟩)] (fun x => decide (x.2.2 ≤ now)) w := fun W x hW => by
  have hB := balT W (.cells #[.pointer (some ⟨x.1, 0, none⟩), .int .i64 x.2.1, .int .i64 x.2.2] 65)
  have hb1 := (hW.cell (p := ⟨bx, 0, none⟩) (blt hb)).trans hb
  have hb2 := (hB.cell (p := ⟨bx, 0, none⟩) (blt hb1)).trans hb1
  have HB := Lib.hid hB
  obtain ⟨g, xf, xd⟩ := x
  clear hB hb hW hb1
  show Calls Try.prog _ #[.agg #[.pointer (some ⟨g, 0, none⟩), .int .i64 xf, .int .i64 xd], .pointer (some ⟨bx, 0, none⟩)] W _
  go_enter Try.func27, Try.ntmps27
  go_wp2
  go_ret
  exact ⟨rfl, HB.out⟩

/-- Where the first one is; below 0: there is none. -/
def idxO (p : Ent → Bool) (L : List Ent) : Int := if L.findIdx p < L.length then ((L.findIdx p : Nat) : Int) else -1
theorem getD_at {L : List Ent} {k : Nat} (h : k < L.length) : L.getD k (0, 0, 0) = L[k] := by simp [List.getD_eq_getElem?_getD, h]
theorem idxO_hit {p : Ent → Bool} {L : List Ent} {k : Nat} (hk : k < L.length) (h0 : ∀ j, j < k → p (L.getD j (0, 0, 0)) = false) (h1 : p (L.getD k (0, 0, 0)) = true) : idxO p L = (k : Int) := by
  have : L.findIdx p = k := by
    rw [List.findIdx_eq hk]
    refine ⟨by rw [← getD_at hk]; exact h1, fun j hj => ?_⟩
    rw [← getD_at (by omega)]
    exact h0 j hj
  unfold idxO
  rw [this, if_pos hk]
theorem idxO_none {p : Ent → Bool} {L : List Ent} (h0 : ∀ j, j < L.length → p (L.getD j (0, 0, 0)) = false) : idxO p L = -1 := by
  unfold idxO
  rw [if_neg]
  intro h
  have := List.findIdx_getElem (w := h)
  rw [← getD_at h, h0 _ h] at this
  cases this

theorem indexO_any (w : World) (base : Nat) (v : Value) (L : List Ent) (ho : EntsAt w base v L) (hlen : L.length ≤ 1000000) (p : Ent → Bool) (pf : Nat) (lb : Array Value) (eg : ∀ args w, (callFunc pf args).run Try.prog w = .ok (.enter pf args) w) (hp : TellsO pf lb p w) :
    Calls Try.prog 49 #[v, .func (.func pf) #[] lb] w fun e w' => e = .returned (.int .i64 (idxO p L)) ∧ Below w.heap.size w w' := by
  obtain ⟨pv, cap, rfl, hcap⟩ := ho.shape
  have HO := Lib.hid ho
  have HP := Lib.hid hp
  obtain ⟨M, hM⟩ : ∃ M, L.length = M := ⟨_, rfl⟩
  have HM := Lib.hid hM
  rw [hM] at HO hcap hlen ⊢
  clear ho hp hM
  go_enter Try.func49, Try.ntmps49
  go_wp2
  go_loopw [5, 8] (fun _ i wr => ∃ k : Nat, k ≤ M ∧ i = .int .i64 (k : Int) ∧ (∀ j, j < k → p (L.getD j (0, 0, 0)) = false) ∧ Below w.heap.size w wr) (fun _ i _ => M - (intOf i).toNat)
  case atStart => exact ⟨0, Nat.zero_le _, rfl, fun j h => absurd h (by omega), Below.refl _ _⟩
  case round =>
    obtain ⟨wo, rfl⟩ : ∃ wo, wo = wr := ⟨_, rfl⟩
    obtain ⟨k, hk, rfl, hno, hB⟩ := hrel
    have HN := Lib.hid hno
    have HB := Lib.hid hB
    clear hno
    by_cases hlt : k < M
    · obtain ⟨g, c, ev, d0, d1, d2⟩ := (HO.out.below hB).cell (j := k) (by rw [HM.out]; exact hlt)
      obtain ⟨rfl, -, -⟩ := Value.slice.inj ev
      have HR := Lib.hid (HP.out wo (L.getD k (0, 0, 0)) hB)
      obtain ⟨⟨xg, xf, xd⟩, hx⟩ : ∃ x, L.getD k (0, 0, 0) = x := ⟨_, rfl⟩
      have HX := Lib.hid hx
      rw [hx] at d0 d1 d2 HR
      clear hx hB ev
      dsimp only at d0 d1 d2
      rw [Nat.zero_add] at d0 d1 d2
      cases hpx : p (xg, xf, xd) with
      | true =>
        rw [hpx] at HR
        have HE := Lib.hid (idxO_hit (p := p) (L := L) (k := k) (by rw [HM.out]; exact hlt) HN.out (by rw [HX.out]; exact hpx))
        clear hpx
        go_wp2_with fail
        refine HR.out.mono ?_
        rintro e w3 ⟨rfl, hB3⟩
        have HB3 := Lib.hid (below_more HB.out hB3 HB.out.size)
        clear hB3
        go_wp2
        go_ret
        exact ⟨by rw [HE.out]; rfl, HB3.out⟩
      | false =>
        rw [hpx] at HR
        have HE := Lib.hid (show p (L.getD k (0, 0, 0)) = false by rw [HX.out]; exact hpx)
        clear hpx
        go_wp2_with fail
        refine HR.out.mono ?_
        rintro e w3 ⟨rfl, hB3⟩
        have HB3 := Lib.hid (below_more HB.out hB3 HB.out.size)
        clear hB3
        go_wp2
        go_roundw
        case rel =>
          refine ⟨k + 1, by omega, by go_num, fun j hj => ?_, HB3.out⟩
          by_cases q : j = k
          · subst q; exact HE.out
          · exact HN.out j (by omega)
        case measure => simp [intOf]; omega
    · obtain rfl : k = M := by omega
      have HE := Lib.hid (idxO_none (p := p) (L := L) (fun j hj => HN.out j (by rw [HM.out] at hj; exact hj)))
      clear hB
      go_wp2
      go_ret
      exact ⟨by rw [HE.out]; rfl, HB.out⟩
end -- TbD

end Go.Proofs.Ytibelpamolcmcaa
