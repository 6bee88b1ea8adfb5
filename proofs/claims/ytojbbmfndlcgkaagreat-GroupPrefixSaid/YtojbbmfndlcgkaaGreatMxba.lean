/-
  LayM: Layer 9, walks: Cut.
  LayU: Rows of bytes that are their own, but perhaps cut behind their last byte.
  RefA: Polynomials as the reference makes them (plain): what each step does to the value.
-/
import Derived.Test.YtojbbmfndlcgkaaGreatMxaz
import Derived.Test.YtojbbmfndlcgkaaGreatMxar
import Derived.Test.YtojbbmfndlcgkaaGreatMxad
namespace Go.Proofs.YtojbbmfndlcgkaaGreat

section -- LayM
open Go.RowKit Go.Maps Go.Shelf

attribute [local go_sem] Oper.semAt_some
set_option linter.unusedVariables false
set_option linter.unusedSimpArgs false
set_option maxRecDepth 100000
set_option maxHeartbeats 2000000

theorem sstripes_stops (m : Nat) (hm1 : 1 ≤ m) (Ba Bk g wd k c : Nat) (hk1 : 1 ≤ k) (hk2 : k ≤ 255) (hwd : wd ≤ 65535) (hc : k * wd ≤ c) (w : World) (S : Nat → Prop) (hSa : ¬ S Ba) (hSk : ¬ S Bk) (hba : Boxed w Ba 39 (.slice (some ⟨g, 0, none⟩) (k * wd) c)) (hbk : Boxed w Bk 3 (.int .i64 (k : Int))) :
    SeqStopsK Fence.wide m Tryz.prog 58 #[.pointer (some ⟨Ba, 0, none⟩), .pointer (some ⟨Bk, 0, none⟩)] (encR g wd) (KC S) (fun ss => ss = List.range k) (fun _ => True) k w := fun l J Jx W hW _ _ hY h0 =>
  sstripes1_in m hm1 l Ba Bk g wd k c hk1 hk2 hwd hc w S hSa hSk hba hbk J Jx hY W (KC.below hW) h0
theorem heap_own {β : Type} (g : Nat) (C : Array Value) (t : TypeId) (f : Nat × Nat) : Go.Own (fun (_ : β) (W : World) => W.heap[g]? = some (.cells C t f)) := fun s X Y row hs hg hrow =>
  (hg.block g (Array.getElem?_eq_some_iff.1 hs).1 (fun e => by obtain ⟨o, ho, hc⟩ := hrow g e.symm; rw [hs] at ho; cases ho; cases hc)).trans hs
theorem ownFrom_size {β : Type} (B c : Nat) : OwnFrom B (fun (_ : β) (W : World) => c ≤ W.heap.size) := fun _ X Y row hs hg _ => Nat.le_trans hs hg.size
theorem infoRs : (Tryz.prog.info? 39).map (fun i => (i.zero, i.size, i.bytes)) = some (some (.slice none 0 0), 1, 24) := infoR

/-- A layer, with noughts behind. -/
def padL (b : List B) (N : Nat) : List B := b ++ (List.replicate N 0).drop b.length
theorem padL_len {b : List B} {N : Nat} (h : b.length ≤ N) : (padL b N).length = N := by simp [padL]; omega
theorem padL_get (b : List B) (N i : Nat) : (padL b N).getD i 0 = b.getD i 0 := by
  unfold padL
  rw [List.getD_eq_getElem?_getD, List.getD_eq_getElem?_getD]
  by_cases h : i < b.length
  · rw [List.getElem?_append_left h]
  · rw [List.getElem?_append_right (by omega), List.getElem?_eq_none (l := b) (by omega)]
    simp only [List.drop_replicate, Option.getD_none]
    rw [List.getElem?_replicate]
    split <;> rfl
/-- The rows of a layer's block. -/
theorem cut_rows {w : World} {base g wd k : Nat} {b : List B} {v : Value} (h : w.ownsRow base 39 1 v k ((List.range k).map (rowV g wd))) (hg : RowF w g (padL b (k * wd))) (hb : b.length ≤ k * wd) : RowsAt w v (cutL b k wd) := by
  refine RowsAt.of_owns (by rw [cutL_len]; exact h) (fun i u hi => ?_)
  have hik : i < k := by
    have := (List.getElem?_eq_some_iff.1 hi).1
    simpa using this
  have e : u = rowV g wd i := by simpa [hik] using hi.symm
  subst e
  rw [cutL_get hik]
  have hl : (rowL wd fun c => b.getD (i * wd + c) 0).length = wd := rowL_len _ _
  refine ⟨_, wd, by rw [hl]; rfl, fun h0 => ⟨g, i * wd, rfl, fun j hj => ?_⟩⟩
  rw [hl] at hj
  have hlt : i * wd + j < k * wd := by
    have : i * wd + wd ≤ k * wd := by rw [← Nat.succ_mul]; exact Nat.mul_le_mul_right _ hik
    omega
  have hc := hg.toW.cell (i := i * wd + j) (by rw [padL_len hb]; exact hlt)
  rw [hc, padL_get, rowL_get _ hj]

theorem cut_any (w : World) (vb : Value) (b : List B) (k : Nat) (hb : BytesAt w vb b) (h1 : 1 ≤ k) (h2 : k ≤ 255) (hl : b.length ≤ 65535) :
    Calls Tryz.prog 30 #[vb, .int .i64 (k : Int)] w fun e w' => ∃ v, e = .returned (.tuple #[v, .int .i64 0]) ∧ RowsAt w' v (cutL b k (wdN b.length k)) ∧ Below w.heap.size w w' := by
  obtain ⟨i0, hi, hz0, hz1, hz2⟩ := info_parts infoRs
  have hwl := wdN_le (long := b.length) h1
  have hge := wdN_ge (long := b.length) h1
  have HB := Lib.hid hb
  obtain ⟨pb, cb, rfl, hbb⟩ := hb
  have HBB := Lib.hid hbb
  have HW := Lib.hid (fun W => width_any W b.length k hl h1 h2)
  obtain ⟨L, hL⟩ : ∃ L, b.length = L := ⟨_, rfl⟩
  have HL := Lib.hid hL
  rw [hL] at HBB HW hl hwl hge ⊢
  obtain ⟨wd, hwd⟩ : ∃ wd, wdN L k = wd := ⟨_, rfl⟩
  rw [hwd] at HW hwl hge ⊢
  have hN : wd * k ≤ 65535 * 255 := Nat.mul_le_mul (by omega) h2
  obtain ⟨N, hNN⟩ : ∃ N, wd * k = N := ⟨_, rfl⟩
  have HN := Lib.hid hNN
  have hmul : (wd : Int) * (k : Int) = (N : Int) := by rw [← hNN, Int.natCast_mul]
  have hmw : IntKind.i64.wrap ((wd : Int) * (k : Int)) = (N : Int) := by rw [hmul]; rw [hNN] at hN; exact IntWalk.i64_in _ (by omega)
  rw [hNN] at hN hge
  have HX0 := Lib.hid (Boxed.new w 22 (.slice none 0 0))
  have HB1 := Lib.hid (balT w (.cells #[.slice none 0 0] 22))
  have hs1 : (w.alloc (.cells #[.slice none 0 0] 22)).heap.size = w.heap.size + 1 := by simp
  have hmk := run_make_one (w := w.alloc (.cells #[.slice none 0 0] 22)) 39 5 (.int .u8 0) 1 Tryz.underlying39 infoB rfl (by omega) N (by omega)
  have hz4 := RowF.made (w.alloc (.cells #[.slice none 0 0] 22)) N
  have hB2 : Below w.heap.size w ((w.alloc (.cells #[.slice none 0 0] 22)).alloc (.cells (Array.replicate N (.int .u8 0)) 5)) := HB1.out.alloc (by rw [hs1]; omega) _
  rw [hs1] at hz4 hmk
  obtain ⟨w5, hr5, hf5, k5⟩ := run_copy_part (c := N) (p := pb) (cu := cb) hz4 (by simp) HL.out hge (fun h => by
    obtain ⟨gs, os, e, hcs⟩ := HBB.out h
    exact ⟨gs, os, e, fun i hi => (hB2.cell (p := ⟨gs, os + i, none⟩) (blt (hcs i hi))).trans (hcs i hi)⟩)
  have HF5 := Lib.hid (show RowF w5 (w.heap.size + 1) (padL b N) from by unfold padL; rw [HL.out]; exact hf5)
  have hx5 := (KC.kept k5).boxed (B := w.heap.size) (by omega) (HX0.out.alloc (.cells (Array.replicate N (.int .u8 0)) 5))
  have HX5 := Lib.hid hx5
  have s2 : ((w.alloc (.cells #[.slice none 0 0] 22)).alloc (.cells (Array.replicate N (.int .u8 0)) 5)).heap.size = w.heap.size + 2 := by simp
  have HS5 := Lib.hid (show w.heap.size + 2 ≤ w5.heap.size from by have := k5.size; omega)
  have HB5 := Lib.hid (show Below w.heap.size w w5 from hB2.trans (k5.toBelow (by omega) (fun i h => by omega)))
  clear hL hwd hNN hbb hmul hB2 hf5 k5 hx5 hz4
  refine (callsIn_wide (n := 8)).1 ?_
  have h1' : 1 ≤ 8 := by omega
  have hf31 : Fence.wide.fn 44 := trivial
  have hf40 : Fence.wide.fn 45 := trivial
  refine callsIn_of_wp_marks Tryz.func30 rfl trivial ?_ rfl
  simp only [Tryz.ntmps30, List.size_toArray, List.length_cons, List.length_nil, Nat.reduceAdd, Nat.reduceSub, Array.replicate_succ, Array.replicate_zero, List.push_toArray, List.append_toArray, List.nil_append, List.cons_append]
  gi_wp2_with (gi_at_call 44; refine (callsIn_wide.2 (HW.out _)).mono ?_; rintro e w' ⟨rfl, rfl⟩)
  gi_wp2_with (gi_at_call 45; refine (sstripes_in _ _ _ _ _ _).mono ?_; rintro e w6 ⟨rfl, rfl⟩)
  have hkN : k * wd = N := by rw [Nat.mul_comm]; exact HN.out
  have hs5 := HS5.out
  have hba := (Boxed.new w5 39 (.slice (some ⟨w.heap.size + 1, 0, none⟩) N N)).alloc (.cells #[.int .i64 (k : Int)] 3)
  have hbk := Boxed.new (w5.alloc (.cells #[.slice (some ⟨w.heap.size + 1, 0, none⟩) N N] 39)) 3 (.int .i64 (k : Int))
  have hx6 := (HX5.out.alloc (.cells #[.slice (some ⟨w.heap.size + 1, 0, none⟩) N N] 39)).alloc (.cells #[.int .i64 (k : Int)] 3)
  have hB6 : Below w.heap.size w ((w5.alloc (.cells #[.slice (some ⟨w.heap.size + 1, 0, none⟩) N N] 39)).alloc (.cells #[.int .i64 (k : Int)] 3)) := (HB5.out.alloc (by omega) _).alloc (by simp; omega) _
  have hf6 := ((KC.alloc (fun _ => False) w5 (.cells #[.slice (some ⟨w.heap.size + 1, 0, none⟩) N N] 39)).trans (KC.alloc (fun _ => False) _ (.cells #[.int .i64 (k : Int)] 3))).same _ _ _ _ (fun h => h) HF5.out
  obtain ⟨w6, hw6⟩ : ∃ x, (w5.alloc (.cells #[.slice (some ⟨w.heap.size + 1, 0, none⟩) N N] 39)).alloc (.cells #[.int .i64 (k : Int)] 3) = x := ⟨_, rfl⟩
  have hs6 : w6.heap.size = w5.heap.size + 2 := by rw [← hw6]; simp
  rw [World.size_alloc] at hbk
  rw [hw6] at hba hbk hx6 hB6 hf6
  rw [hw6]
  clear hw6
  obtain ⟨Ba, hBa⟩ : ∃ x, w5.heap.size = x := ⟨_, rfl⟩
  rw [hBa] at hba hbk hs6 hs5
  rw [hBa]
  obtain ⟨Cg, hCg⟩ : ∃ x, ((padL b N).map bv).toArray = x := ⟨_, rfl⟩
  rw [hCg] at hf6
  refine wpIn_rangeFunc_ownG rfl h1' (gf := 58) (lb := #[.pointer (some ⟨Ba, 0, none⟩), .pointer (some ⟨Ba + 1, 0, none⟩)]) rfl trivial (enters_of Tryz.func58 (by kernel_rfl) rfl)
    (sstripes_stops (8 - 1) (by omega) Ba (Ba + 1) (w.heap.size + 1) wd k N h1 h2 (by omega) (by omega) w6 (fun j => w.heap.size ≤ j ∧ j ≠ w.heap.size + 1 ∧ j ≠ Ba ∧ j ≠ Ba + 1) (by omega) (by omega) (by rw [hkN]; exact hba) hbk) kc_t kc_b (Below.refl _ _) (fun _ => rfl)
    (fun pre W => (∃ v, Boxed W w.heap.size 22 v ∧ W.ownsRow w.heap.size 39 1 v pre.length (pre.map (rowV (w.heap.size + 1) wd)) ∧ (v.ownBlock ≠ some (w.heap.size + 1) ∧ v.ownBlock ≠ some Ba ∧ v.ownBlock ≠ some (Ba + 1))) ∧ (W.heap[w.heap.size + 1]? = some (.cells Cg 5 (0, 0)) ∧ (Ba + 2 ≤ W.heap.size ∧ Below w.heap.size w W)))
    (fun _ _ _ => False)
    (OwnFrom.and (Own.from (holdsRow_own w.heap.size w.heap.size 22 39 1 (fun pre : List Nat => pre.length) (fun pre => pre.map (rowV (w.heap.size + 1) wd)) (fun _ v => v.ownBlock ≠ some (w.heap.size + 1) ∧ v.ownBlock ≠ some Ba ∧ v.ownBlock ≠ some (Ba + 1))) _) (OwnFrom.and (Own.from (heap_own _ _ _ _) _) (OwnFrom.and (ownFrom_size _ _) (ownFrom_below (Nat.le_refl _) (by omega)))))
    (fun _ _ _ _ _ hs _ _ => hs)
    ⟨⟨_, hx6, World.ownsRow_nil _ _ _ _, by simp [Value.ownBlock]⟩, hf6, by omega, hB6⟩
    (fun x => { tmps := #[.slice pb L cb, .int .i64 (k : Int), undef, undef, .pointer (some ⟨w.heap.size, 0, none⟩), .int .i64 0, .int .i64 (wd : Int), .slice (some ⟨w.heap.size + 1, 0, none⟩) N N, .slice (some ⟨w.heap.size + 1, x * wd, none⟩) wd wd, .tuple #[.int .i64 (wd : Int), .int .i64 0], .slice pb L cb, .int .i64 (L : Int), .int .i64 (k : Int), .tuple #[.int .i64 (wd : Int), .int .i64 0], .int .i64 (wd : Int), .int .i64 0, .int .i64 0, .bool false, undef, .int .i64 (wd : Int), .int .i64 (k : Int), .int .i64 (N : Int), .slice (some ⟨w.heap.size + 1, 0, none⟩) N N, .slice (some ⟨w.heap.size + 1, 0, none⟩) N N, .slice pb L cb, .int .i64 (L : Int), .slice (some ⟨w.heap.size + 1, 0, none⟩) N N, .int .i64 (k : Int), .func (.func 58) #[] #[.pointer (some ⟨Ba, 0, none⟩), .pointer (some ⟨Ba + 1, 0, none⟩)], .slice (some ⟨w.heap.size + 1, x * wd, none⟩) wd wd, undef, undef, undef, undef, undef], defers := [] }) ?assign ?body ?done ?stop
  case assign =>
    intro l x W K hK
    gi_wp2
    exact hK
  case body =>
    rintro l pre x W ⟨⟨v, hv, hrow, hG1, hG2, hG3⟩, hg, hsz, hB⟩ hlt
    have hc := hv.cell
    have HGR := Lib.hid (show ∀ j, v.ownBlock = some j → w.heap.size ≤ j ∧ j ≠ w.heap.size + 1 ∧ j ≠ Ba ∧ j ≠ Ba + 1 from fun j ej => ⟨(hrow.lt j ej).1, fun e => hG1 (by rw [ej, e]), fun e => hG2 (by rw [ej, e]), fun e => hG3 (by rw [ej, e])⟩)
    gi_wp2_with (gi_at_builtin; refine wpListIn_append_own_at _ rfl _ _ 22 rfl w.heap.size 39 i0 (.slice none 0 0) 1 24 Tryz.underlying22 hi hz0 hz1 hz2 rfl (by decide) _ _ _ rfl (hrow.alloc _) ⟨W.heap.size, 0, none⟩ 1 1 [.slice (some ⟨w.heap.size + 1, x * wd, none⟩) wd wd] rfl rfl (cell_one_new _ _ _) (by simp [Value.oneCell']) (by unfold maxLen; omega) (by omega) (by have := hB.size; simp; omega) ?_; intro v' w1 hown' hgrow _ hwh; obtain ⟨g', cap', rfl⟩ := ownsRow_succ hown'; obtain ⟨hv1, hv2, hr2, hk2, hb2⟩ := hv.appended (by decide) hrow hB.size (Nat.le_refl _) hown' hgrow; have hc1 := hv1.cell; have hf1 := hv1.frozen)
    have hkc : KC (fun j => w.heap.size ≤ j ∧ j ≠ w.heap.size + 1 ∧ j ≠ Ba ∧ j ≠ Ba + 1) W (w1.setCell ⟨w.heap.size, 0, none⟩ (.slice (some ⟨g', 0, none⟩) (pre.length + 1) cap')) := ((KC.alloc _ W _).trans (KC.grown hgrow (fun j ej => HGR.out j ej))).trans (KC.grown (grownBy_setCell' w1 w.heap.size _) (fun j e => by cases e; exact ⟨Nat.le_refl _, by omega, by omega, by omega⟩))
    refine ⟨hk2.from _, hkc, ⟨_, hv2, by simpa [rowV] using hr2, ?_⟩, hkc.same _ _ _ _ (by omega) hg, Nat.le_trans hsz hkc.size, hB.trans hb2⟩
    rcases hwh with e | e
    · rw [e]; exact ⟨hG1, hG2, hG3⟩
    · rw [e, World.size_alloc]
      refine ⟨fun q => ?_, fun q => ?_, fun q => ?_⟩ <;> · have := Option.some.inj q; omega
  case done =>
    rintro D ys W hD rfl ⟨⟨v, hv, hrow, hG1, hG2, hG3⟩, hg, hsz, hB⟩ hK
    have hex : ∃ a ln cp, v = .slice a ln cp := by
      rcases hrow.2 with ⟨h, _⟩ | ⟨g, cap, cur, h, _⟩ <;> exact ⟨_, _, _, h⟩
    obtain ⟨a, ln, cp, hvs⟩ := hex
    have hc := hv.cell
    have hf := hv.frozen
    rw [hvs] at hc
    have HV := Lib.hid hvs
    clear hvs
    gi_wp2
    rw [← HV.out]
    have hK' : (W.setCell ⟨w.heap.size, 0, none⟩ v).heap[D]? = some (.deferred (some [])) := (KeepsOthers.setCell W ⟨w.heap.size, 0, none⟩ v).same D _ hK rfl
    refine ⟨by simp, .inl ⟨_, _, rfl, run_takeDeferred hK', ?_⟩⟩
    have hv2 := hv.set v
    have hc5 := cell_kept hv2.cell (grownBy_putObj' _ D (.deferred none)) (fun r e => by cases e; exact ⟨_, hK', rfl⟩)
    have hr2 : (W.setCell ⟨w.heap.size, 0, none⟩ v).ownsRow w.heap.size 39 1 v (List.range k).length ((List.range k).map (rowV (w.heap.size + 1) wd)) := hrow.kept (grownBy_setCell' W w.heap.size v) (.inr (hv.not_row (by decide) hrow).symm)
    have hr3 := ownsRow_putObj hr2 (.deferred none) hK' rfl
    have hkc : KC (fun j => j = w.heap.size) W ((W.setCell ⟨w.heap.size, 0, none⟩ v).putObj D (.deferred none)) := (KC.grown (grownBy_setCell' W w.heap.size v) (fun j e => by cases e; rfl)).trans (kc_b (w := w) _ D _ _ (by omega) hK' rfl rfl)
    have hg3 := hkc.same _ _ _ _ (by omega) hg
    refine ⟨.tuple #[v, .int .i64 0], ?_, v, rfl, ?_, ?_⟩
    · rw [HV.out] at hc5 ⊢
      simp [results, Tryz.f30, go_sem, hc5]
    · rw [List.length_range] at hr3
      exact cut_rows hr3 (by rw [hkN]; unfold RowF; rw [hCg]; exact hg3) (by rw [hkN, HL.out]; exact hge)
    · exact (hB.setCell (p := ⟨w.heap.size, 0, none⟩) (Nat.le_refl _) v).trans (belowK_b (w := w) (Nat.le_refl _) _ D _ _ (by omega) hK' rfl rfl)
  case stop =>
    rintro D c pre W _ _ h _
    exact h.elim
end -- LayM

section -- LayU
open Go.RowKit Go.Maps
set_option linter.unusedVariables false
set_option maxRecDepth 100000

/-- Cut behind its last byte. -/
def CutAt (w : World) (base : Nat) (v : Value) (l : List B) : Prop := ∃ g, v = .slice (some ⟨g, 0, none⟩) l.length l.length ∧ base ≤ g ∧ 0 < l.length ∧ RowW w g l
/-- A row of its own: with its spare room, or cut. -/
def OwnL (w : World) (base : Nat) (v : Value) (l : List B) : Prop := Own w base v l ∨ CutAt w base v l
section
variable {w w' : World} {base : Nat} {v : Value} {l : List B}
theorem OwnL.bytes (h : OwnL w base v l) : BytesAt w v l := by
  rcases h with h | ⟨g, rfl, _, _, h⟩
  · exact h.bytes
  · exact h.toBytes _
theorem OwnL.kept {S : Nat → Prop} (h : OwnL w base v l) (hk : Kept S w w') (hS : ∀ b, v.ownBlock = some b → ¬ S b) : OwnL w' base v l := by
  rcases h with h | ⟨g, rfl, h1, h2, h3⟩
  · exact .inl (h.kept hk hS)
  · exact .inr ⟨g, rfl, h1, h2, h3.kept hk (hS g rfl)⟩
theorem OwnL.below (h : OwnL w base v l) (hb : Below w.heap.size w w') : OwnL w' base v l := h.kept (Kept.below hb) (fun _ _ h => h)
theorem OwnL.blk (h : OwnL w base v l) : ∀ b, v.ownBlock = some b → base ≤ b ∧ b < w.heap.size := by
  rcases h with h | ⟨g, rfl, h1, h2, h3⟩
  · exact h.blk
  · intro b hb
    have := own_is hb
    subst this
    exact ⟨h1, h3.lt⟩
theorem OwnL.weaken {base' : Nat} (h : OwnL w base v l) (hb : base' ≤ base) : OwnL w base' v l := by
  rcases h with h | ⟨g, rfl, h1, h2, h3⟩
  · exact .inl (h.weaken hb)
  · exact .inr ⟨g, rfl, by omega, h2, h3⟩
end

/-- Rows that are owned, each one in a block that is no other's. -/
def RowsCut (w : World) (base : Nat) (v : Value) (ls : List (List B)) : Prop := ∃ us, w.ownsRow base 39 1 v ls.length us ∧
  (∀ i u, us[i]? = some u → OwnL w base u (ls.getD i []) ∧ ∀ b, u.ownBlock = some b → v.ownBlock ≠ some b) ∧
  ∀ (i j : Nat) (u z : Value) (b : Nat), us[i]? = some u → us[j]? = some z → u.ownBlock = some b → z.ownBlock = some b → i = j

section
variable {w w' : World} {base : Nat} {v : Value} {ls : List (List B)}
theorem RowsCut.nil (w : World) (base : Nat) : RowsCut w base (.slice none 0 0) [] := ⟨[], World.ownsRow_nil _ _ _ _, fun i u h => by simp at h, fun i j u z b h => by simp at h⟩
theorem RowsCut.own (h : RowsCut w base v ls) : RowsOwn w base v ls := by
  obtain ⟨us, h1, h2, h3⟩ := h
  exact ⟨us, h1, fun i u hi => ⟨(h2 i u hi).1.bytes, fun b hb => ⟨((h2 i u hi).1.blk b hb).2, (h2 i u hi).2 b hb⟩⟩⟩
theorem RowsCut.rows (h : RowsCut w base v ls) : RowsAt w v ls := h.own.rows
theorem RowsCut.lt (h : RowsCut w base v ls) : ∀ k, v.ownBlock = some k → base ≤ k ∧ k < w.heap.size := h.own.lt
theorem RowsCut.kept {S : Nat → Prop} (h : RowsCut w base v ls) (hk : Kept S w w') (hS : ∀ k, k < w.heap.size → base ≤ k → ¬ S k) : RowsCut w' base v ls := by
  obtain ⟨us, h1, h2, h3⟩ := h
  exact ⟨us, ownsRow_keptS h1 hk (fun g hg => hS g (h1.lt g hg).2 (h1.lt g hg).1), fun i u hi => ⟨(h2 i u hi).1.kept hk (fun b hb => hS b ((h2 i u hi).1.blk b hb).2 ((h2 i u hi).1.blk b hb).1), (h2 i u hi).2⟩, h3⟩
theorem RowsCut.below (h : RowsCut w base v ls) (hb : Below w.heap.size w w') : RowsCut w' base v ls := h.kept (Kept.below hb) (fun _ _ _ h => h)
theorem RowsCut.weaken {base' : Nat} (h : RowsCut w base v ls) (hb : base' ≤ base) : RowsCut w base' v ls := by
  obtain ⟨us, h1, h2, h3⟩ := h
  exact ⟨us, ownsRow_weaken h1 hb, fun i u hi => ⟨(h2 i u hi).1.weaken hb, (h2 i u hi).2⟩, h3⟩
end

/-- Append of a row that is new. -/
theorem app_cut {ops : Array Oper} {rest : List Oper} {o : Oper} {a : Act} {Q : Exit → Act → World → Prop} {W : World}
    (hgd : o.guard = none) (s x : Operand) (ho : o.op = .call { callee := .builtin .append, args := #[s, x], argTypes := #[22, 22] })
    (base n : Nat) (v : Value) (ls : List (List B)) (hln : ls.length = n) (W0 : World) (hB : Below W0.heap.size W0 W) (hown : RowsCut W0 base v ls) (u : Value) (l : List B) (hu : OwnL W W0.heap.size u l) (hone : u.oneCell' = true)
    (hs : a.eval s = v) (hx : a.eval x = .slice (some ⟨W.heap.size, 0, none⟩) 1 1) (hn : n < 1000000000000) (hbase : base ≤ W0.heap.size)
    (h : ∀ g' c' w', RowsCut w' base (.slice (some ⟨g', 0, none⟩) (n + 1) c') (ls ++ [l]) → Kept (fun k => v.ownBlock = some k) W w' → W.heap.size < w'.heap.size → (v.ownBlock = some g' ∨ W.heap.size < g') →
      wpList Tryz.prog ops Q rest (a.put o.dst (.slice (some ⟨g', 0, none⟩) (n + 1) c')) w') : wpList Tryz.prog ops Q (o :: rest) a (W.alloc (.cells #[u] 39)) := by
  subst hln
  have hv0 : ∀ k, v.ownBlock = some k → k < W0.heap.size := fun k hk => (hown.lt k hk).2
  have hsz := hB.size
  have hown' := hown.below hB
  obtain ⟨us, q1, q2, q3⟩ := hown
  have hr0 : ∀ (i : Nat) (z : Value), us[i]? = some z → ∀ b, z.ownBlock = some b → b < W0.heap.size := fun i z hi b hb => ((q2 i z hi).1.blk b hb).2
  have h1 := ownsRow_keptS q1 (Kept.below hB) (fun _ _ h => h)
  have h2 : ∀ i u, us[i]? = some u → OwnL W base u (ls.getD i []) ∧ ∀ b, u.ownBlock = some b → v.ownBlock ≠ some b := fun i z hi => ⟨(q2 i z hi).1.below hB, (q2 i z hi).2⟩
  have h3 := q3
  clear q1 q2 q3 hown'
  refine app_el 22 39 1 24 (.slice none 0 0) Tryz.underlying22 infoR rfl (by decide) hgd s x ho base ls.length v us hs h1 [u] rfl (by simpa using hone) hx hn (by omega) ?_
  intro g' c' w' ho' hk hs' hg'
  have hul : us.length = ls.length := by have := h1.1; omega
  have get : ∀ i z, (us ++ [u])[i]? = some z → (i < us.length ∧ us[i]? = some z) ∨ (i = us.length ∧ z = u) := by
    intro i z hi
    by_cases e : i < us.length
    · rw [List.getElem?_append_left e] at hi; exact .inl ⟨e, hi⟩
    · have hi' : i = us.length := by
        have := (List.getElem?_eq_some_iff.1 hi).1
        simp at this; omega
      subst hi'
      exact .inr ⟨rfl, by simpa using hi.symm⟩
  have old : ∀ b, v.ownBlock = some b ∨ W.heap.size < b → ∀ c, c < W.heap.size → v.ownBlock ≠ some c → b ≠ c := by
    intro b hb c hc hne e
    subst e
    rcases hb with q | q
    · exact hne q
    · omega
  refine h g' c' w' ⟨us ++ [u], by simpa using ho', fun i z hi => ?_, fun i j y z b hi hj hy hz => ?_⟩ hk hs' hg'
  · rcases get i z hi with ⟨e, hi⟩ | ⟨rfl, rfl⟩
    · obtain ⟨q1, q2⟩ := h2 i z hi
      rw [getD_snoc_lt (by omega)]
      refine ⟨q1.kept hk (fun b hb e => q2 b hb e), fun b hb e => ?_⟩
      exact old g' hg' b (q1.blk b hb).2 (q2 b hb) (by simpa [Value.ownBlock] using e)
    · rw [hul, getD_snoc_last]
      have q2 : ∀ b, z.ownBlock = some b → v.ownBlock ≠ some b := fun b hb e => by have := (hu.blk b hb).1; have := hv0 b e; omega
      refine ⟨(hu.kept hk (fun b hb e => q2 b hb e)).weaken hbase, fun b hb e => ?_⟩
      exact old g' hg' b (hu.blk b hb).2 (q2 b hb) (by simpa [Value.ownBlock] using e)
  · rcases get i y hi with ⟨e1, hi'⟩ | ⟨ei, ey⟩ <;> rcases get j z hj with ⟨e2, hj'⟩ | ⟨ej, ez⟩
    · exact h3 i j y z b hi' hj' hy hz
    · have := hr0 i y hi' b hy
      subst ez
      have := (hu.blk b hz).1
      omega
    · have := hr0 j z hj' b hz
      subst ey
      have := (hu.blk b hy).1
      omega
    · rw [ei, ej]
end -- LayU

section -- RefA
set_option linter.unusedVariables false

/-- A power. -/
def pw (x : B) : Nat → B
  | 0 => 1
  | i + 1 => pw x i * x

theorem ev_snoc : ∀ (p : List B) (a x : B), ev (p ++ [a]) x = ev p x + a * pw x p.length
  | [], a, x => by show a + x * 0 = 0 + a * 1; grind
  | b :: p, a, x => by
    show b + x * ev (p ++ [a]) x = b + x * ev p x + a * (pw x p.length * x)
    rw [ev_snoc p a x]; grind
theorem ev_take {p : List B} {i : Nat} (h : i < p.length) (x : B) : ev (p.take (i + 1)) x = ev (p.take i) x + p.getD i 0 * pw x i := by
  rw [take_snocD h, ev_snoc]
  simp only [List.length_take]
  rw [Nat.min_eq_left (by omega)]
theorem ev_zero : ∀ (n : Nat) (x : B), ev (List.replicate n 0) x = 0
  | 0, x => rfl
  | n + 1, x => by
    rw [List.replicate_succ]
    show 0 + x * ev (List.replicate n 0) x = 0
    rw [ev_zero n x]; grind
theorem ev_set : ∀ (o : List B) (j : Nat) (c x : B), j < o.length → ev (o.set j (o.getD j 0 + c)) x = ev o x + c * pw x j
  | [], j, c, x, h => absurd h (by simp)
  | a :: o, 0, c, x, h => by
    show (a + c) + x * ev o x = a + x * ev o x + c * 1
    grind
  | a :: o, j + 1, c, x, h => by
    have := ev_set o j c x (by simpa using h)
    show a + x * ev (o.set j (o.getD j 0 + c)) x = a + x * ev o x + c * (pw x j * x)
    rw [this]; grind
theorem ev_set0 {o : List B} {j : Nat} (c x : B) (h : j < o.length) (hz : o.getD j 0 = 0) : ev (o.set j c) x = ev o x + c * pw x j := by
  have := ev_set o j c x h
  rw [hz] at this
  rw [← this]
  congr 2
  grind
theorem pw_add (x : B) (i : Nat) : ∀ k, pw x (i + k) = pw x i * pw x k
  | 0 => by show pw x i = pw x i * 1; grind
  | k + 1 => by
    show pw x (i + k) * x = pw x i * (pw x k * x)
    rw [pw_add x i k]; grind
theorem getD_set_ne {o : List B} {i j : Nat} {c : B} (h : i ≠ j) : (o.set i c).getD j 0 = o.getD j 0 := by
  rw [List.getD_eq_getElem?_getD, List.getD_eq_getElem?_getD, List.getElem?_set_ne h]
/-- A coefficient of nothing goes. -/
theorem ev_drop {p : List B} {i : Nat} (h : i < p.length) (hz : p.getD i 0 = 0) (x : B) : ev (p.take (i + 1)) x = ev (p.take i) x := by
  rw [ev_take h, hz]; grind
theorem ev_two (a x : B) : ev [a, 1] x = x + a := by
  show a + x * (1 + x * 0) = x + a
  grind
theorem ev_one (a x : B) : ev [a] x = a := by
  show a + x * 0 = a
  grind
end -- RefA

end Go.Proofs.YtojbbmfndlcgkaaGreat
