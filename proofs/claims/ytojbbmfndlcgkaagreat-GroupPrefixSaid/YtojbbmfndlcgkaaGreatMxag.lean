/-
  Walks of layer 1 (field): made, New.
-/
import Derived.Test.YtojbbmfndlcgkaaGreatMxaf
import Derived.Deep.WholeRow
namespace Go.Proofs.YtojbbmfndlcgkaaGreat
open Go.RowKit Go.Maps

set_option maxRecDepth 100000
set_option maxHeartbeats 2000000

/-- The tables, as far as they are made. -/
def TabAt (w : World) (b k : Nat) : Prop := ∃ C : Array Value, w.heap[b]? = some (.cells C 111 (0, 0)) ∧ C.size = 766 ∧ (∀ i : Nat, i < k → C[i]? = some (.int .u8 ((expN i : Nat) : Int)) ∧ C[i + 255]? = some (.int .u8 ((expN i : Nat) : Int)) ∧ C[510 + expN i]? = some (.int .u8 (i : Int))) ∧ C[510]? = some (.int .u8 0)

theorem expN_inj {i j : Nat} (hi : i < 255) (hj : j < 255) (h : expN i = expN j) : i = j := by
  have a := (exp_facts hi).2.2.1
  have b := (exp_facts hj).2.2.1
  rw [h] at a
  omega

theorem TabAt.step {w : World} {b k : Nat} (h : TabAt w b k) (hk : k < 255) :
    TabAt (((w.setCell ⟨b, k, none⟩ (.int .u8 ((expN k : Nat) : Int))).setCell ⟨b, k + 255, none⟩ (.int .u8 ((expN k : Nat) : Int))).setCell ⟨b, 510 + expN k, none⟩ (.int .u8 (k : Int))) b (k + 1) := by
  obtain ⟨C, h1, h2, h3, h4⟩ := h
  obtain ⟨x1, x2, _, _⟩ := exp_facts hk
  refine ⟨((C.setIfInBounds k (.int .u8 ((expN k : Nat) : Int))).setIfInBounds (k + 255) (.int .u8 ((expN k : Nat) : Int))).setIfInBounds (510 + expN k) (.int .u8 (k : Int)), ?_, by simpa using h2, fun i hi => ?_, ?_⟩
  · simp [World.setCell, Array.getElem?_modify, h1]
  · by_cases e : i = k
    · subst e
      refine ⟨?_, ?_, ?_⟩
      · rw [Array.getElem?_setIfInBounds_ne (by omega), Array.getElem?_setIfInBounds_ne (by omega), Array.getElem?_setIfInBounds_self_of_lt (by omega)]
      · rw [Array.getElem?_setIfInBounds_ne (by omega), Array.getElem?_setIfInBounds_self_of_lt (by simp; omega)]
      · rw [Array.getElem?_setIfInBounds_self_of_lt (by simp; omega)]
    · obtain ⟨a, b, c⟩ := h3 i (by omega)
      obtain ⟨z1, z2, _, _⟩ := exp_facts (i := i) (by omega)
      have ne : expN k ≠ expN i := fun q => e (expN_inj (by omega) hk q.symm)
      refine ⟨?_, ?_, ?_⟩
      · rw [Array.getElem?_setIfInBounds_ne (by omega), Array.getElem?_setIfInBounds_ne (by omega), Array.getElem?_setIfInBounds_ne (by omega)]; exact a
      · rw [Array.getElem?_setIfInBounds_ne (by omega), Array.getElem?_setIfInBounds_ne (by omega), Array.getElem?_setIfInBounds_ne (by omega)]; exact b
      · rw [Array.getElem?_setIfInBounds_ne (by omega), Array.getElem?_setIfInBounds_ne (by omega), Array.getElem?_setIfInBounds_ne (by omega)]; exact c
  · rw [Array.getElem?_setIfInBounds_ne (by omega), Array.getElem?_setIfInBounds_ne (by omega), Array.getElem?_setIfInBounds_ne (by omega)]; exact h4

theorem i64_xor_nat (a b : Nat) (ha : a < 4611686018427387904) (hb : b < 4611686018427387904) : bits .xor .i64 (a : Int) (b : Int) = ((a ^^^ b : Nat) : Int) := by
  have hx : a ^^^ b < 2 ^ 62 := Nat.xor_lt_two_pow (by omega) (by omega)
  show IntKind.i64.wrap ((BitVec.ofInt 64 (a : Int) ^^^ BitVec.ofInt 64 (b : Int)).toNat : Int) = _
  rw [BitVec.toNat_xor, ofInt_u64 a (by omega), ofInt_u64 b (by omega)]
  exact IntWalk.i64_in ((a ^^^ b : Nat) : Int) (by omega)

/-- The tables are whole: as a field wants them. -/
theorem tab_whole {C : Array Value} (h3 : ∀ i : Nat, i < 255 → C[i]? = some (.int .u8 ((expN i : Nat) : Int)) ∧ C[i + 255]? = some (.int .u8 ((expN i : Nat) : Int)) ∧ C[510 + expN i]? = some (.int .u8 (i : Int))) (h4 : C[510]? = some (.int .u8 0)) :
    (∀ i : Nat, i < 510 → C[i]? = some (.int .u8 ((expN (i % 255) : Nat) : Int))) ∧ (∀ a : Nat, a < 256 → C[510 + a]? = some (.int .u8 ((logN a : Nat) : Int))) := by
  refine ⟨fun i hi => ?_, fun a ha => ?_⟩
  · by_cases e : i < 255
    · rw [Nat.mod_eq_of_lt e]; exact (h3 i e).1
    · have := (h3 (i - 255) (by omega)).2.1
      rw [show i - 255 + 255 = i by omega] at this
      rw [show i % 255 = i - 255 by omega]; exact this
  · by_cases e : a = 0
    · subst e; exact h4
    · obtain ⟨p, q⟩ := log_facts (a := a) (by omega) ha
      have := (h3 (logN a) p).2.2
      rw [q] at this; exact this

theorem one_cells {C : Array Value} (h2 : C.size = 766) (h3 : ∀ i : Nat, i < 510 → C[i]? = some (.int .u8 ((expN (i % 255) : Nat) : Int))) (h4 : ∀ a : Nat, a < 256 → C[510 + a]? = some (.int .u8 ((logN a : Nat) : Int))) : C.all (·.oneCell') = true := by
  rw [Array.all_eq_true]
  intro i hi
  have : C[i]? = some C[i] := Array.getElem?_eq_getElem hi
  by_cases e : i < 510
  · rw [h3 i e] at this
    rw [← Option.some.inj this]; rfl
  · have q := h4 (i - 510) (by omega)
    rw [show 510 + (i - 510) = i by omega, this] at q
    rw [Option.some.inj q]; rfl

theorem made_any (w : World) :
    Calls Tryz.prog 57 #[] w fun e w' => ∃ C : Array Value, e = .returned (.agg C) ∧ (C.size = 766 ∧ (∀ i : Nat, i < 510 → C[i]? = some (.int .u8 ((expN (i % 255) : Nat) : Int))) ∧ (∀ a : Nat, a < 256 → C[510 + a]? = some (.int .u8 ((logN a : Nat) : Int)))) ∧ Below w.heap.size w w' := by
  go_enter Tryz.func57, Tryz.ntmps57
  go_wp2_with fail
  have hz0 : TabAt (w.alloc (.cells Tryz.zeroCells111 111)) w.heap.size 0 := ⟨_, heap_alloc_new w _, by kernel_rfl, fun i hi => by omega, by kernel_rfl⟩
  have k0 : Below w.heap.size w (w.alloc (.cells Tryz.zeroCells111 111)) := (Below.refl _ _).alloc (Nat.le_refl _) _
  have s0 : w.heap.size < (w.alloc (.cells Tryz.zeroCells111 111)).heap.size := by simp
  have HZ := Lib.hid hz0
  clear hz0
  generalize w.alloc (.cells Tryz.zeroCells111 111) = w1 at *
  go_loopw [1, 3] (fun x i wr => ∃ k : Nat, k ≤ 255 ∧ i = .int .i64 (k : Int) ∧ x = .int .i64 ((expN (k % 255) : Nat) : Int) ∧ TabAt wr w.heap.size k ∧ Kept (fun i => i = w.heap.size) w1 wr) (fun _ i _ => 255 - (intOf i).toNat)
  case atStart => exact ⟨0, Nat.zero_le _, rfl, rfl, HZ.out, Kept.refl _ _⟩
  case round =>
    obtain ⟨k, hk, rfl, rfl, ht, hK⟩ := hrel
    have xf : ∀ o, wr.frozen? ⟨w.heap.size, o, none⟩ = false := by
      obtain ⟨C, h1, _⟩ := ht
      intro o
      simp [World.frozen?, h1]
    have HT := Lib.hid ht
    clear ht
    by_cases hlt : k < 255
    · have hm : k % 255 = k := Nat.mod_eq_of_lt hlt
      obtain ⟨x1, x2, x3, x4⟩ := exp_facts hlt
      rw [hm]
      obtain ⟨x, hx⟩ : ∃ x, expN k = x := ⟨_, rfl⟩
      rw [hx] at x1 x2 x4 ⊢
      have HX := Lib.hid hx
      have H4 := Lib.hid x4
      clear hx x3 x4 hm
      have hxm : (x : Int) % 256 = x := by omega
      have n1 : ¬ 510 + x = k := by omega
      have n2 : ¬ 510 + x = k + 255 := by omega
      have n3 : ¬ k = 510 + x := by omega
      have n4 : ¬ k + 255 = 510 + x := by omega
      have n5 : ¬ k + 255 = k := by omega
      have n6 : ¬ k = k + 255 := by omega
      obtain ⟨v0, y0⟩ : ∃ v, wr.cell? ⟨w.heap.size, k, none⟩ = some v := by
        obtain ⟨C, h1, h2, _⟩ := HT.out
        exact ⟨C[k], by simp [World.cell?, h1]⟩
      obtain ⟨v1, y1⟩ : ∃ v, wr.cell? ⟨w.heap.size, k + 255, none⟩ = some v := by
        obtain ⟨C, h1, h2, _⟩ := HT.out
        exact ⟨C[k + 255], by simp [World.cell?, h1]⟩
      obtain ⟨v2, y2⟩ : ∃ v, wr.cell? ⟨w.heap.size, 510 + x, none⟩ = some v := by
        obtain ⟨C, h1, h2, _⟩ := HT.out
        exact ⟨C[510 + x], by simp [World.cell?, h1]⟩
      have hst := HT.out.step hlt
      rw [HX.out] at hst
      have HST := Lib.hid hst
      clear hst
      have hkk := ((hK.setCell' (p := ⟨w.heap.size, k, none⟩) rfl (.int .u8 (x : Int))).setCell' (p := ⟨w.heap.size, k + 255, none⟩) rfl (.int .u8 (x : Int))).setCell' (p := ⟨w.heap.size, 510 + x, none⟩) rfl (.int .u8 (k : Int))
      go_wp2
      · have hgt : 255 < (x : Int) * 2 := by assumption
        go_roundw
        case rel =>
          refine ⟨k + 1, by omega, by go_num, ?_, HST.out, hkk⟩
          have := H4.out
          unfold xt at this
          rw [if_pos (by omega)] at this
          rw [← this, show ((x : Int) * 2) = ((2 * x : Nat) : Int) by omega]
          exact congrArg _ (i64_xor_nat (2 * x) 285 (by omega) (by omega))
        case measure => simp [intOf]; omega
      · have hgt : (x : Int) * 2 ≤ 255 := by assumption
        go_roundw
        case rel =>
          refine ⟨k + 1, by omega, by go_num, ?_, HST.out, hkk⟩
          have := H4.out
          unfold xt at this
          rw [if_neg (by omega)] at this
          rw [← this, show ((x : Int) * 2) = ((2 * x : Nat) : Int) by omega]
        case measure => simp [intOf]; omega
    · obtain rfl : k = 255 := by omega
      obtain ⟨C, h1, h2, h3, h4⟩ := HT.out
      have hi : (Tryz.prog.info? 111).map (·.size) = some C.size := by rw [h2]; kernel_rfl
      go_wp2_with fail
      refine wp_load_row _ _ rfl w.heap.size rfl _ C (0, 0) _ h1 Tryz.underlying111 rfl hi ?_
      have hsc : (storeCells ⟨w.heap.size, 0, none⟩ C.toList 0).run Tryz.prog wr = .ok () (wr.setRow w.heap.size C) := by
        have := run_storeVar_row (P := Tryz.prog) wr w.heap.size 111 111 C C h1 hi rfl (one_cells h2 (tab_whole h3 h4).1 (tab_whole h3 h4).2)
        obtain ⟨i6, hi6⟩ : ∃ i, Tryz.prog.info? 111 = some i := by cases hq : Tryz.prog.info? 111 with | none => rw [hq] at hi; cases hi | some i => exact ⟨i, rfl⟩
        have h6 : i6.size = C.size := by rw [hi6] at hi; simpa using hi
        simpa [storeVar, sizeOf, typeInfo, hi6, Value.cells, h6] using this
      have hr := setRow_heap wr w.heap.size C C _ _ h1
      have hk4 : Kept (fun i => i = w.heap.size) wr (wr.setRow w.heap.size C) := ⟨rfl, rfl, rfl, by simp, fun i _ hi => setRow_other _ _ _ _ hi⟩
      have hfin : Below w.heap.size w (wr.setRow w.heap.size C) := k0.trans ((hK.trans hk4 (fun _ _ h => h)).toBelow (by omega) (fun i h => by omega))
      have HW := Lib.hid (tab_whole h3 h4)
      have HR := Lib.hid hr
      have H2 := Lib.hid h2
      have HI := Lib.hid hi
      clear h1 h2 h3 h4 hr hi hk4 hK
      go_wp2
      exact bodyPost_ret (results_cell_row rfl _ _ w.heap.size _ C (0, 0) _ rfl HR.out Tryz.underlying111 rfl HI.out) rfl ⟨C, rfl, ⟨H2.out, HW.out⟩, hfin⟩

theorem fold_list (f : Array Value → Value × Nat → Array Value) (hf : f = fun cs x => cs.setIfInBounds x.2 x.1) : ∀ (l : List Value) (k : Nat) (Z : Array Value), k + l.length ≤ Z.size →
    ((l.zipIdx k).foldl f Z).size = Z.size ∧ (∀ i, i < l.length → ((l.zipIdx k).foldl f Z)[k + i]? = l[i]?) ∧ (∀ i, i < k → ((l.zipIdx k).foldl f Z)[i]? = Z[i]?)
  | [], k, Z, _ => ⟨rfl, fun i h => absurd h (by simp), fun _ _ => rfl⟩
  | a :: l, k, Z, h => by
    simp only [List.length_cons] at h
    have ih := fold_list f hf l (k + 1) (f Z (a, k)) (by subst hf; simp; omega)
    simp only [List.zipIdx_cons, List.foldl_cons]
    refine ⟨by rw [ih.1]; subst hf; simp, fun i hi => ?_, fun i hi => ?_⟩
    · cases i with
      | zero =>
        simp only [Nat.add_zero]
        rw [ih.2.2 k (by omega)]
        subst hf
        rw [Array.getElem?_setIfInBounds_self_of_lt (by omega)]; rfl
      | succ i =>
        have := ih.2.1 i (by simpa using hi)
        rw [show k + (i + 1) = k + 1 + i by omega, this]; simp
    · rw [ih.2.2 i (by omega)]
      subst hf
      exact Array.getElem?_setIfInBounds_ne (by omega)

theorem fold_fill (C Z : Array Value) (n : Nat) (hn : C.size = n) (h : n ≤ Z.size) : ∃ R : Array Value, Array.foldl (fun cs x => cs.setIfInBounds x.snd x.fst) Z C.zipIdx 0 n = R ∧ R.size = Z.size ∧ ∀ i, i < n → R[i]? = C[i]? := by
  refine ⟨_, rfl, ?_⟩
  have e : Array.foldl (fun (cs : Array Value) (x : Value × Nat) => cs.setIfInBounds x.snd x.fst) Z C.zipIdx 0 n = (C.toList.zipIdx 0).foldl (fun cs x => cs.setIfInBounds x.2 x.1) Z := by
    rw [← Array.toList_zipIdx, Array.foldl_toList, Array.size_zipIdx, hn]
  have := fold_list _ rfl C.toList 0 Z (by simp; omega)
  rw [e]
  refine ⟨this.1, fun i hi => ?_⟩
  have q := this.2.1 i (by simpa [hn] using hi)
  rw [Nat.zero_add] at q
  rw [q]; simp

/-- New. -/
theorem fnew_any (w : World) :
    Calls Tryz.prog 43 #[] w fun e w' => ∃ b, e = .returned (.pointer (some ⟨b, 0, none⟩)) ∧ FieldAt w' b ∧ w.heap.size ≤ b ∧ Below w.heap.size w w' := by
  go_enter Tryz.func43, Tryz.ntmps43
  go_wp2_with fail
  refine (made_any w).mono ?_
  rintro e w1 ⟨C, rfl, ⟨h2, h3, h4⟩, hB⟩
  obtain ⟨R, hR, hs, hg⟩ := fold_fill C Tryz.zeroCells114 766 h2 (of_decide_eq_true (by kernel_rfl))
  have hs' : R.size = 767 := hs.trans (by kernel_rfl)
  have HF := Lib.hid (show FieldAt (w1.alloc (.cells (R.setIfInBounds 766 (.bool true)) 114)) w1.heap.size from ⟨_, heap_alloc_new w1 _, by simpa using hs',
    fun i hi => by rw [Array.getElem?_setIfInBounds_ne (by omega), hg i (by omega), h3 i hi],
    fun a ha => by rw [Array.getElem?_setIfInBounds_ne (by omega), hg _ (by omega), h4 a ha],
    by rw [Array.getElem?_setIfInBounds_self_of_lt (by omega)]⟩)
  have hz := hB.size
  clear h3 h4 hs hg
  go_wp2
  go_ret
  exact ⟨_, rfl, HF.out, hz, hB.alloc hz _⟩

end Go.Proofs.YtojbbmfndlcgkaaGreat
