/-
  A coder, none of whose blocks is an elder one.
-/
import Derived.Test.YtlmpagicjgldkaaCaT
namespace Go.Proofs.Ytlmpagicjgldkaa
open Go.RowKit Go.Maps
set_option linter.unusedVariables false
set_option linter.unusedSimpArgs false
set_option maxRecDepth 100000
set_option maxHeartbeats 2000000

theorem table_lone (w : World) (k n : Nat) (h1 : 1 ≤ k) (h2 : k ≤ n) (h3 : n ≤ 255) :
    Calls Try.prog 22 #[.int .i64 (k : Int), .int .i64 (n : Int)] w fun e w' => ∃ v, e = .returned (.tuple #[v, .int .i64 0]) ∧ RowsLone w' w.heap.size v (tblL k n) ∧ Below w.heap.size w w' := by
  have e1 : decide ((k : Int) < 1) = false := by simp; omega
  have e2 : ¬ n < k := by omega
  have e3 : ¬ (255 : Int) < n := by omega
  have e4 : decide (n < k) = false := by simp; omega
  have e5 : decide ((255 : Int) < n) = false := by simp; omega
  go_enter Try.func22, Try.ntmps22
  go_wp2
  clear e1 e2 e3 e4 e5
  go_loopw [6, 7, 22] (fun v _ i wr => ∃ j : Nat, j ≤ k ∧ i = .int .i64 (j : Int) ∧ wr.ownsRow w.heap.size 5 1 v j ((ptsL j).map bv) ∧ Below w.heap.size w wr) (fun _ _ i _ => k - (intOf i).toNat)
  case atStart => exact ⟨0, Nat.zero_le _, rfl, World.ownsRow_nil _ _ _ _, Below.refl _ _⟩
  case round =>
    obtain ⟨j, hj, rfl, ho, hB⟩ := hrel
    have HO := Lib.hid ho
    clear ho
    have hsz := hB.size
    by_cases hlt : j < k
    · go_wp2_with (at_builtin; refine app_el 57 5 1 1 (.int .u8 0) Try.underlying57 infoB rfl (by decide) rfl _ _ rfl w.heap.size j _ _ rfl HO.out [.int .u8 (j : Int)] rfl (by simp [Value.oneCell']) rfl (by omega) hsz ?_; intro g' c' w3 ho3 hk3 hs3 hg3)
      go_roundw
      case rel =>
        refine ⟨j + 1, by omega, by go_num, ?_, ?_⟩
        · rw [ptsL_succ, ← map_snoc_bv]
          have : bv (ofB j) = .int .u8 (j : Int) := by show Value.int .u8 (((ofB j).v : Nat) : Int) = _; rw [ofB_v (by omega)]
          rw [this]
          exact ho3
        · exact hB.trans (hk3.toBelow hsz (fun i h => (HO.out.lt i h).1))
      case measure => simp [intOf]; omega
    · obtain rfl : j = k := by omega
      have hp : BytesAt wr u6 (ptsL j) := BytesAt.of_owns (base := w.heap.size) (by rw [ptsL_len]; exact HO.out)
      have HP := Lib.hid hp
      clear hp
      go_wp2_with fail
      refine (over_any wr u6 (ptsL j) HP.out (by rw [ptsL_len]; omega)).mono ?_
      rintro e w2 ⟨bw, bf, va, rfl, hov, hB2⟩
      have HOV := Lib.hid hov
      have hB3 : Below w.heap.size w w2 := hB.trans ⟨hB2.os, hB2.tape, hB2.output, hB2.size, fun i hi => hB2.block i (by omega)⟩
      clear hov hB2 hB hlt hsz
      have HNN := Lib.hid (ptsL_nodup (k := j) (by omega))
      have HPL := Lib.hid (ptsL_len j)
      go_wp2
      go_loopw [4, 9, 34] (fun v _ i w4 => ∃ m : Nat, m ≤ n ∧ i = .int .i64 (m : Int) ∧ RowsLone w4 w2.heap.size v (tblL j m) ∧ Below w2.heap.size w2 w4) (fun _ _ i _ => n - (intOf i).toNat)
      case atStart => exact ⟨0, Nat.zero_le _, rfl, RowsLone.nil _ _, Below.refl _ _⟩
      case round =>
        obtain ⟨m, hm, rfl, ho, hB4⟩ := hrel
        have HR := Lib.hid ho
        clear ho
        have hs4 := hB4.size
        by_cases hlt : m < n
        · have HW := Lib.hid (HOV.out.kept (Kept.below hB4) (fun _ _ h => h))
          have hmm : bv (ofB m) = .int .u8 (m : Int) := by show Value.int .u8 (((ofB m).v : Nat) : Int) = _; rw [ofB_v (by omega)]
          have HMM := Lib.hid hmm
          clear hmm
          go_wp2_with fail
          rw [← HMM.out]
          refine (weights_any _ bw bf _ va (ptsL j) (ofB m) HW.out HNN.out (by rw [HPL.out]; omega) (by rw [HPL.out]; omega)).mono ?_
          rintro e w5 ⟨g, rfl, hrw, hgb, hB5⟩
          rw [HPL.out]
          have hgl := hrw.lt
          have hs5 := hB5.size
          have HLV := Lib.hid HR.out.lt
          have HB6 := Lib.hid (show Below w2.heap.size w2 w5 from hB4.trans ⟨hB5.os, hB5.tape, hB5.output, hB5.size, fun i hi => hB5.block i (by omega)⟩)
          have HBY := Lib.hid (show Own w5 wr.heap.size (.slice (some ⟨g, 0, none⟩) j j) (wtsL (ptsL j) (ofB m)) by
            have := hrw.own hgb (by rw [wtsL_len, HPL.out]; unfold maxLen; omega)
            rw [wtsL_len, HPL.out] at this; exact this)
          have HB5 := Lib.hid hB5
          clear hrw hB5 hB4
          go_wp2_with (at_builtin; refine app_lone rfl _ _ rfl w2.heap.size m _ _ (tblL_len j m) wr HB5.out HR.out (.slice (some ⟨g, 0, none⟩) j j) _ HBY.out rfl rfl rfl (by omega) hs4 ?_; intro g' c' w6 hR6 hk6 hs6 hg6)
          go_roundw
          case rel =>
            refine ⟨m + 1, by omega, by go_num, by rw [tblL_succ]; exact hR6, HB6.out.trans (hk6.toBelow (by omega) (fun i h => (HLV.out i h).1))⟩
          case measure => simp [intOf]; omega
        · obtain rfl : m = n := by omega
          go_wp2
          go_ret2
          exact ⟨_, rfl, HR.out.weaken hB3.size, hB3.trans ⟨hB4.os, hB4.tape, hB4.output, hB4.size, fun i hi => hB4.block i (by have := hB3.size; omega)⟩⟩

/-- A coder, from a block on. -/
structure CoderFar (w : World) (base bc n k bf : Nat) (vt : Value) : Prop where
  at0 : CoderAt w bc n k bf vt
  lone : RowsLone w base vt (tblL k n)
  cb : base ≤ bc
  fb : base ≤ bf
theorem CoderFar.kept {S : Nat → Prop} {w w' : World} {base bc n k bf : Nat} {vt : Value} (h : CoderFar w base bc n k bf vt) (hk : Kept S w w') (hS : ∀ i, S i → i < base) : CoderFar w' base bc n k bf vt := by
  have hl := h.lone.kept hk (fun k _ hb hs => by have := hS k hs; omega)
  exact ⟨⟨(hk.block bc h.at0.lt (fun hs => by have := hS _ hs; have := h.cb; omega)).trans h.at0.cells, h.at0.field.kept hk (fun hs => by have := hS _ hs; have := h.fb; omega), hl.rows, h.at0.k1, h.at0.kn, h.at0.n255⟩, hl, h.cb, h.fb⟩
theorem CoderFar.below {w w' : World} {base bc n k bf : Nat} {vt : Value} (h : CoderFar w base bc n k bf vt) (hb : Below w.heap.size w w') : CoderFar w' base bc n k bf vt := h.kept (Kept.below hb) (fun _ h => h.elim)
theorem cnew_far (w : World) (n k : Nat) (h1 : 1 ≤ k) (h2 : k ≤ n) (h3 : n ≤ 255) :
    Calls Try.prog 12 #[.int .i64 (n : Int), .int .i64 (k : Int)] w fun e w' => ∃ bc bf vt, e = .returned (.tuple #[.pointer (some ⟨bc, 0, none⟩), .int .i64 0]) ∧ CoderFar w' w.heap.size bc n k bf vt ∧ Below w.heap.size w w' := by
  have HT := Lib.hid (table_lone w k n h1 h2 h3)
  go_enter Try.func12, Try.ntmps12
  go_wp2_with fail
  refine HT.out.mono ?_
  rintro e w1 ⟨vt, rfl, hr, hB⟩
  obtain ⟨pt, ct, rfl⟩ := hr.rows.shape
  have HR := Lib.hid hr
  clear hr
  have HTL := Lib.hid (tblL_len k n)
  go_wp2_with fail
  refine (fnew_any w1).mono ?_
  rintro e w2 ⟨bf, rfl, hf, hfb, hB2⟩
  have HF := Lib.hid hf
  have HR2 := Lib.hid (HR.out.below hB2)
  have hb3 : Below w.heap.size w w2 := hB.trans ⟨hB2.os, hB2.tape, hB2.output, hB2.size, fun i hi => hB2.block i (by have := hB.size; omega)⟩
  have hs3 := hb3.size
  have hs1 := hB.size
  clear hf hB hB2
  go_wp2
  go_ret2
  have hl := fun (x : Obj) => HR2.out.kept (Kept.alloc (fun _ => False) w2 x) (fun _ _ _ h => h)
  exact ⟨_, bf, _, rfl, ⟨⟨Go.heap_alloc_new w2 _, HF.out.kept (Kept.alloc (fun _ => False) _ _) (fun h => h), (hl _).rows, h1, h2, h3⟩, hl _, hs3, by omega⟩, hb3.alloc hs3 _⟩
end Go.Proofs.Ytlmpagicjgldkaa
