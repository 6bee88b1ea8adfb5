/-
  CodeLc: Walks of layer 4 (lagr): Table; code.New.
  CodeQa: Walks of layer 5 (code): mix.
  CodeQb: Walks of layer 5 (code): there, right, Encode, Symbol.
  RefH: Walks of the reference, layer 5 (code): New, points, source.
-/
import Derived.Test.YtlmpagicjgldkaaGreatCodeLb
import Derived.Test.YtlmpagicjgldkaaGreatMxag
import Derived.Test.YtlmpagicjgldkaaGreatMxal
namespace Go.Proofs.YtlmpagicjgldkaaGreat

section -- CodeLc
open Go.RowKit Go.Maps
set_option linter.unusedVariables false
set_option maxRecDepth 100000
set_option maxHeartbeats 2000000

/-- The weights of the first n bytes by the first k. -/
def tblL (k n : Nat) : List (List B) := (List.range n).map fun i => wtsL (ptsL k) (ofB i)
theorem tblL_len (k n : Nat) : (tblL k n).length = n := by simp [tblL]
theorem tblL_succ (k n : Nat) : tblL k (n + 1) = tblL k n ++ [wtsL (ptsL k) (ofB n)] := by simp [tblL, List.range_succ]
theorem ptsL_succ (k : Nat) : ptsL (k + 1) = ptsL k ++ [ofB k] := by simp [ptsL, List.range_succ]
theorem ofB_v {k : Nat} (h : k < 256) : (ofB k).v = k := by simp only [ofB]; omega
theorem tblL_get {k n i : Nat} (h : i < n) : (tblL k n).getD i [] = wtsL (ptsL k) (ofB i) := getD_range _ _ h

theorem table_bad (w : World) (k n : Int) (h : k < 1 ∨ n < k ∨ 255 < n) :
    Calls Tryz.prog 55 #[.int .i64 k, .int .i64 n] w fun e w' => e = .returned (.tuple #[.slice none 0 0, .int .i64 2]) ∧ w = w' := by
  by_cases h1 : k < 1
  · go_enter Tryz.func55, Tryz.ntmps55
    go_wp2
    go_ret2
    exact ⟨rfl, rfl⟩
  · have e1 : decide (k < 1) = false := by simpa using h1
    by_cases h2 : n < k
    · go_enter Tryz.func55, Tryz.ntmps55
      go_wp2
      go_ret2
      exact ⟨rfl, rfl⟩
    · have h3 : 255 < n := by omega
      have e2 : decide (n < k) = false := by simpa using h2
      go_enter Tryz.func55, Tryz.ntmps55
      go_wp2
      go_ret2
      exact ⟨rfl, rfl⟩

theorem table_any (w : World) (k n : Nat) (h1 : 1 ≤ k) (h2 : k ≤ n) (h3 : n ≤ 255) :
    Calls Tryz.prog 55 #[.int .i64 (k : Int), .int .i64 (n : Int)] w fun e w' => ∃ v, e = .returned (.tuple #[v, .int .i64 0]) ∧ RowsAt w' v (tblL k n) ∧ Below w.heap.size w w' := by
  have e1 : decide ((k : Int) < 1) = false := by simp; omega
  have e2 : ¬ n < k := by omega
  have e3 : ¬ (255 : Int) < n := by omega
  have e4 : decide (n < k) = false := by simp; omega
  have e5 : decide ((255 : Int) < n) = false := by simp; omega
  go_enter Tryz.func55, Tryz.ntmps55
  go_wp2
  clear e1 e2 e3 e4 e5
  go_loopw [6, 7, 22] (fun v _ i wr => ∃ j : Nat, j ≤ k ∧ i = .int .i64 (j : Int) ∧ wr.ownsRow w.heap.size 5 1 v j ((ptsL j).map bv) ∧ Below w.heap.size w wr) (fun _ _ i _ => k - (intOf i).toNat)
  case atStart => exact ⟨0, Nat.zero_le _, rfl, World.ownsRow_nil _ _ _ _, Below.refl _ _⟩
  case round =>
    obtain ⟨j, hj, rfl, ho, hB⟩ := hrel
    have HO := Lib.hid ho
    clear ho
    have hsz := hB.size
    by_cases hlt : j < k
    · go_wp2_with (at_builtin; refine app_el 43 5 1 1 (.int .u8 0) Tryz.underlying43 infoB rfl (by decide) rfl _ _ rfl w.heap.size j _ _ rfl HO.out [.int .u8 (j : Int)] rfl (by simp [Value.oneCell']) rfl (by omega) hsz ?_; intro g' c' w3 ho3 hk3 hs3 hg3)
      go_roundw
      case rel =>
        refine ⟨j + 1, by omega, by go_num, ?_, ?_⟩
        · rw [ptsL_succ, ← map_snoc_bv]
          have : bv (ofB j) = .int .u8 (j : Int) := by show Value.int .u8 (((ofB j).v : Nat) : Int) = _; rw [ofB_v (by omega)]
          rw [this]
          exact ho3
        · exact hB.trans (hk3.toBelow hsz (fun i h => (HO.out.lt i h).1))
      case measure => simp [intOf]; omega
    · obtain rfl : j = k := by omega
      have hp : BytesAt wr u6 (ptsL j) := BytesAt.of_owns (base := w.heap.size) (by rw [ptsL_len]; exact HO.out)
      have HP := Lib.hid hp
      clear hp
      go_wp2_with fail
      refine (over_any wr u6 (ptsL j) HP.out (by rw [ptsL_len]; omega)).mono ?_
      rintro e w2 ⟨bw, bf, va, rfl, hov, hB2⟩
      have HOV := Lib.hid hov
      have hB3 : Below w.heap.size w w2 := hB.trans ⟨hB2.os, hB2.tape, hB2.output, hB2.size, fun i hi => hB2.block i (by omega)⟩
      clear hov hB2 hB hlt hsz
      have HNN := Lib.hid (ptsL_nodup (k := j) (by omega))
      have HPL := Lib.hid (ptsL_len j)
      go_wp2
      go_loopw [4, 9, 34] (fun v _ i w4 => ∃ m : Nat, m ≤ n ∧ i = .int .i64 (m : Int) ∧ RowsOwn w4 w2.heap.size v (tblL j m) ∧ Below w2.heap.size w2 w4) (fun _ _ i _ => n - (intOf i).toNat)
      case atStart => exact ⟨0, Nat.zero_le _, rfl, RowsOwn.nil _ _, Below.refl _ _⟩
      case round =>
        obtain ⟨m, hm, rfl, ho, hB4⟩ := hrel
        have HR := Lib.hid ho
        clear ho
        have hs4 := hB4.size
        by_cases hlt : m < n
        · have HW := Lib.hid (HOV.out.kept (Kept.below hB4) (fun _ _ h => h))
          have hmm : bv (ofB m) = .int .u8 (m : Int) := by show Value.int .u8 (((ofB m).v : Nat) : Int) = _; rw [ofB_v (by omega)]
          have HMM := Lib.hid hmm
          clear hmm
          go_wp2_with fail
          rw [← HMM.out]
          refine (weights_any _ bw bf _ va (ptsL j) (ofB m) HW.out HNN.out (by rw [HPL.out]; omega) (by rw [HPL.out]; omega)).mono ?_
          rintro e w5 ⟨g, rfl, hrw, hgb, hB5⟩
          rw [HPL.out]
          have HB := Lib.hid (hrw.toBytes j)
          have hgl := hrw.lt
          have hs5 := hB5.size
          have HR5 := Lib.hid (HR.out.below hB5)
          have hlv := HR.out.lt
          have hb6 : Below w2.heap.size w2 w5 := hB4.trans ⟨hB5.os, hB5.tape, hB5.output, hB5.size, fun i hi => hB5.block i (by omega)⟩
          have HLV := Lib.hid hlv
          have HL2 := Lib.hid (show BytesAt w5 (.slice (some ⟨g, 0, none⟩) j j) (wtsL (ptsL j) (ofB m)) by have := HB.out; rw [wtsL_len, HPL.out] at this; exact this)
          clear hrw hB5 hB4 hlv
          go_wp2_with (at_builtin; refine app_row rfl _ _ rfl w2.heap.size m _ _ (tblL_len j m) rfl HR5.out (.slice (some ⟨g, 0, none⟩) j j) _ HL2.out (fun b hb => own_is hb ▸ ⟨hgl, fun h => by have := (HLV.out _ h).2; omega⟩) rfl rfl (by omega) (by omega) ?_; intro g' c' w6 hR6 hk6 hs6 hg6)
          go_roundw
          case rel =>
            refine ⟨m + 1, by omega, by go_num, by rw [tblL_succ]; exact hR6, hb6.trans (hk6.toBelow (by omega) (fun i h => (HLV.out i h).1))⟩
          case measure => simp [intOf]; omega
        · obtain rfl : m = n := by omega
          go_wp2
          go_ret2
          exact ⟨_, rfl, HR.out.rows, hB3.trans ⟨hB4.os, hB4.tape, hB4.output, hB4.size, fun i hi => hB4.block i (by have := hB3.size; omega)⟩⟩

/-- A coder of n symbols, k of which are enough. -/
structure CoderAt (w : World) (bc n k : Nat) (bf : Nat) (vt : Value) : Prop where
  cells : w.heap[bc]? = some (.cells #[.pointer (some ⟨bf, 0, none⟩), vt, .int .i64 (k : Int)] 126 (0, 0))
  field : FieldAt w bf
  table : RowsAt w vt (tblL k n)
  k1 : 1 ≤ k
  kn : k ≤ n
  n255 : n ≤ 255
section
variable {w w' : World} {bc n k bf : Nat} {vt : Value}
theorem CoderAt.c0 (h : CoderAt w bc n k bf vt) : w.cell? ⟨bc, 0, none⟩ = some (.pointer (some ⟨bf, 0, none⟩)) := by rw [cell_of h.cells]; rfl
theorem CoderAt.c1 (h : CoderAt w bc n k bf vt) : w.cell? ⟨bc, 1, none⟩ = some vt := by rw [cell_of h.cells]; rfl
theorem CoderAt.c2 (h : CoderAt w bc n k bf vt) : w.cell? ⟨bc, 2, none⟩ = some (.int .i64 (k : Int)) := by rw [cell_of h.cells]; rfl
theorem CoderAt.lt (h : CoderAt w bc n k bf vt) : bc < w.heap.size := (Array.getElem?_eq_some_iff.1 h.cells).1
theorem CoderAt.kept {S : Nat → Prop} (h : CoderAt w bc n k bf vt) (hk : Kept S w w') (hS : ∀ i, i < w.heap.size → ¬ S i) : CoderAt w' bc n k bf vt :=
  ⟨(hk.block bc h.lt (hS _ h.lt)).trans h.cells, h.field.kept hk (hS _ h.field.lt), h.table.kept hk hS, h.k1, h.kn, h.n255⟩
theorem CoderAt.below (h : CoderAt w bc n k bf vt) (hb : Below w.heap.size w w') : CoderAt w' bc n k bf vt := h.kept (Kept.below hb) (fun _ _ h => h)
theorem CoderAt.dr (h : CoderAt w bc n k bf vt) (m : Nat) : CoderAt (w.drewN m) bc n k bf vt := ⟨h.cells, h.field, h.table, h.k1, h.kn, h.n255⟩
end

theorem cnew_bad (w : World) (n k : Int) (h : k < 1 ∨ n < k ∨ 255 < n) :
    Calls Tryz.prog 42 #[.int .i64 n, .int .i64 k] w fun e w' => e = .returned (.tuple #[.pointer none, .int .i64 2]) ∧ w = w' := by
  have HT := Lib.hid (table_bad w k n h)
  clear h
  go_enter Tryz.func42, Tryz.ntmps42
  go_wp2_with fail
  refine HT.out.mono ?_
  rintro e w' ⟨rfl, rfl⟩
  go_wp2
  go_ret2
  exact ⟨rfl, rfl⟩

theorem cnew_any (w : World) (n k : Nat) (h1 : 1 ≤ k) (h2 : k ≤ n) (h3 : n ≤ 255) :
    Calls Tryz.prog 42 #[.int .i64 (n : Int), .int .i64 (k : Int)] w fun e w' => ∃ bc bf vt, e = .returned (.tuple #[.pointer (some ⟨bc, 0, none⟩), .int .i64 0]) ∧ CoderAt w' bc n k bf vt ∧ Below w.heap.size w w' := by
  have HT := Lib.hid (table_any w k n h1 h2 h3)
  go_enter Tryz.func42, Tryz.ntmps42
  go_wp2_with fail
  refine HT.out.mono ?_
  rintro e w1 ⟨vt, rfl, hr, hB⟩
  obtain ⟨pt, ct, rfl⟩ := hr.shape
  have HR := Lib.hid hr
  clear hr
  have HTL := Lib.hid (tblL_len k n)
  go_wp2_with fail
  refine (fnew_any w1).mono ?_
  rintro e w2 ⟨bf, rfl, hf, hfb, hB2⟩
  have HF := Lib.hid hf
  have HR2 := Lib.hid (HR.out.below hB2)
  have hb3 : Below w.heap.size w w2 := hB.trans ⟨hB2.os, hB2.tape, hB2.output, hB2.size, fun i hi => hB2.block i (by have := hB.size; omega)⟩
  have hs3 := hb3.size
  clear hf hB hB2
  go_wp2
  go_ret2
  exact ⟨_, bf, _, rfl, ⟨heap_alloc_new w2 _, HF.out.kept (Kept.alloc (fun _ => False) _ _) (fun h => h), HR2.out.kept (Kept.alloc (fun _ => False) _ _) (fun _ _ h => h), h1, h2, h3⟩, hb3.alloc hs3 _⟩
end -- CodeLc

section -- CodeQa
open Go.RowKit Go.Maps
set_option linter.unusedVariables false
set_option maxRecDepth 100000
set_option maxHeartbeats 2000000

/-- The sum of the first m rows, and of one more in the first t places. -/
def mixQ (ws : List B) (l : List (List B)) (wide m t : Nat) : List B := (List.range wide).map fun i => if i < t then sm (m + 1) (fun k => (l.getD k []).getD i 0 * ws.getD k 0) else sm m (fun k => (l.getD k []).getD i 0 * ws.getD k 0)
theorem mixQ_len (ws : List B) (l : List (List B)) (wide m t : Nat) : (mixQ ws l wide m t).length = wide := by simp [mixQ]
theorem mixQ_get {ws : List B} {l : List (List B)} {wide m t : Nat} (h : t < wide) : (mixQ ws l wide m t).getD t 0 = sm m (fun k => (l.getD k []).getD t 0 * ws.getD k 0) := by
  unfold mixQ
  rw [getD_range _ _ h, if_neg (by omega)]
theorem mixQ_set {ws : List B} {l : List (List B)} {wide m t : Nat} (h : t < wide) : (mixQ ws l wide m t).set t (sm m (fun k => (l.getD k []).getD t 0 * ws.getD k 0) + (l.getD m []).getD t 0 * ws.getD m 0) = mixQ ws l wide m (t + 1) := by
  apply List.ext_getElem
  · simp [mixQ]
  · intro i h1 h2
    simp [mixQ] at h1
    rw [List.getElem_set]
    simp only [mixQ, List.getElem_map, List.getElem_range]
    by_cases e : t = i
    · subst e; rw [if_pos rfl, if_pos (by omega)]; rfl
    · rw [if_neg e]
      by_cases q : i < t
      · rw [if_pos q, if_pos (by omega)]
      · rw [if_neg q, if_neg (by omega)]
theorem mixQ_next (ws : List B) (l : List (List B)) (wide m : Nat) : mixQ ws l wide m wide = mixQ ws l wide (m + 1) 0 := by
  unfold mixQ
  apply List.map_congr_left
  intro i hi
  have := List.mem_range.1 hi
  rw [if_pos this, if_neg (by omega)]
theorem mixQ_skip {ws : List B} {l : List (List B)} {wide m : Nat} (h : ws.getD m 0 = 0) : mixQ ws l wide m 0 = mixQ ws l wide (m + 1) 0 := by
  unfold mixQ
  apply List.map_congr_left
  intro i hi
  rw [if_neg (by omega), if_neg (by omega)]
  show _ = sm m _ + (l.getD m []).getD i 0 * ws.getD m 0
  rw [h]; grind
theorem mixQ_start (ws : List B) (l : List (List B)) (wide : Nat) : mixQ ws l wide 0 0 = List.replicate wide 0 := by
  apply List.ext_getElem
  · simp [mixQ]
  · intro i h1 h2
    simp [mixQ, sm]
theorem mixQ_end (ws : List B) (l : List (List B)) (wide : Nat) : mixQ ws l wide ws.length 0 = mixL ws l wide := by
  unfold mixQ mixL
  apply List.map_congr_left
  intro i hi
  rw [if_neg (by omega)]
end -- CodeQa

section -- CodeQb
open Go.RowKit Go.Maps
set_option linter.unusedVariables false
set_option maxRecDepth 100000
set_option maxHeartbeats 2000000

theorem there_yes (w : World) {bc n k bf : Nat} {vt : Value} (hc : CoderAt w bc n k bf vt) :
    Calls Tryz.prog 56 #[.pointer (some ⟨bc, 0, none⟩)] w fun e w' => e = .returned (.bool true) ∧ w = w' := by
  have d2 := hc.c2
  have k1 : (0 : Int) < k := by have := hc.k1; omega
  have k2 : 0 < k := by omega
  clear hc
  go_enter Tryz.func56, Tryz.ntmps56
  go_wp2
  go_ret
  exact ⟨rfl, rfl⟩
end -- CodeQb

section -- RefH
open Go.RowKit Go.Maps
set_option linter.unusedVariables false
set_option maxRecDepth 100000
set_option maxHeartbeats 2000000

/-- The reference's coder. -/
def RCoderAt (w : World) (b n k : Nat) : Prop := w.heap[b]? = some (.cells #[.int .i64 (n : Int), .int .i64 (k : Int)] 103 (0, 0))
section
variable {w w' : World} {b n k : Nat}
theorem RCoderAt.lt (h : RCoderAt w b n k) : b < w.heap.size := (Array.getElem?_eq_some_iff.1 h).1
theorem RCoderAt.below (h : RCoderAt w b n k) (hb : Below w.heap.size w w') : RCoderAt w' b n k := (hb.block b h.lt).trans h
theorem RCoderAt.c0 (h : RCoderAt w b n k) : w.cell? ⟨b, 0, none⟩ = some (.int .i64 (n : Int)) := by rw [cell_of h]; rfl
theorem RCoderAt.c1 (h : RCoderAt w b n k) : w.cell? ⟨b, 1, none⟩ = some (.int .i64 (k : Int)) := by rw [cell_of h]; rfl
end

theorem rnew_any (w : World) (n k : Nat) (hk : 1 ≤ k) (hkn : k ≤ n) (hn : n ≤ 255) :
    Calls Tryz.prog 29 #[.int .i64 (n : Int), .int .i64 (k : Int)] w fun e w' => ∃ b, e = .returned (.tuple #[.pointer (some ⟨b, 0, none⟩), .int .i64 0]) ∧ RCoderAt w' b n k ∧ Below w.heap.size w w' := by
  have h1 : ¬ (k : Int) < 1 := by omega
  have h2 : ¬ (n : Int) < k := by omega
  have h3 : ¬ (255 : Int) < n := by omega
  have HC := Lib.hid (show RCoderAt (w.alloc (.cells #[.int .i64 (n : Int), .int .i64 (k : Int)] 103)) w.heap.size n k from heap_alloc_new w _)
  have HB := Lib.hid (bal' w (.cells #[.int .i64 (n : Int), .int .i64 (k : Int)] 103))
  go_enter Tryz.func29, Tryz.ntmps29
  go_wp2
  go_ret2
  exact ⟨_, rfl, HC.out, HB.out⟩

theorem rnew_bad (w : World) (n k : Int) (h : k < 1 ∨ n < k ∨ 255 < n) :
    Calls Tryz.prog 29 #[.int .i64 n, .int .i64 k] w fun e w' => e = .returned (.tuple #[.pointer none, .int .i64 2]) ∧ w = w' := by
  go_enter Tryz.func29, Tryz.ntmps29
  go_wp2
  all_goals
    first
      | (exfalso; omega)
      | (go_ret2; exact ⟨rfl, rfl⟩)

theorem ofB_mk {k : Nat} (h : k < 256) : (⟨k, h⟩ : B) = ofB k := B.ext (Nat.mod_eq_of_lt h).symm

theorem rpoints_any (w : World) (n : Nat) (hn : n ≤ 255) :
    Calls Tryz.prog 51 #[.int .i64 (n : Int)] w fun e w' => ∃ v, e = .returned v ∧ Own w' w.heap.size v (ptsL n) ∧ Below w.heap.size w w' := by
  go_enter Tryz.func51, Tryz.ntmps51
  go_wp2
  go_loopw [3, 4] (fun v i wr => ∃ k : Nat, k ≤ n ∧ i = .int .i64 (k : Int) ∧ Own wr w.heap.size v (ptsL k) ∧ Below w.heap.size w wr) (fun _ i _ => n - (intOf i).toNat)
  case atStart => exact ⟨0, Nat.zero_le _, rfl, Own.nil _ _, Below.refl _ _⟩
  case round =>
    obtain ⟨k, hk, rfl, ho, hB⟩ := hrel
    obtain ⟨pv, cv, rfl⟩ := ho.shape
    rw [ptsL_len] at ho ⊢
    have HOV := Lib.hid ho
    have HBR := Lib.hid hB
    have hsr := hB.size
    clear ho hB
    by_cases hlt : k < n
    · have hk2 : k < 256 := by omega
      have HS := Lib.hid (show ptsL k ++ [(⟨k, hk2⟩ : B)] = ptsL (k + 1) by rw [ofB_mk, ptsL_succ])
      go_wp2_with (at_builtin; refine app_own rfl _ _ rfl w.heap.size k _ _ ⟨k, hk2⟩ (ptsL_len _) HOV.out rfl rfl (by omega) hsr ?_; intro g' c' w6 hR6 hk6 hs6 hg6)
      go_roundw
      case rel =>
        refine ⟨k + 1, by omega, by go_num, by rw [← HS.out]; exact hR6, HBR.out.trans (hk6.toBelow hsr (fun i hi => (HOV.out.blk i hi).1))⟩
      case measure => simp [intOf]; omega
    · obtain rfl : k = n := by omega
      go_wp2
      go_ret
      exact ⟨_, rfl, HOV.out, HBR.out⟩
end -- RefH

end Go.Proofs.YtlmpagicjgldkaaGreat
