/-
  CodeJ: Walks of layer 1 (field): Inv, Div.
  CodeK: Walks of layer 1 (field): made, New.
  CodeLa: Walks of layer 4 (lagr): slices.Index, over.
-/
import Derived.Test.YtibelpamolcmcaaMxac
import Derived.Deep.WholeRow
import Derived.Test.YtibelpamolcmcaaMxad
namespace Go.Proofs.Ytibelpamolcmcaa

section -- CodeJ
open Go.RowKit Go.Maps

set_option maxRecDepth 100000
set_option maxHeartbeats 2000000
end -- CodeJ

section -- CodeK
open Go.RowKit Go.Maps

set_option maxRecDepth 100000
set_option maxHeartbeats 2000000

theorem expN_inj {i j : Nat} (hi : i < 255) (hj : j < 255) (h : expN i = expN j) : i = j := by
  have a := (exp_facts hi).2.2.1
  have b := (exp_facts hj).2.2.1
  rw [h] at a
  omega

theorem i64_xor_nat (a b : Nat) (ha : a < 4611686018427387904) (hb : b < 4611686018427387904) : bits .xor .i64 (a : Int) (b : Int) = ((a ^^^ b : Nat) : Int) := by
  have hx : a ^^^ b < 2 ^ 62 := Nat.xor_lt_two_pow (by omega) (by omega)
  show IntKind.i64.wrap ((BitVec.ofInt 64 (a : Int) ^^^ BitVec.ofInt 64 (b : Int)).toNat : Int) = _
  rw [BitVec.toNat_xor, ofInt_u64 a (by omega), ofInt_u64 b (by omega)]
  exact IntWalk.i64_in ((a ^^^ b : Nat) : Int) (by omega)

/-- The tables are whole: as a field wants them. -/
theorem tab_whole {C : Array Value} (h3 : ∀ i : Nat, i < 255 → C[i]? = some (.int .u8 ((expN i : Nat) : Int)) ∧ C[i + 255]? = some (.int .u8 ((expN i : Nat) : Int)) ∧ C[510 + expN i]? = some (.int .u8 (i : Int))) (h4 : C[510]? = some (.int .u8 0)) :
    (∀ i : Nat, i < 510 → C[i]? = some (.int .u8 ((expN (i % 255) : Nat) : Int))) ∧ (∀ a : Nat, a < 256 → C[510 + a]? = some (.int .u8 ((logN a : Nat) : Int))) := by
  refine ⟨fun i hi => ?_, fun a ha => ?_⟩
  · by_cases e : i < 255
    · rw [Nat.mod_eq_of_lt e]; exact (h3 i e).1
    · have := (h3 (i - 255) (by omega)).2.1
      rw [show i - 255 + 255 = i by omega] at this
      rw [show i % 255 = i - 255 by omega]; exact this
  · by_cases e : a = 0
    · subst e; exact h4
    · obtain ⟨p, q⟩ := log_facts (a := a) (by omega) ha
      have := (h3 (logN a) p).2.2
      rw [q] at this; exact this

theorem one_cells {C : Array Value} (h2 : C.size = 766) (h3 : ∀ i : Nat, i < 510 → C[i]? = some (.int .u8 ((expN (i % 255) : Nat) : Int))) (h4 : ∀ a : Nat, a < 256 → C[510 + a]? = some (.int .u8 ((logN a : Nat) : Int))) : C.all (·.oneCell') = true := by
  rw [Array.all_eq_true]
  intro i hi
  have : C[i]? = some C[i] := Array.getElem?_eq_getElem hi
  by_cases e : i < 510
  · rw [h3 i e] at this
    rw [← Option.some.inj this]; rfl
  · have q := h4 (i - 510) (by omega)
    rw [show 510 + (i - 510) = i by omega, this] at q
    rw [Option.some.inj q]; rfl

theorem fold_list (f : Array Value → Value × Nat → Array Value) (hf : f = fun cs x => cs.setIfInBounds x.2 x.1) : ∀ (l : List Value) (k : Nat) (Z : Array Value), k + l.length ≤ Z.size →
    ((l.zipIdx k).foldl f Z).size = Z.size ∧ (∀ i, i < l.length → ((l.zipIdx k).foldl f Z)[k + i]? = l[i]?) ∧ (∀ i, i < k → ((l.zipIdx k).foldl f Z)[i]? = Z[i]?)
  | [], k, Z, _ => ⟨rfl, fun i h => absurd h (by simp), fun _ _ => rfl⟩
  | a :: l, k, Z, h => by
    simp only [List.length_cons] at h
    have ih := fold_list f hf l (k + 1) (f Z (a, k)) (by subst hf; simp; omega)
    simp only [List.zipIdx_cons, List.foldl_cons]
    refine ⟨by rw [ih.1]; subst hf; simp, fun i hi => ?_, fun i hi => ?_⟩
    · cases i with
      | zero =>
        simp only [Nat.add_zero]
        rw [ih.2.2 k (by omega)]
        subst hf
        rw [Array.getElem?_setIfInBounds_self_of_lt (by omega)]; rfl
      | succ i =>
        have := ih.2.1 i (by simpa using hi)
        rw [show k + (i + 1) = k + 1 + i by omega, this]; simp
    · rw [ih.2.2 i (by omega)]
      subst hf
      exact Array.getElem?_setIfInBounds_ne (by omega)

theorem fold_fill (C Z : Array Value) (n : Nat) (hn : C.size = n) (h : n ≤ Z.size) : ∃ R : Array Value, Array.foldl (fun cs x => cs.setIfInBounds x.snd x.fst) Z C.zipIdx 0 n = R ∧ R.size = Z.size ∧ ∀ i, i < n → R[i]? = C[i]? := by
  refine ⟨_, rfl, ?_⟩
  have e : Array.foldl (fun (cs : Array Value) (x : Value × Nat) => cs.setIfInBounds x.snd x.fst) Z C.zipIdx 0 n = (C.toList.zipIdx 0).foldl (fun cs x => cs.setIfInBounds x.2 x.1) Z := by
    rw [← Array.toList_zipIdx, Array.foldl_toList, Array.size_zipIdx, hn]
  have := fold_list _ rfl C.toList 0 Z (by simp; omega)
  rw [e]
  refine ⟨this.1, fun i hi => ?_⟩
  have q := this.2.1 i (by simpa [hn] using hi)
  rw [Nat.zero_add] at q
  rw [q]; simp
end -- CodeK

section -- CodeLa
open Go.RowKit Go.Maps
set_option linter.unusedVariables false
set_option maxRecDepth 100000
set_option maxHeartbeats 2000000

theorem apart_take {xs : List B} {k : Nat} (h : k < xs.length) : (apartL xs).take k ++ [pS xs k (xs.getD k 0) xs.length] = (apartL xs).take (k + 1) := by
  have hl : k < (apartL xs).length := by rw [apartL_len]; exact h
  rw [List.take_succ_eq_append_getElem hl]
  congr 2
  rw [pS_eq xs k _ _ (Nat.le_refl _), List.take_of_length_le (Nat.le_refl _)]
  simp [apartL]
end -- CodeLa

end Go.Proofs.Ytibelpamolcmcaa
