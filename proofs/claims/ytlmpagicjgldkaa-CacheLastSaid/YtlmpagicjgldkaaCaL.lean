/-
  Turn: the matrix that was asked for, in rows of its own.
-/
import Derived.Test.YtlmpagicjgldkaaCaK
namespace Go.Proofs.Ytlmpagicjgldkaa
open Go.RowKit Go.Maps
set_option linter.unusedVariables false
set_option linter.unusedSimpArgs false
set_option maxRecDepth 100000
set_option maxHeartbeats 2000000

theorem turnL_lenC (k : Nat) (ys : List B) : (turnL k ys).length = k := by simp [turnL]
theorem matW_lone {w : World} {base gm k : Nat} {U : Nat → Nat × Nat} {ys : List B} (h : MatW w gm k k U (fun r s => lag ys s (ofB r))) (hy : ys.length = k) (hk : k ≤ 255) (hb : ∀ i, matB gm k U i → base ≤ i) : RowsLone w base (.slice (some ⟨gm, 0, none⟩) k k) (turnL k ys) := by
  obtain ⟨C, h1, h2, h3⟩ := h.outer
  have hrow : ∀ r, r < k → Own w base (.slice (some ⟨(U r).1, 0, none⟩) k (U r).2) (wtsL ys (ofB r)) := fun r hr => by
    have := (h.row r hr).own (hb _ (.inr ⟨r, hr, rfl⟩))
    rw [rowL_len] at this
    have e : wtsL ys (ofB r) = rowL k (fun s => lag ys s (ofB r)) := by unfold wtsL rowL; rw [hy]
    rw [e]; exact this
  have get : ∀ i u, ((List.range k).map fun r => Value.slice (some ⟨(U r).1, 0, none⟩) k (U r).2)[i]? = some u → i < k ∧ u = .slice (some ⟨(U i).1, 0, none⟩) k (U i).2 := fun i u hu => by
    have hi : i < k := by
      have := (List.getElem?_eq_some_iff.1 hu).1
      simpa using this
    refine ⟨hi, ?_⟩
    simpa [hi] using hu.symm
  refine ⟨(List.range k).map fun r => .slice (some ⟨(U r).1, 0, none⟩) k (U r).2, ⟨by simp [turnL_lenC], .inr ⟨gm, k, C, by rw [turnL_lenC], hb gm (.inl rfl), h1, by rw [turnL_lenC]; exact Nat.le_refl _, by unfold maxLen; omega, by omega, ?_⟩⟩, fun i u hu => ?_, fun i j u z b hi hj e1 e2 => ?_⟩
  · rw [turnL_lenC]
    apply List.ext_getElem?
    intro i
    by_cases e : i < k
    · rw [List.getElem?_take, if_pos (by omega), Array.getElem?_toList, h3 i e]
      simp [e]
    · rw [List.getElem?_eq_none (by simp; omega), List.getElem?_eq_none (by simp; omega)]
  · obtain ⟨hi, rfl⟩ := get i u hu
    have e : (turnL k ys).getD i [] = wtsL ys (ofB i) := getD_range _ _ hi
    rw [e]
    refine ⟨hrow i hi, fun b hb' e2 => h.ne i hi ?_⟩
    rw [own_is hb', own_is e2]
  · obtain ⟨hi', rfl⟩ := get i u hi
    obtain ⟨hj', rfl⟩ := get j z hj
    exact h.inj i j hi' hj' (by rw [own_is e1, own_is e2])

/-- What Turn leaves. -/
def Told (w : World) (F : Nat → Prop) (b bm : Nat) (s : CS) (q : Nat × List Int) (R : List (List B)) (e : Ending) (w' : World) : Prop :=
  ∃ s' base v, e = .returned (.tuple #[v, .int .i64 0]) ∧ RowsLone w' base v R ∧ w.heap.size ≤ base ∧ base ≤ w'.heap.size ∧ (∀ w2, Below base w' w2 → CacheAt w2 F b bm s') ∧ s'.plain = s.plain.ask q ∧ Kept (CK b bm) w w'

theorem turn_c_bad (w : World) {F : Nat → Prop} {b bm : Nat} {s : CS} (hc : CacheAt w F b bm s) (k : Int) (v : Value) (xs : List Int) (hv : IntsAt w v xs) (hl : xs.length ≤ 1000000) (he : askErr s.n k xs ≠ 0) :
    Calls Try.prog 9 #[.pointer (some ⟨b, 0, none⟩), .int .i64 k, v] w fun e' w' => e' = .returned (.tuple #[.slice none 0 0, .int .i64 (askErr s.n k xs)]) ∧ Below w.heap.size w w' := by
  have HA := Lib.hid (ask_bad w hc k v xs hv hl he)
  have HC := Lib.hid hc
  obtain ⟨p, cap, hvv, _⟩ := hv
  subst hvv
  obtain ⟨ae, hae⟩ : ∃ x, askErr s.n k xs = x := ⟨_, rfl⟩
  rw [hae] at HA ⊢
  clear hc he hae
  go_enter Try.func9, Try.ntmps9
  go_wp2_with fail
  refine (there_c w HC.out).mono ?_
  rintro e w' ⟨rfl, rfl⟩
  go_wp2_with fail
  refine HA.out.mono ?_
  rintro e w1 ⟨rfl, hB⟩
  go_wp2
  go_loopw [6, 23] (fun v6 i wr => v6 = .slice none 0 0 ∧ i = .int .i64 0 ∧ w1 = wr) (fun _ _ _ => 0)
  case atStart => exact ⟨rfl, rfl, rfl⟩
  case round =>
    obtain ⟨rfl, rfl, rfl⟩ := hrel
    go_wp2
    go_ret2
    exact ⟨rfl, hB⟩

theorem turn_c_any (w : World) {F : Nat → Prop} {b bm : Nat} {s : CS} (hc : CacheAt w F b bm s) (hF : ∀ i, F i → i < w.heap.size) (K : Nat) (v : Value) (xs : List Int) (hv : IntsAt w v xs) (hl : xs.length ≤ 1000000) (h1 : 1 ≤ K) (h2 : K ≤ s.n) (ho : AskOk s.n K xs)
    (hnow : s.now < 1000000000) (hhit : s.hits < 1000000000) (hmis : s.misses < 1000000000) (hdrp : s.dropped < 1000000000) :
    Calls Try.prog 9 #[.pointer (some ⟨b, 0, none⟩), .int .i64 (K : Int), v] w (Told w F b bm s (K, xs.take K) (turnL K (idxB (xs.take K)))) := by
  have HA := Lib.hid (ask_any w hc hF K v xs hv hl h1 h2 ho hnow hhit hmis hdrp)
  have HC := Lib.hid hc
  have h255 := hc.n255
  have HYL := Lib.hid (show (idxB (xs.take K)).length = K by rw [idxB_len, List.length_take]; have := ho.len; omega)
  obtain ⟨p, cap, hvv, _⟩ := hv
  subst hvv
  clear hc ho hF
  go_enter Try.func9, Try.ntmps9
  go_wp2_with fail
  refine (there_c w HC.out).mono ?_
  rintro e w' ⟨rfl, rfl⟩
  go_wp2_with fail
  refine HA.out.mono ?_
  rintro e w1 ⟨s', x, rfl, hx, hk, hxs, hc1, hp, hk1⟩
  obtain ⟨U, hM, hU⟩ := hc1.mat x hx
  rw [hk, hxs] at hM
  have HM := Lib.hid hM
  have HVV := Lib.hid (show x.v = .slice (some ⟨x.gm, 0, none⟩) K K by unfold CE.v; rw [hk])
  have HC1 := Lib.hid hc1
  have HP := Lib.hid hp
  have HK1 := Lib.hid hk1
  have hs1 := hk1.size
  rw [HVV.out]
  obtain ⟨gm, hgm⟩ : ∃ g, x.gm = g := ⟨_, rfl⟩
  rw [hgm] at HM ⊢
  have hgl := HM.out.lt
  clear hM hU hc1 hp hk1 hgm hx hk hxs
  obtain ⟨ys, hys⟩ : ∃ ys, idxB (xs.take K) = ys := ⟨_, rfl⟩
  have HYS := Lib.hid hys
  rw [hys] at HM HYL
  clear hys
  go_wp2
  go_loopw [6, 10, 23] (fun v6 _ i wr => ∃ m : Nat, m ≤ K ∧ i = .int .i64 (m : Int) ∧ RowsLone wr w1.heap.size v6 ((turnL K ys).take m) ∧ Below w1.heap.size w1 wr) (fun _ _ i _ => K - (intOf i).toNat)
  case atStart => exact ⟨0, Nat.zero_le _, rfl, RowsLone.nil _ _, Below.refl _ _⟩
  case round =>
    obtain ⟨m, hm, rfl, ho, hB⟩ := hrel
    have HO := Lib.hid ho
    clear ho
    have hsr := hB.size
    by_cases hlt : m < K
    · have hM2 := HM.out.kept (Kept.below hB) (fun _ _ h => h)
      have e1 := hM2.out hlt
      have HCE := Lib.hid (show ∀ i, i < K → wr.cell? ⟨(U m).1, 0 + i, none⟩ = some (bv ((wtsL ys (ofB m)).getD i 0)) from fun i hi => by
        have h := hM2.cell hlt hi
        rw [Nat.zero_add, h]
        have : (wtsL ys (ofB m)).getD i 0 = lag ys i (ofB m) := by
          unfold wtsL
          rw [getD_range _ _ (by rw [HYL.out]; exact hi)]
        rw [this])
      have HWL := Lib.hid (show (wtsL ys (ofB m)).length = K by rw [wtsL_len, HYL.out])
      have HSN := Lib.hid (show (turnL K ys).take m ++ [wtsL ys (ofB m)] = (turnL K ys).take (m + 1) by
        rw [List.take_succ_eq_append_getElem (by rw [turnL_lenC]; exact hlt)]
        simp [turnL])
      have HLM := Lib.hid (show ((turnL K ys).take m).length = m by rw [List.length_take, turnL_lenC]; omega)
      clear hM2
      go_wp2_with fail
      refine (clone_any wr (U m).1 0 K (U m).2 (wtsL ys (ofB m)) HWL.out (by omega) (by omega) HCE.out).mono ?_
      rintro e w5 ⟨g, c, rfl, hrw, hgb, hB5⟩
      have hgl5 := hrw.lt
      have hs5 := hB5.size
      have HR5 := Lib.hid (HO.out.below hB5)
      have HLV := Lib.hid HO.out.lt
      have HB6 := Lib.hid (below_more hB hB5 hsr)
      have HBY := Lib.hid (show Own w5 wr.heap.size (.slice (some ⟨g, 0, none⟩) K c) (wtsL ys (ofB m)) by have := hrw.own hgb; rw [HWL.out] at this; exact this)
      have HB5 := Lib.hid hB5
      clear hrw hB5 hB
      go_wp2_with (at_builtin; refine app_lone rfl _ _ rfl w1.heap.size m _ _ HLM.out wr HB5.out HO.out (.slice (some ⟨g, 0, none⟩) K c) _ HBY.out rfl rfl rfl (by omega) hsr ?_; intro g' c' w6 hR6 hk6 hs6 hg6)
      go_roundw
      case rel =>
        refine ⟨m + 1, by omega, by go_num, by rw [← HSN.out]; exact hR6, HB6.out.trans (hk6.toBelow (by omega) (fun i h => (HLV.out i h).1))⟩
      case measure => simp [intOf]; omega
    · obtain rfl : m = K := by omega
      go_wp2
      go_ret2
      have hRR := HO.out
      rw [List.take_of_length_le (by rw [turnL_lenC]; exact Nat.le_refl _)] at hRR
      exact ⟨s', w1.heap.size, _, rfl, by rw [HYS.out]; exact hRR, hs1, hsr, fun w2 h => HC1.out.below (hB.trans h), HP.out, HK1.out.trans ((Kept.below hB).mono (fun _ _ h => h.elim)) (fun _ _ h => h)⟩
end Go.Proofs.Ytlmpagicjgldkaa
