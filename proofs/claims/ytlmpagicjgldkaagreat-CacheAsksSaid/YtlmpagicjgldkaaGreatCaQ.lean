/-
  What the laws of layer 6 use: Pick, asks, great; coders that are none.
-/
import Derived.Test.YtlmpagicjgldkaaGreatCaP
namespace Go.Proofs.YtlmpagicjgldkaaGreat
open Go.RowKit Go.Maps
set_option linter.unusedVariables false
set_option linter.unusedSimpArgs false
set_option maxRecDepth 100000
set_option maxHeartbeats 2000000

/-- A number brought into a range. -/
def pickN (x : Int) (m : Nat) : Nat := (x % (m : Int)).toNat
theorem pickN_lt (x : Int) {m : Nat} (h : 1 ≤ m) : pickN x m < m := by
  unfold pickN
  have h1 := Int.emod_nonneg x (b := (m : Int)) (by omega)
  have h2 := Int.emod_lt_of_pos x (b := (m : Int)) (by omega)
  omega
theorem emod_tmod (n m : Int) : n % m = n.tmod m % m := by
  have h : (n.tmod m + m * n.tdiv m) % m = n.tmod m % m := Int.add_mul_emod_self_left _ _ _
  rw [Int.tmod_add_mul_tdiv] at h
  exact h
theorem pick_ex (w : World) (n : Int) (m : Nat) (h1 : 1 ≤ m) (h2 : m ≤ 1000000) :
    Calls Tryz.prog 10 #[.int .i64 n, .int .i64 (m : Int)] w fun e w' => e = .returned (.int .i64 (pickN n m : Int)) ∧ w = w' := by
  have e1 : ¬ ((m : Int) < 1) := by omega
  have e2 : ((m : Int) == 0) = false := by simp; omega
  have t1 : n.tmod m < m := Int.tmod_lt_of_pos _ (by omega)
  have t2 : -(m : Int) < n.tmod m := by
    have := Int.tmod_lt_of_pos (-n) (b := (m : Int)) (by omega)
    rw [Int.neg_tmod] at this
    omega
  have hw : wrap64 (n.tmod m + m) = n.tmod m + m := by unfold wrap64; omega
  have h0 := Int.emod_nonneg n (b := (m : Int)) (by omega)
  by_cases hneg : n.tmod m < 0
  · have e3 : ¬ 0 ≤ n.tmod m := by omega
    have HR := Lib.hid (show n.tmod m + m = (pickN n m : Int) by
      have h3 : n % (m : Int) = n.tmod m + m := by
        rw [emod_tmod, ← Int.add_emod_right]
        exact Int.emod_eq_of_lt (by omega) (by omega)
      unfold pickN
      omega)
    clear h0
    go_enter Tryz.func10, Tryz.ntmps10
    go_wp2
    go_ret
    exact ⟨by rw [← HR.out]; rfl, rfl⟩
  · have e3 : 0 ≤ n.tmod m := by omega
    have HR := Lib.hid (show n.tmod m = (pickN n m : Int) by
      have h3 : n % (m : Int) = n.tmod m := by
        rw [emod_tmod]
        exact Int.emod_eq_of_lt (by omega) (by omega)
      unfold pickN
      omega)
    clear h0
    go_enter Tryz.func10, Tryz.ntmps10
    go_wp2
    go_ret
    exact ⟨by rw [← HR.out]; rfl, rfl⟩

/-- What is asked. -/
structure AskI where
  what : Int
  k : Int
  long : Int
  first : B
  ix : List Int
/-- Asks in memory. -/
def AsksAt (w : World) (v : Value) (l : List AskI) : Prop := ∃ p cap, v = .slice p l.length cap ∧ l.length ≤ cap ∧ (0 < l.length → ∃ g off, p = some ⟨g, off, none⟩ ∧ ∀ i (h : i < l.length),
  w.cell? ⟨g, off + i * 5, none⟩ = some (.int .i64 l[i].what) ∧ w.cell? ⟨g, off + i * 5 + 1, none⟩ = some (.int .i64 l[i].k) ∧ w.cell? ⟨g, off + i * 5 + 2, none⟩ = some (.int .i64 l[i].long) ∧
  w.cell? ⟨g, off + i * 5 + 3, none⟩ = some (bv l[i].first) ∧ ∃ u, w.cell? ⟨g, off + i * 5 + 4, none⟩ = some u ∧ IntsAt w u l[i].ix)
theorem AsksAt.below {w w' : World} {v : Value} {l : List AskI} (h : AsksAt w v l) (hb : Below w.heap.size w w') : AsksAt w' v l := by
  obtain ⟨p, cap, rfl, hcap, hh⟩ := h
  refine ⟨p, cap, rfl, hcap, fun hl => ?_⟩
  obtain ⟨g, off, rfl, hc⟩ := hh hl
  have hlt := blt (hc 0 hl).1
  refine ⟨g, off, rfl, fun i hi => ?_⟩
  obtain ⟨a, b, c, d, u, e, f⟩ := hc i hi
  exact ⟨(hb.cell (p := ⟨g, off + i * 5, none⟩) hlt).trans a, (hb.cell (p := ⟨g, off + i * 5 + 1, none⟩) hlt).trans b, (hb.cell (p := ⟨g, off + i * 5 + 2, none⟩) hlt).trans c, (hb.cell (p := ⟨g, off + i * 5 + 3, none⟩) hlt).trans d, u, (hb.cell (p := ⟨g, off + i * 5 + 4, none⟩) hlt).trans e, f.below hb⟩

/-- Is more asked than is gone through? If not, all is small. -/
def GreatPost (n : Int) (l : List AskI) (w : World) (e : Ending) (w' : World) : Prop :=
  (e = .returned (.bool true) ∨ (e = .returned (.bool false) ∧ n ≤ 12 ∧ l.length ≤ 300 ∧ ∀ i (h : i < l.length), l[i].ix.length ≤ 300)) ∧ ∃ q, w' = w.drewN q
theorem great_any (w : World) (n : Int) (v : Value) (l : List AskI) (hv : AsksAt w v l) (hl : l.length ≤ 140737488355328) (hr : ∀ i (h : i < l.length), l[i].ix.length ≤ 140737488355328) :
    Calls Tryz.prog 5 #[.int .i64 n, v] w (GreatPost n l w) := by
  obtain ⟨p, cap, rfl, hcap, hh⟩ := hv
  obtain ⟨L, hL⟩ : ∃ L, l.length = L := ⟨_, rfl⟩
  have HH := Lib.hid hh
  have HR := Lib.hid hr
  have HL := Lib.hid hL
  rw [hL] at hl hcap ⊢
  clear hh hr hL
  go_enter Tryz.func5, Tryz.ntmps5
  go_wp2
  go_loopw [5, 6] (fun v5 v6 wr => ∃ i M q : Nat, i ≤ L ∧ M ≤ 1000000000000000 ∧ v5 = .int .i64 (M : Int) ∧ v6 = .int .i64 (i : Int) ∧ (M ≤ 300 → L ≤ 300 ∧ ∀ j (h : j < l.length), j < i → l[j].ix.length ≤ 300) ∧ wr = w.drewN q) (fun _ v6 _ => L - (intOf v6).toNat)
  case atStart => exact ⟨0, L, 0, Nat.zero_le _, by omega, rfl, rfl, fun h => ⟨h, fun j _ hj => absurd hj (by omega)⟩, rfl⟩
  case round =>
    obtain ⟨i, M, q, hi, hM, rfl, rfl, hs, rfl⟩ := hrel
    have HS := Lib.hid hs
    clear hs
    by_cases hlt : i < L
    · have hli : i < l.length := by rw [HL.out]; exact hlt
      by_cases hm : M ≤ 300
      · obtain ⟨g, off, rfl, hc⟩ := HH.out (by omega)
        obtain ⟨_, _, x2, _, u, x4, x5⟩ := hc i hli
        obtain ⟨pu, cu, rfl, _⟩ := x5
        have hx := HR.out i hli
        obtain ⟨c, hcc⟩ : ∃ c, l[i].ix.length = c := ⟨_, rfl⟩
        obtain ⟨y, hy⟩ : ∃ y, l[i].long = y := ⟨_, rfl⟩
        rw [hcc] at x4 hx
        rw [hy] at x2
        have HCC := Lib.hid hcc
        obtain ⟨pk, hpk⟩ : ∃ pk, pickN y 6 = pk := ⟨_, rfl⟩
        have hp6 : pk < 6 := by rw [← hpk]; exact pickN_lt y (by omega)
        have HPK := Lib.hid (fun (W : World) => by have := pick_ex W y 6 (by omega) (by omega); rw [hpk] at this; exact this)
        have hnl : (c : Int) * (1 + (pk : Int)) ≤ 6 * c := by
          rw [Int.mul_comm]
          exact Int.mul_le_mul_of_nonneg_right (by omega) (by omega)
        have hnl0 : (0 : Int) ≤ (c : Int) * (1 + (pk : Int)) := Int.mul_nonneg (by omega) (by omega)
        have hnl2 : (c : Int) ≤ (c : Int) * (1 + (pk : Int)) := by
          rw [Int.mul_add, Int.mul_one]
          have := Int.mul_nonneg (a := (c : Int)) (b := (pk : Int)) (by omega) (by omega)
          omega
        have w1 : IntKind.i64.wrap ((c : Int) * (1 + (pk : Int))) = (c : Int) * (1 + (pk : Int)) := by simp [IntKind.wrap, IntKind.signed, IntKind.bits]; omega
        have w2 : IntKind.i64.wrap ((M : Int) + (c : Int) * (1 + (pk : Int))) = (M : Int) + (c : Int) * (1 + (pk : Int)) := by simp [IntKind.wrap, IntKind.signed, IntKind.bits]; omega
        have w3 : IntKind.i64.wrap (1 + (pk : Int)) = 1 + (pk : Int) := by simp [IntKind.wrap, IntKind.signed, IntKind.bits]; omega
        have HN0 := Lib.hid hnl0
        have HN1 := Lib.hid hnl
        have HN2 := Lib.hid hnl2
        clear hc hcc hy hpk hnl hnl0 hnl2
        go_wp2_with fail
        go_quiet ((go_at_call 10; exact q_add_same (HPK.out _)))
        go_wp2
        go_roundw
        case rel =>
          have hcast : ((M + c * (1 + pk) : Nat) : Int) = (M : Int) + (c : Int) * (1 + (pk : Int)) := by simp
          have hb : c * (1 + pk) ≤ 6 * c := by rw [Nat.mul_comm]; exact Nat.mul_le_mul_right _ (by omega)
          have hb2 : c ≤ c * (1 + pk) := Nat.le_mul_of_pos_right _ (by omega)
          refine ⟨i + 1, (M + c * (1 + pk)), _, by omega, by omega, by rw [hcast], by go_num, fun h => ⟨(HS.out hm).1, fun j hj hji => ?_⟩, rfl⟩
          by_cases e : j = i
          · subst e
            rw [HCC.out]
            omega
          · exact (HS.out hm).2 j hj (by omega)
        case measure => simp [intOf]; omega
      · have hm2 : ¬ (M : Int) ≤ 300 := by omega
        have hm5 : decide ((M : Int) > 300) = true := by simp; omega
        by_cases hn : n > 12
        · go_wp2
          go_ret
          exact ⟨.inl rfl, q, rfl⟩
        · go_wp2
          go_ret
          exact ⟨.inl rfl, q, rfl⟩
    · obtain rfl : i = L := by omega
      by_cases hn : n > 12
      · go_wp2
        go_ret
        exact ⟨.inl rfl, q, rfl⟩
      · by_cases hm : M ≤ 300
        · have hm2 : ¬ (M : Int) > 300 := by omega
          go_wp2
          go_ret
          exact ⟨.inr ⟨rfl, by omega, by rw [HL.out]; exact (HS.out hm).1, fun j hj => (HS.out hm).2 j hj (by rw [HL.out] at hj; exact hj)⟩, q, rfl⟩
        · have hm2 : (M : Int) > 300 := by omega
          go_wp2
          go_ret
          exact ⟨.inl rfl, q, rfl⟩
end Go.Proofs.YtlmpagicjgldkaaGreat
