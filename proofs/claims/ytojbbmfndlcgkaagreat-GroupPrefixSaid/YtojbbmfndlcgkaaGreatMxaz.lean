/-
  Layer 9, walks: Cut: a layer as rows of one block.
-/
import Derived.Test.YtojbbmfndlcgkaaGreatMxay
import Derived.Test.YtojbbmfndlcgkaaGreatMxap
import Derived.Maps.OwnIn
namespace Go.Proofs.YtojbbmfndlcgkaaGreat
open Go.RowKit Go.Maps Go.Shelf

attribute [local go_sem] Oper.semAt_some
set_option linter.unusedVariables false
set_option linter.unusedSimpArgs false
set_option maxRecDepth 100000
set_option maxHeartbeats 2000000

/-- copy, into the first part of a block. -/
theorem run_copy_part {W : World} {g n m c : Nat} {p : Option Addr} {cu : Nat} {z l : List B} (hz : RowF W g z) (hzn : z.length = n) (hlm : l.length = m) (hmn : m ≤ n) (hs : 0 < m → ∃ gs os, p = some ⟨gs, os, none⟩ ∧ ∀ i, i < m → W.cell? ⟨gs, os + i, none⟩ = some (bv (l.getD i 0))) :
    ∃ W5, (Builtin.copy_ #[39, 39] 3 #[.slice (some ⟨g, 0, none⟩) n c, .slice p m cu]).run Tryz.prog W = .ok (.int .i64 (m : Int)) W5 ∧ RowF W5 g (l ++ z.drop m) ∧ Kept (fun i => i = g) W W5 := by
  by_cases h0 : m = 0
  · subst h0
    have : l = [] := List.eq_nil_of_length_eq_zero hlm
    subst this
    exact ⟨W, run_copy_none W _ _ _ 5 _ p n c 0 cu Tryz.underlying39 infoB1 (Nat.zero_min n), by simpa using hz, Kept.refl _ _⟩
  · obtain ⟨gs, os, rfl, hc⟩ := hs (by omega)
    have hr := run_copy_row (P := Tryz.prog) W 39 39 3 5 g 0 n c ⟨gs, os, none⟩ m cu (z.map bv).toArray 5 (l.map bv) Tryz.underlying39 infoB1 hz (by simp [hlm]; exact (Nat.min_eq_left hmn).symm) (fun j v hj => by
      have hjn : j < l.length := by
        have := (List.getElem?_eq_some_iff.1 hj).1
        simpa using this
      have e : (⟨gs, os, none⟩ : Addr).add j = ⟨gs, os + j, none⟩ := by unfold Addr.add; split <;> simp_all
      rw [e, hc j (by omega)]
      rw [map_getD_bv hjn] at hj
      exact hj) (by simp [hzn, hlm]; omega) (fun v hv => by obtain ⟨x, _, rfl⟩ := List.mem_map.1 hv; rfl)
    refine ⟨W.setRow g (l.map bv ++ (z.map bv).drop m).toArray, by simpa [goInt, hlm] using hr, ?_, ⟨rfl, rfl, rfl, by simp, fun i _ hi => setRow_other _ _ _ _ hi⟩⟩
    have := setRow_heap W g _ (l.map bv ++ (z.map bv).drop m).toArray _ _ hz
    unfold RowF
    rw [this, List.map_append, List.map_drop]

/-- The rows of a block. -/
def rowV (g wd i : Nat) : Value := .slice (some ⟨g, i * wd, none⟩) wd wd
abbrev encR (g wd i : Nat) : Array Value := #[.slice (some ⟨g, i * wd, none⟩) wd wd]

theorem sstripes_in (m : Nat) (p : Option Addr) (n c : Nat) (k : Int) (w : World) :
    CallsIn Fence.wide m Tryz.prog 45 #[.slice p n c, .int .i64 k] w fun e w' => e = .returned (.func (.func 58) #[] #[.pointer (some ⟨w.heap.size, 0, none⟩), .pointer (some ⟨w.heap.size + 1, 0, none⟩)]) ∧ w' = (w.alloc (.cells #[.slice p n c] 39)).alloc (.cells #[.int .i64 k] 3) := by
  refine callsIn_of_wp Tryz.func45 rfl trivial ?_ rfl
  simp only [Tryz.ntmps45, List.size_toArray, List.length_cons, List.length_nil, Nat.reduceAdd, Nat.reduceSub, Array.replicate_succ, Array.replicate_zero, List.push_toArray, List.append_toArray, List.nil_append, List.cons_append]
  gi_wp2
  go_ret
  exact ⟨rfl, rfl⟩

theorem sstripes1_zero (m : Nat) (hm1 : 1 ≤ m) (l Ba Bk g k c : Nat) (hk1 : 1 ≤ k) (hk2 : k ≤ 255) (w0 : World) (S : Nat → Prop) (hSa : ¬ S Ba) (hSk : ¬ S Bk) (hba : Boxed w0 Ba 39 (.slice (some ⟨g, 0, none⟩) 0 c)) (hbk : Boxed w0 Bk 3 (.int .i64 (k : Int))) (J Jx : List Nat → World → Prop)
    (hY : ∀ pre x W, J pre W → pre.length < k → YieldAt Fence.wide (m - 1) Tryz.prog l (encR g 0 x) W fun e W' =>
      (e = .returned (.bool true) ∧ J (pre ++ [x]) W' ∧ KC S W W') ∨ (e = .returned (.bool false) ∧ Jx (pre ++ [x]) W'))
    (W : World) (hW : KC S w0 W) (h0 : J [] W) :
    CallsIn Fence.wide m Tryz.prog 58 #[.func (.yield l) #[] #[], .pointer (some ⟨Ba, 0, none⟩), .pointer (some ⟨Bk, 0, none⟩)] W fun e W' => (∃ v, e = .returned v) ∧
      ((∃ ss, ss = List.range k ∧ J ss W') ∨ (∃ pre, True ∧ Jx pre W')) := by
  have HBA := Lib.hid hba
  have HBK := Lib.hid hbk
  have HY := Lib.hid hY
  have HW := Lib.hid hW
  have a1 := hW.cell (p := ⟨Ba, 0, none⟩) hSa hba.cell
  have k1 := hW.cell (p := ⟨Bk, 0, none⟩) hSk hbk.cell
  clear hba hbk hY hW
  refine callsIn_of_wp Tryz.func58 rfl trivial ?_ rfl
  simp only [Tryz.ntmps58, List.size_toArray, List.length_cons, List.length_nil, Nat.reduceAdd, Nat.reduceSub, Array.replicate_succ, Array.replicate_zero, List.push_toArray, List.append_toArray, List.nil_append, List.cons_append]
  gi_wp2
  gi_loopw [5, 11] (fun _ i wr => ∃ r : Nat, r ≤ k ∧ i = .int .i64 (r : Int) ∧ J (List.range r) wr ∧ KC S w0 wr) (fun _ i _ => k - (intOf i).toNat)
  case atStart => exact ⟨0, Nat.zero_le _, rfl, h0, HW.out⟩
  case round =>
    obtain ⟨wo, rfl⟩ : ∃ wo, wo = wr := ⟨_, rfl⟩
    obtain ⟨r, hr, rfl, hJr, hB⟩ := hrel
    have HB := Lib.hid hB
    by_cases hlt : r < k
    · have a2 := hB.cell (p := ⟨Ba, 0, none⟩) hSa HBA.out.cell
      obtain ⟨fn, tmps, assign, body, hy, hR⟩ := HY.out (List.range r) r wo hJr (by simpa using hlt)
      dsimp only [encR] at hy
      have HRS := Lib.hid (List.range_succ (n := r))
      have HR := Lib.hid hR
      rw [Nat.mul_zero] at hy
      clear hR hB hJr
      gi_wp2
      refine HR.out.mono ?_
      rintro e W3 (⟨rfl, hJ3, hk3⟩ | ⟨rfl, hJx3⟩)
      · gi_wp2
        go_roundw
        case rel => exact ⟨r + 1, by omega, by go_num, by rw [HRS.out]; exact hJ3, HB.out.trans hk3⟩
        case measure => simp [intOf]; omega
      · gi_wp2
        refine bodyPost_ret (results_none rfl _ _ _) rfl ?_
        exact ⟨⟨_, rfl⟩, .inr ⟨_, trivial, hJx3⟩⟩
    · obtain rfl : r = k := by omega
      gi_wp2
      go_end0
      exact ⟨⟨_, rfl⟩, .inl ⟨_, rfl, hJr⟩⟩

theorem sstripes1_pos (m : Nat) (hm1 : 1 ≤ m) (l Ba Bk g wd k c : Nat) (hk1 : 1 ≤ k) (hk2 : k ≤ 255) (hwd : wd ≤ 65535) (hz : wd ≠ 0) (hc : k * wd ≤ c) (w0 : World) (S : Nat → Prop) (hSa : ¬ S Ba) (hSk : ¬ S Bk) (hba : Boxed w0 Ba 39 (.slice (some ⟨g, 0, none⟩) (k * wd) c)) (hbk : Boxed w0 Bk 3 (.int .i64 (k : Int))) (J Jx : List Nat → World → Prop)
    (hY : ∀ pre x W, J pre W → pre.length < k → YieldAt Fence.wide (m - 1) Tryz.prog l (encR g wd x) W fun e W' =>
      (e = .returned (.bool true) ∧ J (pre ++ [x]) W' ∧ KC S W W') ∨ (e = .returned (.bool false) ∧ Jx (pre ++ [x]) W'))
    (W : World) (hW : KC S w0 W) (h0 : J [] W) :
    CallsIn Fence.wide m Tryz.prog 58 #[.func (.yield l) #[] #[], .pointer (some ⟨Ba, 0, none⟩), .pointer (some ⟨Bk, 0, none⟩)] W fun e W' => (∃ v, e = .returned v) ∧
      ((∃ ss, ss = List.range k ∧ J ss W') ∨ (∃ pre, True ∧ Jx pre W')) := by
  have HBA := Lib.hid hba
  have HBK := Lib.hid hbk
  have HY := Lib.hid hY
  have HW := Lib.hid hW
  have a1 := hW.cell (p := ⟨Ba, 0, none⟩) hSa hba.cell
  have k1 := hW.cell (p := ⟨Bk, 0, none⟩) hSk hbk.cell
  have hN : k * wd ≤ 255 * 65535 := Nat.mul_le_mul hk2 hwd
  have HPR := Lib.hid (fun (i : Nat) (hi : i < k) => show i * wd + wd ≤ k * wd from by rw [← Nat.succ_mul]; exact Nat.mul_le_mul_right _ hi)
  have hdv : ((k * wd : Nat) : Int) / (k : Int) = (wd : Int) := by rw [← Int.natCast_ediv, Nat.mul_div_cancel_left _ (by omega)]
  obtain ⟨N, hNN⟩ : ∃ N, k * wd = N := ⟨_, rfl⟩
  rw [hNN] at a1 hN HPR hdv hc HBA
  clear hba hbk hY hW hNN
  refine callsIn_of_wp Tryz.func58 rfl trivial ?_ rfl
  simp only [Tryz.ntmps58, List.size_toArray, List.length_cons, List.length_nil, Nat.reduceAdd, Nat.reduceSub, Array.replicate_succ, Array.replicate_zero, List.push_toArray, List.append_toArray, List.nil_append, List.cons_append]
  gi_wp2
  try rw [hdv]
  gi_loopw [5, 11] (fun _ i wr => ∃ r : Nat, r ≤ k ∧ i = .int .i64 (r : Int) ∧ J (List.range r) wr ∧ KC S w0 wr) (fun _ i _ => k - (intOf i).toNat)
  case atStart => exact ⟨0, Nat.zero_le _, rfl, h0, HW.out⟩
  case round =>
    obtain ⟨wo, rfl⟩ : ∃ wo, wo = wr := ⟨_, rfl⟩
    obtain ⟨r, hr, rfl, hJr, hB⟩ := hrel
    have HB := Lib.hid hB
    by_cases hlt : r < k
    · have a2 := hB.cell (p := ⟨Ba, 0, none⟩) hSa HBA.out.cell
      have hpr := HPR.out r hlt
      obtain ⟨fn, tmps, assign, body, hy, hR⟩ := HY.out (List.range r) r wo hJr (by simpa using hlt)
      dsimp only [encR] at hy
      have HRS := Lib.hid (List.range_succ (n := r))
      have HR := Lib.hid hR
      obtain ⟨q, hq⟩ : ∃ q, r * wd = q := ⟨_, rfl⟩
      rw [hq] at hy hpr
      have hmul : (r : Int) * (wd : Int) = (q : Int) := by rw [← hq, Int.natCast_mul]
      have hmw : IntKind.i64.wrap ((r : Int) * (wd : Int)) = (q : Int) := by rw [hmul]; exact IntWalk.i64_in _ (by omega)
      have hne : ¬ (q : Int) + (wd : Int) = (q : Int) := by omega
      have hne2 : ¬ (q : Int) + (wd : Int) - (q : Int) = 0 := by omega
      clear hR hq hB hJr hdv
      gi_wp2
      all_goals first | (exfalso; omega) | skip
      refine HR.out.mono ?_
      rintro e W3 (⟨rfl, hJ3, hk3⟩ | ⟨rfl, hJx3⟩)
      · gi_wp2
        go_roundw
        case rel => exact ⟨r + 1, by omega, by go_num, by rw [HRS.out]; exact hJ3, HB.out.trans hk3⟩
        case measure => simp [intOf]; omega
      · gi_wp2
        refine bodyPost_ret (results_none rfl _ _ _) rfl ?_
        exact ⟨⟨_, rfl⟩, .inr ⟨_, trivial, hJx3⟩⟩
    · obtain rfl : r = k := by omega
      gi_wp2
      go_end0
      exact ⟨⟨_, rfl⟩, .inl ⟨_, rfl, hJr⟩⟩

theorem sstripes1_in (m : Nat) (hm1 : 1 ≤ m) (l Ba Bk g wd k c : Nat) (hk1 : 1 ≤ k) (hk2 : k ≤ 255) (hwd : wd ≤ 65535) (hc : k * wd ≤ c) (w0 : World) (S : Nat → Prop) (hSa : ¬ S Ba) (hSk : ¬ S Bk) (hba : Boxed w0 Ba 39 (.slice (some ⟨g, 0, none⟩) (k * wd) c)) (hbk : Boxed w0 Bk 3 (.int .i64 (k : Int))) (J Jx : List Nat → World → Prop)
    (hY : ∀ pre x W, J pre W → pre.length < k → YieldAt Fence.wide (m - 1) Tryz.prog l (encR g wd x) W fun e W' =>
      (e = .returned (.bool true) ∧ J (pre ++ [x]) W' ∧ KC S W W') ∨ (e = .returned (.bool false) ∧ Jx (pre ++ [x]) W'))
    (W : World) (hW : KC S w0 W) (h0 : J [] W) :
    CallsIn Fence.wide m Tryz.prog 58 #[.func (.yield l) #[] #[], .pointer (some ⟨Ba, 0, none⟩), .pointer (some ⟨Bk, 0, none⟩)] W fun e W' => (∃ v, e = .returned v) ∧
      ((∃ ss, ss = List.range k ∧ J ss W') ∨ (∃ pre, True ∧ Jx pre W')) := by
  by_cases hz : wd = 0
  · subst hz
    exact sstripes1_zero m hm1 l Ba Bk g k c hk1 hk2 w0 S hSa hSk hba hbk J Jx hY W hW h0
  · exact sstripes1_pos m hm1 l Ba Bk g wd k c hk1 hk2 hwd hz hc w0 S hSa hSk hba hbk J Jx hY W hW h0
end Go.Proofs.YtojbbmfndlcgkaaGreat
