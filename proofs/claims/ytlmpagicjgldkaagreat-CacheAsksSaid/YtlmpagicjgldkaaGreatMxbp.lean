/-
  CaQ: What the laws of layer 6 use: Pick, asks, great; coders that are none.
  CaR: The symbols of an ask.
-/
import Derived.Test.YtlmpagicjgldkaaGreatCaP
namespace Go.Proofs.YtlmpagicjgldkaaGreat

section -- CaQ
open Go.RowKit Go.Maps
set_option linter.unusedVariables false
set_option linter.unusedSimpArgs false
set_option maxRecDepth 100000
set_option maxHeartbeats 2000000

/-- A number brought into a range. -/
def pickN (x : Int) (m : Nat) : Nat := (x % (m : Int)).toNat
theorem pickN_lt (x : Int) {m : Nat} (h : 1 ≤ m) : pickN x m < m := by
  unfold pickN
  have h1 := Int.emod_nonneg x (b := (m : Int)) (by omega)
  have h2 := Int.emod_lt_of_pos x (b := (m : Int)) (by omega)
  omega
theorem emod_tmod (n m : Int) : n % m = n.tmod m % m := by
  have h : (n.tmod m + m * n.tdiv m) % m = n.tmod m % m := Int.add_mul_emod_self_left _ _ _
  rw [Int.tmod_add_mul_tdiv] at h
  exact h
theorem pick_ex (w : World) (n : Int) (m : Nat) (h1 : 1 ≤ m) (h2 : m ≤ 1000000) :
    Calls Tryz.prog 10 #[.int .i64 n, .int .i64 (m : Int)] w fun e w' => e = .returned (.int .i64 (pickN n m : Int)) ∧ w = w' := by
  have e1 : ¬ ((m : Int) < 1) := by omega
  have e2 : ((m : Int) == 0) = false := by simp; omega
  have t1 : n.tmod m < m := Int.tmod_lt_of_pos _ (by omega)
  have t2 : -(m : Int) < n.tmod m := by
    have := Int.tmod_lt_of_pos (-n) (b := (m : Int)) (by omega)
    rw [Int.neg_tmod] at this
    omega
  have hw : wrap64 (n.tmod m + m) = n.tmod m + m := by unfold wrap64; omega
  have h0 := Int.emod_nonneg n (b := (m : Int)) (by omega)
  by_cases hneg : n.tmod m < 0
  · have e3 : ¬ 0 ≤ n.tmod m := by omega
    have HR := Lib.hid (show n.tmod m + m = (pickN n m : Int) by
      have h3 : n % (m : Int) = n.tmod m + m := by
        rw [emod_tmod, ← Int.add_emod_right]
        exact Int.emod_eq_of_lt (by omega) (by omega)
      unfold pickN
      omega)
    clear h0
    go_enter Tryz.func10, Tryz.ntmps10
    go_wp2
    go_ret
    exact ⟨by rw [← HR.out]; rfl, rfl⟩
  · have e3 : 0 ≤ n.tmod m := by omega
    have HR := Lib.hid (show n.tmod m = (pickN n m : Int) by
      have h3 : n % (m : Int) = n.tmod m := by
        rw [emod_tmod]
        exact Int.emod_eq_of_lt (by omega) (by omega)
      unfold pickN
      omega)
    clear h0
    go_enter Tryz.func10, Tryz.ntmps10
    go_wp2
    go_ret
    exact ⟨by rw [← HR.out]; rfl, rfl⟩

/-- What is asked. -/
structure AskI where
  what : Int
  k : Int
  long : Int
  first : B
  ix : List Int
/-- Asks in memory. -/
def AsksAt (w : World) (v : Value) (l : List AskI) : Prop := ∃ p cap, v = .slice p l.length cap ∧ l.length ≤ cap ∧ (0 < l.length → ∃ g off, p = some ⟨g, off, none⟩ ∧ ∀ i (h : i < l.length),
  w.cell? ⟨g, off + i * 5, none⟩ = some (.int .i64 l[i].what) ∧ w.cell? ⟨g, off + i * 5 + 1, none⟩ = some (.int .i64 l[i].k) ∧ w.cell? ⟨g, off + i * 5 + 2, none⟩ = some (.int .i64 l[i].long) ∧
  w.cell? ⟨g, off + i * 5 + 3, none⟩ = some (bv l[i].first) ∧ ∃ u, w.cell? ⟨g, off + i * 5 + 4, none⟩ = some u ∧ IntsAt w u l[i].ix)
theorem AsksAt.below {w w' : World} {v : Value} {l : List AskI} (h : AsksAt w v l) (hb : Below w.heap.size w w') : AsksAt w' v l := by
  obtain ⟨p, cap, rfl, hcap, hh⟩ := h
  refine ⟨p, cap, rfl, hcap, fun hl => ?_⟩
  obtain ⟨g, off, rfl, hc⟩ := hh hl
  have hlt := blt (hc 0 hl).1
  refine ⟨g, off, rfl, fun i hi => ?_⟩
  obtain ⟨a, b, c, d, u, e, f⟩ := hc i hi
  exact ⟨(hb.cell (p := ⟨g, off + i * 5, none⟩) hlt).trans a, (hb.cell (p := ⟨g, off + i * 5 + 1, none⟩) hlt).trans b, (hb.cell (p := ⟨g, off + i * 5 + 2, none⟩) hlt).trans c, (hb.cell (p := ⟨g, off + i * 5 + 3, none⟩) hlt).trans d, u, (hb.cell (p := ⟨g, off + i * 5 + 4, none⟩) hlt).trans e, f.below hb⟩

/-- Is more asked than is gone through? If not, all is small. -/
def GreatPost (n : Int) (l : List AskI) (w : World) (e : Ending) (w' : World) : Prop :=
  (e = .returned (.bool true) ∨ (e = .returned (.bool false) ∧ n ≤ 12 ∧ l.length ≤ 300 ∧ ∀ i (h : i < l.length), l[i].ix.length ≤ 300)) ∧ ∃ q, w' = w.drewN q
theorem great_any (w : World) (n : Int) (v : Value) (l : List AskI) (hv : AsksAt w v l) (hl : l.length ≤ 140737488355328) (hr : ∀ i (h : i < l.length), l[i].ix.length ≤ 140737488355328) :
    Calls Tryz.prog 5 #[.int .i64 n, v] w (GreatPost n l w) := by
  obtain ⟨p, cap, rfl, hcap, hh⟩ := hv
  obtain ⟨L, hL⟩ : ∃ L, l.length = L := ⟨_, rfl⟩
  have HH := Lib.hid hh
  have HR := Lib.hid hr
  have HL := Lib.hid hL
  rw [hL] at hl hcap ⊢
  clear hh hr hL
  go_enter Tryz.func5, Tryz.ntmps5
  go_wp2
  go_loopw [5, 6] (fun v5 v6 wr => ∃ i M q : Nat, i ≤ L ∧ M ≤ 1000000000000000 ∧ v5 = .int .i64 (M : Int) ∧ v6 = .int .i64 (i : Int) ∧ (M ≤ 300 → L ≤ 300 ∧ ∀ j (h : j < l.length), j < i → l[j].ix.length ≤ 300) ∧ wr = w.drewN q) (fun _ v6 _ => L - (intOf v6).toNat)
  case atStart => exact ⟨0, L, 0, Nat.zero_le _, by omega, rfl, rfl, fun h => ⟨h, fun j _ hj => absurd hj (by omega)⟩, rfl⟩
  case round =>
    obtain ⟨i, M, q, hi, hM, rfl, rfl, hs, rfl⟩ := hrel
    have HS := Lib.hid hs
    clear hs
    by_cases hlt : i < L
    · have hli : i < l.length := by rw [HL.out]; exact hlt
      by_cases hm : M ≤ 300
      · obtain ⟨g, off, rfl, hc⟩ := HH.out (by omega)
        obtain ⟨_, _, x2, _, u, x4, x5⟩ := hc i hli
        obtain ⟨pu, cu, rfl, _⟩ := x5
        have hx := HR.out i hli
        obtain ⟨c, hcc⟩ : ∃ c, l[i].ix.length = c := ⟨_, rfl⟩
        obtain ⟨y, hy⟩ : ∃ y, l[i].long = y := ⟨_, rfl⟩
        rw [hcc] at x4 hx
        rw [hy] at x2
        have HCC := Lib.hid hcc
        obtain ⟨pk, hpk⟩ : ∃ pk, pickN y 6 = pk := ⟨_, rfl⟩
        have hp6 : pk < 6 := by rw [← hpk]; exact pickN_lt y (by omega)
        have HPK := Lib.hid (fun (W : World) => by have := pick_ex W y 6 (by omega) (by omega); rw [hpk] at this; exact this)
        have hnl : (c : Int) * (1 + (pk : Int)) ≤ 6 * c := by
          rw [Int.mul_comm]
          exact Int.mul_le_mul_of_nonneg_right (by omega) (by omega)
        have hnl0 : (0 : Int) ≤ (c : Int) * (1 + (pk : Int)) := Int.mul_nonneg (by omega) (by omega)
        have hnl2 : (c : Int) ≤ (c : Int) * (1 + (pk : Int)) := by
          rw [Int.mul_add, Int.mul_one]
          have := Int.mul_nonneg (a := (c : Int)) (b := (pk : Int)) (by omega) (by omega)
          omega
        have w1 : IntKind.i64.wrap ((c : Int) * (1 + (pk : Int))) = (c : Int) * (1 + (pk : Int)) := by simp [IntKind.wrap, IntKind.signed, IntKind.bits]; omega
        have w2 : IntKind.i64.wrap ((M : Int) + (c : Int) * (1 + (pk : Int))) = (M : Int) + (c : Int) * (1 + (pk : Int)) := by simp [IntKind.wrap, IntKind.signed, IntKind.bits]; omega
        have w3 : IntKind.i64.wrap (1 + (pk : Int)) = 1 + (pk : Int) := by simp [IntKind.wrap, IntKind.signed, IntKind.bits]; omega
        have HN0 := Lib.hid hnl0
        have HN1 := Lib.hid hnl
        have HN2 := Lib.hid hnl2
        clear hc hcc hy hpk hnl hnl0 hnl2
        go_wp2_with fail
        go_quiet ((go_at_call 10; exact q_add_same (HPK.out _)))
        go_wp2
        go_roundw
        case rel =>
          have hcast : ((M + c * (1 + pk) : Nat) : Int) = (M : Int) + (c : Int) * (1 + (pk : Int)) := by simp
          have hb : c * (1 + pk) ≤ 6 * c := by rw [Nat.mul_comm]; exact Nat.mul_le_mul_right _ (by omega)
          have hb2 : c ≤ c * (1 + pk) := Nat.le_mul_of_pos_right _ (by omega)
          refine ⟨i + 1, (M + c * (1 + pk)), _, by omega, by omega, by rw [hcast], by go_num, fun h => ⟨(HS.out hm).1, fun j hj hji => ?_⟩, rfl⟩
          by_cases e : j = i
          · subst e
            rw [HCC.out]
            omega
          · exact (HS.out hm).2 j hj (by omega)
        case measure => simp [intOf]; omega
      · have hm2 : ¬ (M : Int) ≤ 300 := by omega
        have hm5 : decide ((M : Int) > 300) = true := by simp; omega
        by_cases hn : n > 12
        · go_wp2
          go_ret
          exact ⟨.inl rfl, q, rfl⟩
        · go_wp2
          go_ret
          exact ⟨.inl rfl, q, rfl⟩
    · obtain rfl : i = L := by omega
      by_cases hn : n > 12
      · go_wp2
        go_ret
        exact ⟨.inl rfl, q, rfl⟩
      · by_cases hm : M ≤ 300
        · have hm2 : ¬ (M : Int) > 300 := by omega
          go_wp2
          go_ret
          exact ⟨.inr ⟨rfl, by omega, by rw [HL.out]; exact (HS.out hm).1, fun j hj => (HS.out hm).2 j hj (by rw [HL.out] at hj; exact hj)⟩, q, rfl⟩
        · have hm2 : (M : Int) > 300 := by omega
          go_wp2
          go_ret
          exact ⟨.inl rfl, q, rfl⟩
end -- CaQ

section -- CaR
open Go.RowKit Go.Maps
set_option linter.unusedVariables false
set_option linter.unusedSimpArgs false
set_option maxRecDepth 100000
set_option maxHeartbeats 2000000

theorem getD_takeC {α : Type} {l : List α} {k i : Nat} {d : α} (h : i < k) : (l.take k).getD i d = l.getD i d := by
  rw [List.getD_eq_getElem?_getD, List.getD_eq_getElem?_getD, List.getElem?_take, if_pos h]
theorem infoHC : (Tryz.prog.info? 78).map (fun i => (i.zero, i.size, i.bytes)) = some (some (.agg #[.int .i64 0, .slice none 0 0]), 2, 32) := by kernel_rfl
def PairsC (hs : List (Int × List B)) (ul us : List Value) : Prop := ul.length = hs.length ∧ ∀ i, i < hs.length → us[i * 2]? = some (.int .i64 (hs.getD i (0, [])).1) ∧ us[i * 2 + 1]? = ul[i]?
theorem PairsC.snoc {hs : List (Int × List B)} {ul us : List Value} {m : Nat} {ix : Int} {u : Value} (hm : m < hs.length) (h : PairsC (hs.take m) ul us) (hul : us.length = m * 2) (hix : (hs.getD m (0, [])).1 = ix) : PairsC (hs.take (m + 1)) (ul ++ [u]) (us ++ [.int .i64 ix, u]) := by
  obtain ⟨h1, h2⟩ := h
  have hl : (hs.take m).length = m := by rw [List.length_take]; omega
  rw [hl] at h1 h2
  refine ⟨by simp [h1]; omega, fun i hi => ?_⟩
  rw [List.length_take, Nat.min_eq_left (by omega)] at hi
  rw [getD_takeC (by omega)]
  by_cases e : i < m
  · have := h2 i e
    rw [getD_takeC e] at this
    rw [List.getElem?_append_left (by omega), List.getElem?_append_left (by omega), List.getElem?_append_left (by omega)]
    exact this
  · obtain rfl : i = m := by omega
    rw [List.getElem?_append_right (by omega), List.getElem?_append_right (by omega), List.getElem?_append_right (by omega), hul, h1, hix]
    simp

theorem pair_cellsC {W : World} {base : Nat} {e : TypeId} {v : Value} {hs : List (Int × List B)} {us ul : List Value} (ho : W.ownsRow base e 2 v hs.length us) (hp : PairsC hs ul us) : ∃ p cap, v = .slice p hs.length cap ∧ hs.length ≤ cap ∧ (0 < hs.length → ∃ g, p = some ⟨g, 0, none⟩ ∧ ∀ i, i < hs.length →
    W.cell? ⟨g, 0 + i * 2, none⟩ = some (.int .i64 (hs.getD i (0, [])).1) ∧ ∃ u, ul[i]? = some u ∧ W.cell? ⟨g, 0 + i * 2 + 1, none⟩ = some u) := by
  obtain ⟨h0, h1⟩ := ho
  rcases h1 with ⟨rfl, hz⟩ | ⟨g, cap, cur, rfl, h2, h3, h4, h5, h6, h7⟩
  · exact ⟨none, 0, by rw [hz], by omega, fun h => by omega⟩
  · refine ⟨_, cap, rfl, h4, fun hl => ⟨g, rfl, fun i hi => ?_⟩⟩
    obtain ⟨a, b⟩ := hp.2 i hi
    have hlu : i < ul.length := by rw [hp.1]; exact hi
    have hu : ul[i]? = some ul[i] := List.getElem?_eq_getElem hlu
    refine ⟨?_, _, hu, ?_⟩
    · rw [← h7, List.getElem?_take, if_pos (by omega), Array.getElem?_toList] at a
      rw [Nat.zero_add, cell_of h3, a]
    · rw [hu, ← h7, List.getElem?_take, if_pos (by omega), Array.getElem?_toList] at b
      rw [Nat.zero_add, cell_of h3, b]
theorem held_ofC {W : World} {base : Nat} {e : TypeId} {v : Value} {hs : List (Int × List B)} {us ul : List Value} (ho : W.ownsRow base e 2 v hs.length us) (hp : PairsC hs ul us) (hb : ∀ i u, ul[i]? = some u → BytesAt W u (hs.getD i (0, [])).2) : HeldAt W v hs := by
  obtain ⟨p, cap, e1, e2, e3⟩ := pair_cellsC ho hp
  refine ⟨p, cap, e1, e2, fun h0 => ?_⟩
  obtain ⟨g, a, b⟩ := e3 h0
  refine ⟨g, 0, a, fun i hi => ?_⟩
  obtain ⟨x, u, y, z⟩ := b i hi
  exact ⟨x, u, z, hb i u y⟩
/-- A byte of a number. -/
def byteN (n : Nat) : B := ofB (n % 256)
theorem byteN_v (n : Nat) : (byteN n).v = n % 256 := ofB_v (by omega)
theorem byte_wrap (a b : Nat) : Value.int .u8 (IntKind.u8.wrap ((a : Int) + IntKind.u8.wrap (b : Int))) = bv (byteN (a + b)) := by
  unfold bv
  rw [byteN_v]
  congr 1
  simp [IntKind.wrap, IntKind.signed, IntKind.bits]
/-- The symbols of an ask. -/
def symL (a : AskI) (i : Nat) : List B := rowL (pickN a.long 6) fun k => byteN (a.first.v + (i * 7 + k))
def heldL (a : AskI) : List (Int × List B) := (List.range a.ix.length).map fun i => (a.ix.getD i 0, symL a i)
theorem heldL_len (a : AskI) : (heldL a).length = a.ix.length := by simp [heldL]
theorem heldL_get (a : AskI) {i : Nat} (h : i < a.ix.length) : (heldL a).getD i (0, []) = (a.ix.getD i 0, symL a i) := by
  unfold heldL
  exact getD_range _ _ h
theorem heldL_idx (a : AskI) : hIdx (heldL a) = a.ix := by
  apply List.ext_getElem
  · simp [hIdx, heldL_len]
  · intro i h1 h2
    simp [hIdx, heldL, List.getD_eq_getElem?_getD, h2]
theorem heldL_wide (a : AskI) {i : Nat} (h : i < a.ix.length) : ((heldL a).getD i (0, [])).2.length = pickN a.long 6 := by
  rw [heldL_get a h]
  exact rowL_len _ _
theorem heldL_even (a : AskI) : evenH (heldL a) = true := (evenH_iff _).2 (fun i hi => by
  rw [heldL_len] at hi
  rw [heldL_wide a hi, heldL_wide a (by omega)])

/-- New symbols. -/
def HeldNew (w : World) (base : Nat) (v : Value) (hs : List (Int × List B)) : Prop := ∃ us ul, w.ownsRow base 78 2 v hs.length us ∧ PairsC hs ul us ∧ ∀ i u, ul[i]? = some u → BytesAt w u (hs.getD i (0, [])).2 ∧ ∀ b, u.ownBlock = some b → base ≤ b ∧ b < w.heap.size ∧ v.ownBlock ≠ some b
theorem HeldNew.far {w : World} {base : Nat} {v : Value} {hs : List (Int × List B)} (h : HeldNew w base v hs) {F : Nat → Prop} (hF : ∀ i, F i → i < base) : HeldFar F w v hs := by
  obtain ⟨us, ul, ho, hp, hb⟩ := h
  have hlt := ho.lt
  obtain ⟨p, cap, e1, e2, e3⟩ := pair_cellsC ho hp
  refine ⟨p, cap, e1, e2, fun h0 => ?_⟩
  obtain ⟨g, a, b⟩ := e3 h0
  refine ⟨g, 0, a, fun hg => ?_, fun i hi => ?_⟩
  · have h1 := hF g hg
    have h2 := (hlt g (by rw [e1, a]; rfl)).1
    omega
  · obtain ⟨x, u, y, z⟩ := b i hi
    obtain ⟨c1, c2⟩ := hb i u y
    exact ⟨x, u, z, c1, fun b hb hf => by have := hF b hf; have := (c2 b hb).1; omega⟩

theorem held_any (w : World) (a : AskI) (u : Value) (hu : IntsAt w u a.ix) (hl : a.ix.length ≤ 1000) :
    Calls Tryz.prog 16 #[.agg #[.int .i64 a.what, .int .i64 a.k, .int .i64 a.long, bv a.first, u]] w fun e w' => ∃ v, e = .returned v ∧ HeldNew w' w.heap.size v (heldL a) ∧ Below w.heap.size w w' := by
  obtain ⟨pu, cu, rfl, hcu, hx⟩ := hu
  obtain ⟨L, hL⟩ : ∃ L, a.ix.length = L := ⟨_, rfl⟩
  obtain ⟨P, hP⟩ : ∃ P, pickN a.long 6 = P := ⟨_, rfl⟩
  have hP6 : P < 6 := by rw [← hP]; exact pickN_lt _ (by omega)
  have HPK := Lib.hid (fun (W : World) => by have := pick_ex W a.long 6 (by omega) (by omega); rw [hP] at this; exact this)
  have HX := Lib.hid hx
  have HL := Lib.hid hL
  have HP := Lib.hid hP
  have HMK := Lib.hid (fun (W : World) => run_make_one (w := W) 43 5 (.int .u8 0) 1 Tryz.underlying43 infoB rfl (by omega) P (by omega))
  rw [hL] at hl hcu ⊢
  clear hx hL hP
  go_enter Tryz.func16, Tryz.ntmps16
  go_wp2
  have hs0 : w.heap.size < (w.alloc (.cells #[.int .i64 a.what, .int .i64 a.k, .int .i64 a.long, bv a.first, .slice pu L cu] 34)).heap.size := by simp
  have HBW := Lib.hid (show Below w.heap.size w (w.alloc (.cells #[.int .i64 a.what, .int .i64 a.k, .int .i64 a.long, bv a.first, .slice pu L cu] 34)) from (Kept.alloc (fun _ => False) w _).toBelow (Nat.le_refl _) (fun _ h => h.elim))
  have b2 := World.cell?_alloc_new w #[.int .i64 a.what, .int .i64 a.k, .int .i64 a.long, bv a.first, .slice pu L cu] 34 2
  have b3 := World.cell?_alloc_new w #[.int .i64 a.what, .int .i64 a.k, .int .i64 a.long, bv a.first, .slice pu L cu] 34 3
  have b4 := World.cell?_alloc_new w #[.int .i64 a.what, .int .i64 a.k, .int .i64 a.long, bv a.first, .slice pu L cu] 34 4
  have B2 := Lib.hid b2
  have B3 := Lib.hid b3
  have B4 := Lib.hid b4
  clear b2 b3 b4
  generalize w.alloc (.cells #[.int .i64 a.what, .int .i64 a.k, .int .i64 a.long, bv a.first, .slice pu L cu] 34) = w0 at *
  go_loopw [3, 4, 5, 6] (fun v3 i _ _ wr => ∃ m : Nat, m ≤ L ∧ i = .int .i64 (m : Int) ∧ (∃ us ul, wr.ownsRow w0.heap.size 78 2 v3 m us ∧ PairsC ((heldL a).take m) ul us ∧ ∀ i u, ul[i]? = some u → BytesAt wr u (((heldL a).take m).getD i (0, [])).2 ∧ ∀ b, u.ownBlock = some b → w0.heap.size ≤ b ∧ b < wr.heap.size ∧ v3.ownBlock ≠ some b) ∧ Below w0.heap.size w0 wr) (fun _ i _ _ _ => L - (intOf i).toNat)
  case atStart => exact ⟨0, Nat.zero_le _, rfl, ⟨[], [], World.ownsRow_nil _ _ _ _, ⟨by simp, fun i h => absurd h (by simp)⟩, fun i u h => by simp at h⟩, Below.refl _ _⟩
  case round =>
    obtain ⟨wo, rfl⟩ : ∃ wo, wo = wr := ⟨_, rfl⟩
    obtain ⟨m, hm, rfl, ⟨us, ul, ho, hp, hb⟩, hB⟩ := hrel
    have HO := Lib.hid ho
    have HPR := Lib.hid hp
    have HBY := Lib.hid hb
    have HB := Lib.hid hB
    have hsr := hB.size
    have c2 := (hB.cell (p := ⟨w.heap.size, 2, none⟩) hs0).trans B2.out
    have c3 := (hB.cell (p := ⟨w.heap.size, 3, none⟩) hs0).trans B3.out
    have c4 := (hB.cell (p := ⟨w.heap.size, 4, none⟩) hs0).trans B4.out
    simp only [List.getElem?_toArray, List.getElem?_cons_succ, List.getElem?_cons_zero] at c2 c3 c4
    have C3 := Lib.hid c3
    have C4 := Lib.hid c4
    clear ho hp hb hB
    by_cases hlt : m < L
    · obtain ⟨gx, ox, rfl, hxc⟩ := HX.out (by rw [HL.out]; omega)
      have hx0 := hxc m (by rw [HL.out]; exact hlt)
      have hxl := blt hx0
      obtain ⟨ix, hix⟩ : ∃ ix, a.ix.getD m 0 = ix := ⟨_, rfl⟩
      rw [hix] at hx0
      have HIX := Lib.hid hix
      have HX0 := Lib.hid ((HB.out.cell (p := ⟨gx, ox + m, none⟩) (Nat.lt_of_lt_of_le hxl HBW.out.size)).trans ((HBW.out.cell (p := ⟨gx, ox + m, none⟩) hxl).trans hx0))
      have hxl2 : gx < wo.heap.size := by have := HBW.out.size; omega
      clear hxc hx0 hix
      go_wp2_with fail
      refine (HPK.out _).mono ?_
      rintro e w' ⟨rfl, rfl⟩
      have hmk := HMK.out wo
      go_wp2
      clear hmk
      have HR := Lib.hid (RowF.made wo P)
      have HKA := Lib.hid (Kept.alloc (fun _ => False) wo (.cells (Array.replicate P (.int .u8 0)) 5))
      have sA : wo.heap.size < (wo.alloc (.cells (Array.replicate P (.int .u8 0)) 5)).heap.size := by simp
      generalize (wo.alloc (.cells (Array.replicate P (.int .u8 0)) 5)) = w1 at *
      have HST := Lib.hid (show List.replicate P (0 : B) = progL P (fun k => byteN (a.first.v + (m * 7 + k))) (fun _ => 0) 0 by rw [progL_zero]; apply List.ext_getElem <;> simp [rowL])
      rw [HST.out] at HR
      go_loopw [6] (fun k wi => ∃ t : Nat, t ≤ P ∧ k = .int .i64 (t : Int) ∧ RowF wi wo.heap.size (progL P (fun k => byteN (a.first.v + (m * 7 + k))) (fun _ => 0) t) ∧ Kept (fun i => i = wo.heap.size) w1 wi) (fun k _ => P - (intOf k).toNat)
      case atStart => exact ⟨0, Nat.zero_le _, rfl, HR.out, Kept.refl _ _⟩
      case round =>
        obtain ⟨t, ht, rfl, hr, ki⟩ := hrel
        have HR2 := Lib.hid hr
        clear hr
        by_cases hlt2 : t < P
        · have e3 := (ki.at1 3 (b := w.heap.size) (by omega) (by omega)).trans ((HKA.out.at0 3 (b := w.heap.size) (by omega)).trans C3.out)
          have e1 := HR2.out.cell (i := t) (by rw [progL_len]; exact hlt2)
          have e2 := HR2.out.fz t
          have HBW2 := Lib.hid (show Value.int .u8 (((a.first.v : Int) + ((m : Int) * 7 + (t : Int))) % 256) = bv (byteN (a.first.v + (m * 7 + t))) by unfold bv; rw [byteN_v]; congr 1)
          have HSS := Lib.hid (progL_set (fun k => byteN (a.first.v + (m * 7 + k))) (fun _ => (0 : B)) hlt2)
          unfold bv at e3
          clear c3
          go_wp2
          go_roundw
          case rel =>
            refine ⟨t + 1, by omega, by go_num, ?_, ki.trans (Kept.set1 _ _ _ _) (fun _ _ h => h)⟩
            have := HR2.out.set (i := t) (by rw [progL_len]; exact hlt2) (byteN (a.first.v + (m * 7 + t)))
            rw [HSS.out, ← HBW2.out] at this
            exact this
          case measure => simp [intOf]; omega
        · obtain rfl : t = P := by omega
          have hrr := HR2.out
          rw [progL_all] at hrr
          have HSY := Lib.hid (show rowL t (fun k => byteN (a.first.v + (m * 7 + k))) = symL a m by unfold symL; rw [HP.out])
          rw [HSY.out] at hrr
          have HRR := Lib.hid hrr
          have e4 := (ki.at1 4 (b := w.heap.size) (by omega) (by omega)).trans ((HKA.out.at0 4 (b := w.heap.size) (by omega)).trans C4.out)
          have ex := (ki.at1 (ox + m) (b := gx) (by omega) (by omega)).trans ((HKA.out.at0 (ox + m) (b := gx) hxl2).trans HX0.out)
          have KI := Lib.hid (show Kept (fun _ => False) wo wr from HKA.out.trans ki (fun i hi h => by omega))
          have HO2 := Lib.hid (ownsRow_keptS HO.out KI.out (fun _ _ h => h))
          have hsw := KI.out.size
          have hlm : m < (heldL a).length := by rw [heldL_len, HL.out]; exact hlt
          clear hrr ki c2 c3 c4
          go_wp2_with (at_builtin; refine app_el 45 78 2 32 (.agg #[.int .i64 0, .slice none 0 0]) Tryz.underlying45 infoHC rfl (by decide) rfl _ _ rfl w0.heap.size m _ us rfl HO2.out [.int .i64 ix, .slice (some ⟨wo.heap.size, 0, none⟩) t t] rfl (by simp [Value.oneCell']) rfl (by omega) (by omega) ?_; intro g8 c8 w8 hR8 hk8 hs8 hg8)
          go_roundw
          case rel =>
            refine ⟨m + 1, by omega, by go_num, ⟨_, ul ++ [.slice (some ⟨wo.heap.size, 0, none⟩) t t], hR8, ?_, ?_⟩, HB.out.trans ((KI.out.toBelow hsr (fun _ h => h.elim)).trans (hk8.toBelow (by omega) (fun i hi => (HO2.out.lt i hi).1)))⟩
            · refine HPR.out.snoc hlm HO.out.1 ?_
              rw [heldL_get a (by rw [HL.out]; exact hlt)]
              exact HIX.out
            · have hull : ul.length = m := by rw [HPR.out.1, List.length_take]; omega
              intro i z hz
              by_cases e : i < m
              · rw [List.getElem?_append_left (by omega)] at hz
                obtain ⟨q1, q2⟩ := HBY.out i z hz
                rw [getD_takeC e] at q1
                rw [getD_takeC (by omega)]
                refine ⟨(q1.kept KI.out (fun _ _ h => h)).kept1 hk8 (fun k e1 e2 => (q2 k e1).2.2 e2), fun b hb => ?_⟩
                obtain ⟨y1, y2, y3⟩ := q2 b hb
                have := hk8.size
                refine ⟨y1, by omega, fun e2 => ?_⟩
                have e3 : g8 = b := own_is e2
                rcases hg8 with q | q
                · exact y3 (e3 ▸ (show u3.ownBlock = some g8 from q))
                · omega
              · have hi' : i = m := by
                  have := (List.getElem?_eq_some_iff.1 hz).1
                  simp at this; omega
                subst hi'
                have e2 : z = .slice (some ⟨wo.heap.size, 0, none⟩) t t := by
                  rw [List.getElem?_append_right (by omega), hull] at hz
                  simpa using hz.symm
                subst e2
                rw [getD_takeC (by omega), heldL_get a (by rw [HL.out]; exact hlt)]
                have hby : BytesAt wr (.slice (some ⟨wo.heap.size, 0, none⟩) t t) (symL a i) := by
                  have := HRR.out.toBytes t
                  rw [show (symL a i).length = t by unfold symL; rw [rowL_len, HP.out]] at this
                  exact this
                have hv3 : ∀ b, u3.ownBlock = some b → b < wo.heap.size := fun b hb => (HO.out.lt b hb).2
                refine ⟨hby.kept1 hk8 (fun k e1 e2 => ?_), fun b hb => ?_⟩
                · have e3 : wo.heap.size = k := own_is e1
                  have := hv3 k e2
                  omega
                · have e3 : wo.heap.size = b := own_is hb
                  have := hk8.size
                  refine ⟨by omega, by omega, fun e4 => ?_⟩
                  have e5 : g8 = b := own_is e4
                  rcases hg8 with q | q
                  · have := hv3 g8 q; omega
                  · omega
          case measure => simp [intOf]; omega
    · obtain rfl : m = L := by omega
      go_wp2
      go_ret
      have htk : (heldL a).take m = heldL a := List.take_of_length_le (by rw [heldL_len, HL.out]; exact Nat.le_refl _)
      have h1 := HO.out
      have h2 := HPR.out
      have h3 := HBY.out
      rw [htk] at h2 h3
      exact ⟨_, rfl, ⟨us, ul, by rw [heldL_len, HL.out]; exact ownsRow_weaken h1 (by omega), h2, fun i u hu => ⟨(h3 i u hu).1, fun b hb => by have := (h3 i u hu).2 b hb; exact ⟨by omega, this.2⟩⟩⟩, HBW.out.trans (HB.out.mono (by omega))⟩
end -- CaR

end Go.Proofs.YtlmpagicjgldkaaGreat
