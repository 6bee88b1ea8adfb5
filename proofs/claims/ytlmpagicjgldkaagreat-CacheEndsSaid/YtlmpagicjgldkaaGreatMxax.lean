/-
  RefN: Walks of the reference, layer 5 (code): Turn.
  CodeTb: Held symbols; walk of layer 5 (code): Decode.
  CodeUa: What the laws of layer 5 use: SameBytes, SameRows (of what is the same), size, bytesOf.
  CodeGb: What the laws of layer 5 use: bytesOf.
-/
import Derived.Test.YtlmpagicjgldkaaGreatRefM
import Derived.Test.YtlmpagicjgldkaaGreatCodeTa
import Derived.Deep.RegionHeld3
import Derived.Deep.RegionLaw
namespace Go.Proofs.YtlmpagicjgldkaaGreat

section -- RefN
open Go.RowKit Go.Maps
set_option linter.unusedVariables false
set_option maxRecDepth 100000
set_option maxHeartbeats 4000000

theorem idxB_snoc {m : Nat} {xs : List Int} (h : m < xs.length) : idxB (xs.take m) ++ [ofB (xs.getD m 0).toNat] = idxB (xs.take (m + 1)) := by
  rw [take_snocI h]; simp [idxB]
theorem turnL_len (k : Nat) (ys : List B) : (turnL k ys).length = k := by simp [turnL]
theorem turnL_succ (k : Nat) (ys : List B) : turnL (k + 1) ys = turnL k ys ++ [wtsL ys (ofB k)] := by simp [turnL, List.range_succ]

theorem rturn_any (w : World) {b n k : Nat} (hc : RCoderAt w b n k) (hk : 1 ≤ k) (hkn : k ≤ n) (hn : n ≤ 255) (v : Value) (xs : List Int) (hv : IntsAt w v xs) (hl : xs.length ≤ 1000000) :
    Calls Tryz.prog 30 #[.pointer (some ⟨b, 0, none⟩), v] w fun e w' => ∃ v, e = .returned (.tuple #[v, .int .i64 (askE n k xs)]) ∧ (askE n k xs = 0 → RowsNew w' w.heap.size v (turnL k (idxB (xs.take k)))) ∧ (askE n k xs ≠ 0 → v = .slice none 0 0) ∧ Below w.heap.size w w' := by
  have HA := Lib.hid (rasked_any w hc v xs hv hl)
  have HC := Lib.hid hc
  have HV := Lib.hid hv
  obtain ⟨r, hr⟩ : ∃ r, askE n k xs = r := ⟨_, rfl⟩
  rw [hr] at HA ⊢
  have HR := Lib.hid hr
  obtain ⟨p, cap, rfl, hcap, hh⟩ := hv
  have HH := Lib.hid hh
  clear hh hr hc
  go_enter Tryz.func30, Tryz.ntmps30
  go_wp2_with fail
  refine HA.out.mono ?_
  rintro e w' ⟨rfl, q, rfl⟩
  have HC1 := Lib.hid (show RCoderAt (w.drewN q) b n k from HC.out)
  have HB1 := Lib.hid (belowDr (Below.refl w.heap.size w) q)
  by_cases hr0 : r = 0
  rotate_left
  · have hr1 : (r == 0) = false := by simpa using hr0
    have HR0 := Lib.hid hr0
    clear hr0
    go_wp2
    go_ret2
    exact ⟨_, rfl, fun h => absurd h HR0.out, fun _ => rfl, HB1.out⟩
  · subst hr0
    have HO := Lib.hid (askE_zero HR.out)
    have hkl := HO.out.len
    have HVV := Lib.hid (fun i (hi : i < xs.length) => HO.out.getD hi)
    have HHH := Lib.hid (show 0 < xs.length → ∃ g off, p = some ⟨g, off, none⟩ ∧ ∀ i, i < xs.length → (w.drewN q).cell? ⟨g, off + i, none⟩ = some (.int .i64 (xs.getD i 0)) from HH.out)
    clear HH
    obtain ⟨g, off, rfl, hcc⟩ := HHH.out (by omega)
    have HCC := Lib.hid hcc
    have d1 := HC1.out.c1
    have hbl := HC1.out.lt
    have HSZ := Lib.hid (show (w.drewN q).heap.size = w.heap.size from rfl)
    have HNI := Lib.hid (show xs.length ≤ cap from hcap)
    clear hcc
    go_wp2
    generalize w.drewN q = w1 at *
    go_loopw [7, 8] (fun v i wr => ∃ m : Nat, m ≤ k ∧ i = .int .i64 (m : Int) ∧ Own wr w1.heap.size v (idxB (xs.take m)) ∧ Below w1.heap.size w1 wr) (fun _ i _ => k - (intOf i).toNat)
    case atStart => exact ⟨0, Nat.zero_le _, rfl, Own.nil _ _, Below.refl _ _⟩
    case round =>
      obtain ⟨w0, rfl⟩ : ∃ w0, w0 = wr := ⟨_, rfl⟩
      obtain ⟨m, hm, rfl, ho, hB⟩ := hrel
      have hol : (idxB (xs.take m)).length = m := by rw [idxB_len, List.length_take]; omega
      obtain ⟨pv, cv, rfl⟩ := ho.shape
      rw [hol]
      rw [hol] at ho
      have HOL := Lib.hid hol
      have HOV := Lib.hid ho
      have HBR := Lib.hid hB
      have hsr := hB.size
      have d1r := (hB.cell (p := ⟨b, 1, none⟩) hbl).trans d1
      clear ho hol
      by_cases hlt : m < k
      · have z := HCC.out m (by omega)
        have d2 := (hB.cell (p := ⟨g, off + m, none⟩) (blt z)).trans z
        have hx := HVV.out m (by omega)
        have HS := Lib.hid (idxB_snoc (xs := xs) (m := m) (by omega))
        obtain ⟨x, hxx⟩ : ∃ x, xs.getD m 0 = x := ⟨_, rfl⟩
        rw [hxx] at d2 hx HS
        obtain ⟨y, rfl⟩ := Int.eq_ofNat_of_zero_le hx.1
        have hy2 : y < 256 := by omega
        have HY := Lib.hid (show (⟨y, hy2⟩ : B) = ofB (Int.toNat (y : Int)) by rw [ofB_mk]; rfl)
        clear z hB hxx
        go_wp2_with (at_builtin; refine app_own rfl _ _ rfl w1.heap.size m _ _ ⟨y, hy2⟩ HOL.out HOV.out rfl rfl (by omega) hsr ?_; intro g' c' w6 hR6 hk6 hs6 hg6)
        go_roundw
        case rel =>
          refine ⟨m + 1, by omega, by go_num, by rw [← HS.out, ← HY.out]; exact hR6, HBR.out.trans (hk6.toBelow hsr (fun i hi => (HOV.out.blk i hi).1))⟩
        case measure => simp [intOf]; omega
      · obtain rfl : m = k := by omega
        have HND := Lib.hid (idxB_nodup HO.out hn m)
        clear hB
        go_wp2
        go_loopw [9, 10, 11, 12] (fun v i _ _ wr => ∃ t : Nat, t ≤ m ∧ i = .int .i64 (t : Int) ∧ RowsLone wr w0.heap.size v (turnL t (idxB (xs.take m))) ∧ Below w0.heap.size w0 wr) (fun _ i _ _ _ => m - (intOf i).toNat)
        case atStart => exact ⟨0, Nat.zero_le _, rfl, RowsLone.nil _ _, Below.refl _ _⟩
        case round =>
          obtain ⟨t, ht, rfl, ho, hB⟩ := hrel
          have HRO := Lib.hid ho
          have HBT := Lib.hid hB
          have hst := hB.size
          have d1t := (hB.cell (p := ⟨b, 1, none⟩) (blt d1r)).trans d1r
          have HOT := Lib.hid (HOV.out.below hB)
          clear ho hB
          by_cases hlt2 : t < m
          · have ht2 : t < 256 := by omega
            have HTT := Lib.hid (ofB_mk ht2)
            go_wp2_with fail
            refine (rweights_any _ _ _ m ⟨t, ht2⟩ HOT.out.bytes HOL.out HND.out (by omega)).mono ?_
            rintro e w5 ⟨v5, rfl, ho5, hB5⟩
            obtain ⟨p5, c5, rfl⟩ := ho5.shape
            have hwl : (wtsL (idxB (xs.take m)) ⟨t, ht2⟩).length = m := by rw [wtsL_len, HOL.out]
            have HLV := Lib.hid HRO.out.lt
            have HBY := Lib.hid ho5.bytes
            have HO5 := Lib.hid ho5
            have HBB := Lib.hid hB5
            have HBK := Lib.hid (fun b (hb : (Value.slice p5 (wtsL (idxB (xs.take m)) ⟨t, ht2⟩).length c5).ownBlock = some b) => ho5.blk b hb)
            have HR5 := Lib.hid (HRO.out.below hB5)
            have HB6 := Lib.hid (below_more HBT.out hB5 hst)
            have hs5 := hB5.size
            rw [hwl] at HBY HBK HO5 ⊢
            clear ho5 hB5 hwl
            go_wp2_with (at_builtin; refine app_lone rfl _ _ rfl w0.heap.size t _ _ (turnL_len _ _) _ HBB.out HRO.out (.slice p5 m c5) _ HO5.out rfl rfl rfl (by omega) hst ?_; intro g' c' w6 hR6 hk6 hs6 hg6)
            go_roundw
            case rel =>
              refine ⟨t + 1, by omega, by go_num, by rw [turnL_succ, ← HTT.out]; exact hR6, HB6.out.trans (hk6.toBelow (by omega) (fun i h => (HLV.out i h).1))⟩
            case measure => simp [intOf]; omega
          · obtain rfl : t = m := by omega
            go_wp2
            go_ret2
            exact ⟨_, rfl, (HRO.out.weaken (Nat.le_trans (show w.heap.size ≤ w0.heap.size from by have := HB1.out.size; have := HBR.out.size; have := HSZ.out; omega) (Nat.le_refl _))).news, by
              have := below_more HBR.out HBT.out HBR.out.size
              exact below_more HB1.out this HB1.out.size⟩
end -- RefN

section -- CodeTb
open Go.RowKit Go.Maps
set_option linter.unusedVariables false
set_option maxRecDepth 100000
set_option maxHeartbeats 4000000

/-- A slice reads as held symbols. -/
def HeldAt (w : World) (v : Value) (hs : List (Int × List B)) : Prop := ∃ p cap, v = .slice p hs.length cap ∧ hs.length ≤ cap ∧ (0 < hs.length → ∃ g off, p = some ⟨g, off, none⟩ ∧ ∀ i, i < hs.length →
  w.cell? ⟨g, off + i * 2, none⟩ = some (.int .i64 (hs.getD i (0, [])).1) ∧ ∃ u, w.cell? ⟨g, off + i * 2 + 1, none⟩ = some u ∧ BytesAt w u (hs.getD i (0, [])).2)
theorem HeldAt.kept {S : Nat → Prop} {w w' : World} {v : Value} {hs : List (Int × List B)} (h : HeldAt w v hs) (hk : Kept S w w') (hS : ∀ k, k < w.heap.size → ¬ S k) : HeldAt w' v hs := by
  obtain ⟨p, cap, rfl, hcap, hh⟩ := h
  refine ⟨p, cap, rfl, hcap, fun hl => ?_⟩
  obtain ⟨g, off, rfl, hc⟩ := hh hl
  have hlt := blt (hc 0 hl).1
  refine ⟨g, off, rfl, fun i hi => ?_⟩
  obtain ⟨a, u, b, c⟩ := hc i hi
  exact ⟨(hk.cell (p := ⟨g, off + i * 2, none⟩) hlt (hS g hlt)).trans a, u, (hk.cell (p := ⟨g, off + i * 2 + 1, none⟩) hlt (hS g hlt)).trans b, c.kept hk hS⟩
theorem HeldAt.below {w w' : World} {v : Value} {hs : List (Int × List B)} (h : HeldAt w v hs) (hb : Below w.heap.size w w') : HeldAt w' v hs := h.kept (Kept.below hb) (fun _ _ h => h)

def hIdx (hs : List (Int × List B)) : List Int := hs.map (·.1)
def hRow (hs : List (Int × List B)) : List (List B) := hs.map (·.2)
theorem hIdx_snoc {hs : List (Int × List B)} {m : Nat} (h : m < hs.length) : hIdx (hs.take m) ++ [(hs.getD m (0, [])).1] = hIdx (hs.take (m + 1)) := by
  rw [List.take_succ_eq_append_getElem h, List.getD_eq_getElem?_getD, List.getElem?_eq_getElem h]; unfold hIdx; rw [List.map_append]; rfl
theorem hRow_snoc {hs : List (Int × List B)} {m : Nat} (h : m < hs.length) : hRow (hs.take m) ++ [(hs.getD m (0, [])).2] = hRow (hs.take (m + 1)) := by
  rw [List.take_succ_eq_append_getElem h, List.getD_eq_getElem?_getD, List.getElem?_eq_getElem h]; unfold hRow; rw [List.map_append]; rfl

/-- Append of one element, as a step of a region that draws its order. -/
theorem step_app {ops : Array Oper} {o : Oper} {a : Act} {W : World} {K : Act → World → Prop} {Q : Exit → Act → World → Prop} {E : Prop} (t e : TypeId) (bytes : Nat) (z : Value) (ht : Tryz.prog.underlying t = some (.slice e))
    (hinfo : (Tryz.prog.info? e).map (fun i => (i.zero, i.size, i.bytes)) = some (some z, 1, bytes)) (hzs : z.cells.size = 1) (hby : bytes ≤ 64)
    (hgd : o.guard = none) (s x : Operand) (ho : o.op = .call { callee := .builtin .append, args := #[s, x], argTypes := #[t, t] })
    (base n : Nat) (v : Value) (us : List Value) (hs : a.eval s = v) (hown : W.ownsRow base e 1 v n us) (g : Nat) (u : Value) (hone : u.oneCell' = true)
    (hx : a.eval x = .slice (some ⟨g, 0, none⟩) 1 1) (hc : W.cell? ⟨g, 0, none⟩ = some u) (hn : n < 1000000000000) (hbase : base ≤ W.heap.size)
    (h : ∀ g' c' w', w'.ownsRow base e 1 (.slice (some ⟨g', 0, none⟩) (n + 1) c') (n + 1) (us ++ [u]) → Kept (fun k => v.ownBlock = some k) W w' → (v.ownBlock = some g' ∨ W.heap.size ≤ g') →
      K (a.put o.dst (.slice (some ⟨g', 0, none⟩) (n + 1) c')) w') :
    if Region.wanted o (yielded ops a.tmps) = true then Oper.wp Tryz.prog o a W K Q else E := by
  have hw : Region.wanted o (yielded ops a.tmps) = true := by simp [Region.wanted, hgd]
  rw [if_pos hw]
  obtain ⟨i, hi, hz, hsize, hbytes⟩ := info_parts hinfo
  rw [← hsize] at hown
  obtain ⟨g', c', w', hr, h2, h3, h4⟩ := run_app (P := Tryz.prog) (w := W) base t o.type e i z ht hi hz (by rw [hzs, hsize]) v n us hown g 0 1 1 [u] (by simp [hsize]) (by omega) (fun j y hj => by
      rw [add_off]
      cases j with
      | zero => rw [← (by simpa using hj : u = y)]; simpa using hc
      | succ j => simp at hj) (by simpa using hone) (by omega) (by rw [hbytes]; have := Nat.mul_le_mul_left (n + 1) hby; omega) hbase
  rw [hsize] at h2
  have h5 := h g' c' w' h2 h3 h4
  unfold Oper.wp execOp
  simp only [ho, resolve, invoke, builtin, Sem.run_bind, Sem.run_pure, Result.andThen_ok, List.map_toArray, List.map_cons, List.map_nil, hs, hx, hr]
  exact h5

theorem alloc_cell {W : World} {b o : Nat} {v : Value} (h : W.cell? ⟨b, o, none⟩ = some v) (x : Obj) : (W.alloc x).cell? ⟨b, o, none⟩ = some v := ((Kept.alloc (fun _ => False) W x).at0 o (blt h)).trans h

/-- What holds about the two appends. -/
structure DInv (w : World) (b0 n1 : Nat) (vi : Value) (us1 : List Value) (n2 : Nat) (vl : Value) (us2 : List Value) (ix : Int) (u : Value) (W : World) : Prop where
  c0 : W.cell? ⟨b0, 0, none⟩ = some (.int .i64 ix)
  c1 : W.cell? ⟨b0, 1, none⟩ = some u
  own1 : W.ownsRow w.heap.size 3 1 vi n1 us1
  own2 : W.ownsRow w.heap.size 43 1 vl n2 us2
  below : Below w.heap.size w W
theorem DInv.alloc {w : World} {b0 n1 n2 : Nat} {vi vl u : Value} {us1 us2 : List Value} {ix : Int} {W : World} (h : DInv w b0 n1 vi us1 n2 vl us2 ix u W) (x : Obj) : DInv w b0 n1 vi us1 n2 vl us2 ix u (W.alloc x) :=
  ⟨alloc_cell h.c0 x, alloc_cell h.c1 x, h.own1.alloc x, h.own2.alloc x, h.below.alloc h.below.size x⟩
theorem DInv.app1 {w : World} {b0 n1 n2 : Nat} {vi vl u v5 : Value} {us1 us2 us5 : List Value} {ix : Int} {W w5 : World} (h : DInv w b0 n1 vi us1 n2 vl us2 ix u W) (hk : Kept (fun k => vi.ownBlock = some k) W w5) (ho : w5.ownsRow w.heap.size 3 1 v5 (n1 + 1) us5)
    (h0 : vi.ownBlock ≠ some b0) (hne : ∀ b, vi.ownBlock = some b → vl.ownBlock ≠ some b) : DInv w b0 (n1 + 1) v5 us5 n2 vl us2 ix u w5 :=
  ⟨(hk.cell (p := ⟨b0, 0, none⟩) (blt h.c0) h0).trans h.c0, (hk.cell (p := ⟨b0, 1, none⟩) (blt h.c1) h0).trans h.c1, ho, ownsRow_keptS h.own2 hk (fun g hg e => hne g e hg), h.below.trans (hk.toBelow h.below.size (fun i hi => (h.own1.lt i hi).1))⟩

/-- Behind both. -/
structure FInv (w : World) (n : Nat) (g5 c5 g6 c6 : Nat) (us5 us6 : List Value) (W : World) : Prop where
  own1 : W.ownsRow w.heap.size 3 1 (.slice (some ⟨g5, 0, none⟩) n c5) n us5
  own2 : W.ownsRow w.heap.size 43 1 (.slice (some ⟨g6, 0, none⟩) n c6) n us6
  ne : g5 ≠ g6
  below : Below w.heap.size w W
theorem DInv.fin {w : World} {b0 n c5 g5 c6 g6 : Nat} {vl u : Value} {us5 us2 us6 : List Value} {ix : Int} {W w6 : World} (h : DInv w b0 (n + 1) (.slice (some ⟨g5, 0, none⟩) (n + 1) c5) us5 n vl us2 ix u W) (hk : Kept (fun k => vl.ownBlock = some k) W w6)
    (ho : w6.ownsRow w.heap.size 43 1 (.slice (some ⟨g6, 0, none⟩) (n + 1) c6) (n + 1) us6) (hg : vl.ownBlock = some g6 ∨ W.heap.size ≤ g6) (hne : vl.ownBlock ≠ some g5) : FInv w (n + 1) g5 c5 g6 c6 us5 us6 w6 := by
  refine ⟨ownsRow_keptS h.own1 hk (fun g hg e => ?_), ho, fun e => ?_, h.below.trans (hk.toBelow h.below.size (fun i hi => (h.own2.lt i hi).1))⟩
  · have e1 : g5 = g := by simpa [Value.ownBlock] using hg
    exact hne (by rw [e1]; exact e)
  · rcases hg with q | q
    · exact hne (by rw [e]; exact q)
    · have := (h.own1.lt g5 rfl).2; omega

/-- Rows, each of which was there before. -/
def RowsIn (w W : World) (v : Value) (ls : List (List B)) : Prop := ∃ us, W.ownsRow w.heap.size 43 1 v ls.length us ∧ ∀ i z, us[i]? = some z → BytesAt w z (ls.getD i [])
theorem RowsIn.rows {w W : World} {v : Value} {ls : List (List B)} (h : RowsIn w W v ls) (hb : Below w.heap.size w W) : RowsAt W v ls := by
  obtain ⟨us, h1, h2⟩ := h
  exact RowsAt.of_owns h1 (fun i u hi => (h2 i u hi).below hb)
theorem rowsIn_snoc {w W : World} {v' : Value} {n : Nat} {ls : List (List B)} {us : List Value} {u : Value} {l : List B} (hn : ls.length = n) (hl : us.length = n) (h2 : ∀ i z, us[i]? = some z → BytesAt w z (ls.getD i [])) (hu : BytesAt w u l) (ho : W.ownsRow w.heap.size 43 1 v' (n + 1) (us ++ [u])) : RowsIn w W v' (ls ++ [l]) := by
  refine ⟨us ++ [u], by simpa [hn] using ho, fun i z hi => ?_⟩
  by_cases e : i < us.length
  · rw [List.getElem?_append_left e] at hi
    rw [getD_snoc_lt (by omega)]
    exact h2 i z hi
  · have hi' : i = ls.length := by
      have := (List.getElem?_eq_some_iff.1 hi).1
      simp at this; omega
    subst hi'
    have hz : z = u := by
      rw [show ls.length = us.length by omega] at hi
      simpa using hi.symm
    subst hz
    rw [getD_snoc_last]
    exact hu

/-- The first m of the source's rows. -/
def decP (ys : List B) (l : List (List B)) (wide m : Nat) : List (List B) := (List.range m).map fun r => mixL (wtsL ys (ofB r)) l wide
theorem decP_len (ys : List B) (l : List (List B)) (wide m : Nat) : (decP ys l wide m).length = m := by simp [decP]
theorem decP_succ (ys : List B) (l : List (List B)) (wide m : Nat) : decP ys l wide (m + 1) = decP ys l wide m ++ [mixL (wtsL ys (ofB m)) l wide] := by simp [decP, List.range_succ]
theorem decL_eq (k : Nat) (ys : List B) (l : List (List B)) (wide : Nat) : decL k ys l wide = decP ys l wide k := by unfold decL turnL decP; rw [List.map_map]; rfl

/-- Are held symbols as long as the first one? -/
def evenH (hs : List (Int × List B)) : Bool := hs.all fun h => h.2.length == (hs.getD 0 (0, [])).2.length
/-- The error of held symbols. -/
def decE (n k : Nat) (hs : List (Int × List B)) : Int := if evenH hs then askE n k (hIdx hs) else 2
theorem evenH_iff (hs : List (Int × List B)) : evenH hs = true ↔ ∀ i, i < hs.length → (hs.getD i (0, [])).2.length = (hs.getD 0 (0, [])).2.length := by
  unfold evenH
  rw [List.all_eq_true]
  constructor
  · intro h i hi
    have := h hs[i] (List.getElem_mem hi)
    rw [beq_iff_eq] at this
    rw [List.getD_eq_getElem?_getD, List.getElem?_eq_getElem hi]
    exact this
  · intro h x hx
    obtain ⟨i, hi, rfl⟩ := List.mem_iff_getElem.1 hx
    have := h i hi
    rw [List.getD_eq_getElem?_getD, List.getElem?_eq_getElem hi] at this
    rw [beq_iff_eq]
    exact this
end -- CodeTb

section -- CodeUa
open Go.RowKit Go.Maps
set_option linter.unusedVariables false
set_option maxRecDepth 100000
set_option maxHeartbeats 2000000

theorem sameBytes_any (w : World) (va vb : Value) (l : List B) (ha : BytesAt w va l) (hb : BytesAt w vb l) (hl : l.length ≤ 1000000000000) :
    Calls Tryz.prog 33 #[va, vb] w fun e w' => e = .returned (.bool true) ∧ ∃ n, w' = w.drewN n := by
  obtain ⟨pa, ca, rfl, hha⟩ := ha
  obtain ⟨pb, cb, rfl, hhb⟩ := hb
  have HA := Lib.hid hha
  have HB := Lib.hid hhb
  clear hha hhb
  go_enter Tryz.func33, Tryz.ntmps33
  go_wp2
  go_loopw [5] (fun i wr => ∃ (k n : Nat), k ≤ l.length ∧ i = .int .i64 (k : Int) ∧ wr = w.drewN n) (fun i _ => l.length - (intOf i).toNat)
  case atStart => exact ⟨0, 0, Nat.zero_le _, rfl, rfl⟩
  case round =>
    obtain ⟨k, n, hk, rfl, rfl⟩ := hrel
    by_cases hlt : k < l.length
    · obtain ⟨ga, oa, rfl, hca⟩ := HA.out (by omega)
      obtain ⟨gb, ob, rfl, hcb⟩ := HB.out (by omega)
      have x := hca k hlt
      have y := hcb k hlt
      obtain ⟨z, hz⟩ : ∃ z, l.getD k 0 = z := ⟨_, rfl⟩
      rw [hz] at x y
      clear hca hcb hz
      go_wp2_with fail
      go_quiet (fail)
      go_wp2
      go_roundw
      case rel => exact ⟨k + 1, _, by omega, by go_num, rfl⟩
      case measure => simp [intOf]; omega
    · go_wp2
      go_ret
      exact ⟨rfl, n, rfl⟩

theorem sameRows_any (w : World) (va vb : Value) (ls : List (List B)) (ha : RowsAt w va ls) (hb : RowsAt w vb ls) (hl : ls.length ≤ 1000000000000) (hr : ∀ i, i < ls.length → (ls.getD i []).length ≤ 1000000000000) :
    Calls Tryz.prog 13 #[va, vb] w fun e w' => e = .returned (.bool true) ∧ ∃ n, w' = w.drewN n := by
  obtain ⟨pa, ca, rfl, hha⟩ := ha
  obtain ⟨pb, cb, rfl, hhb⟩ := hb
  have HA := Lib.hid hha
  have HB := Lib.hid hhb
  have HR := Lib.hid hr
  clear hha hhb hr
  go_enter Tryz.func13, Tryz.ntmps13
  go_wp2
  go_loopw [5] (fun i wr => ∃ (k n : Nat), k ≤ ls.length ∧ i = .int .i64 (k : Int) ∧ wr = w.drewN n) (fun i _ => ls.length - (intOf i).toNat)
  case atStart => exact ⟨0, 0, Nat.zero_le _, rfl, rfl⟩
  case round =>
    obtain ⟨k, n, hk, rfl, rfl⟩ := hrel
    by_cases hlt : k < ls.length
    · obtain ⟨ga, oa, rfl, hca⟩ := HA.out (by omega)
      obtain ⟨gb, ob, rfl, hcb⟩ := HB.out (by omega)
      obtain ⟨ua, x, xa⟩ := hca k hlt
      obtain ⟨ub, y, yb⟩ := hcb k hlt
      have XA := Lib.hid xa
      have YB := Lib.hid yb
      have HRK := Lib.hid (HR.out k hlt)
      clear hca hcb xa yb
      go_wp2_with fail
      go_quiet ((go_at_call 33; exact q_add (sameBytes_any _ ua ub (ls.getD k []) (by exact XA.out) (by exact YB.out) HRK.out)))
      go_wp2
      go_roundw
      case rel => exact ⟨k + 1, _, by omega, by go_num, rfl⟩
      case measure => simp [intOf]; omega
    · go_wp2
      go_ret
      exact ⟨rfl, n, rfl⟩
end -- CodeUa

section -- CodeGb
open Go.RowKit Go.Maps
set_option linter.unusedVariables false
set_option maxRecDepth 100000
set_option maxHeartbeats 2000000

/-- Append of one row's header; only memory bounds it. -/
theorem app_head {ops : Array Oper} {rest : List Oper} {o : Oper} {a : Act} {Q : Exit → Act → World → Prop} {W : World}
    (hgd : o.guard = none) (s x : Operand) (ho : o.op = .call { callee := .builtin .append, args := #[s, x], argTypes := #[37, 37] })
    (base n : Nat) (v : Value) (us : List Value) (hs : a.eval s = v) (hown : W.ownsRow base 43 1 v n us) (u : Value) (h1 : u.oneCell' = true)
    (hx : a.eval x = .slice (some ⟨W.heap.size, 0, none⟩) 1 1) (hn : n < 5000000000000) (hbase : base ≤ W.heap.size)
    (h : ∀ g' c' w', w'.ownsRow base 43 1 (.slice (some ⟨g', 0, none⟩) (n + 1) c') (n + 1) (us ++ [u]) → Kept (fun k => v.ownBlock = some k) W w' → W.heap.size < w'.heap.size → (v.ownBlock = some g' ∨ W.heap.size < g') →
      wpList Tryz.prog ops Q rest (a.put o.dst (.slice (some ⟨g', 0, none⟩) (n + 1) c')) w') : wpList Tryz.prog ops Q (o :: rest) a (W.alloc (.cells #[u] 43)) := by
  obtain ⟨i, hi, hz, hsize, hbytes⟩ := info_parts infoR
  rw [← hsize] at hown
  obtain ⟨g', c', w', hr, h2, h3, h4⟩ := run_app (P := Tryz.prog) (w := W.alloc (.cells #[u] 43)) base 37 o.type 43 i (.slice none 0 0) Tryz.underlying37 hi hz (by rw [hsize]; rfl) v n us (hown.alloc _) W.heap.size 0 1 1 [u] (by simp [hsize]) (by omega) (fun j y hj => by
      rw [add_zero_off]
      exact (World.cell?_alloc_new W _ _ j).trans (by simpa using hj)) (by simpa using h1) (by omega) (by rw [hbytes]; omega) (by simp; omega)
  rw [hsize] at h2
  refine wpList_plain hgd fun K hK => ?_
  have h5 := h g' c' w' h2 ⟨h3.os, h3.tape, h3.output, Nat.le_trans (by simp) h3.size, fun k hk hn => (h3.block k (by simp; omega) hn).trans (Below.heap_alloc W _ k hk)⟩
    (Nat.lt_of_lt_of_le (by simp) h3.size) (h4.imp id (fun q => by simp at q; omega))
  unfold Oper.wp execOp
  simp only [ho, resolve, invoke, builtin, Sem.run_bind, Sem.run_pure, Result.andThen_ok, List.map_toArray, List.map_cons, List.map_nil, hs, hx, hr]
  exact hK _ _ h5
end -- CodeGb

end Go.Proofs.YtlmpagicjgldkaaGreat
