/-
  Walks of layer 4 (lagr): slices.Index, over.
-/
import Derived.Test.YtojbbmfndlcgkaaGreatMxag
import Derived.Test.YtojbbmfndlcgkaaGreatMxad
namespace Go.Proofs.YtojbbmfndlcgkaaGreat
open Go.RowKit Go.Maps
set_option linter.unusedVariables false
set_option maxRecDepth 100000
set_option maxHeartbeats 2000000

theorem index_any (w : World) (v : Value) (l : List B) (x : B) (hv : BytesAt w v l) (hl : l.length ≤ 1000000) :
    Calls Tryz.prog 69 #[v, bv x] w fun e w' => w = w' ∧ ((∃ k, k < l.length ∧ l.getD k 0 = x ∧ e = .returned (.int .i64 (k : Int))) ∨ (x ∉ l ∧ e = .returned (.int .i64 (-1)))) := by
  obtain ⟨p, cap, rfl, hh⟩ := hv
  unfold bv
  have HH := Lib.hid hh
  clear hh
  go_enter Tryz.func69, Tryz.ntmps69
  go_wp2
  go_loop [5, 8] (fun _ i => ∃ k : Nat, k ≤ l.length ∧ i = .int .i64 (k : Int) ∧ ∀ j, j < k → l.getD j 0 ≠ x) (fun _ i => l.length - (intOf i).toNat)
  case atStart => exact ⟨0, Nat.zero_le _, rfl, fun j h => absurd h (by omega)⟩
  case round =>
    obtain ⟨k, hk, rfl, hno⟩ := hrel
    have HN := Lib.hid hno
    clear hno
    by_cases hlt : k < l.length
    · obtain ⟨g, off, rfl, hc⟩ := HH.out (by omega)
      have hck := hc k hlt
      clear hc
      obtain ⟨y, hy⟩ : ∃ y, l.getD k 0 = y := ⟨_, rfl⟩
      rw [hy] at hck
      have HY := Lib.hid hy
      clear hy
      unfold bv at hck
      by_cases e : x.v = y.v
      · have e1 : (x.v == y.v) = true := by simpa using e
        have HE := Lib.hid e
        clear e
        go_wp2
        go_ret
        exact ⟨rfl, .inl ⟨k, hlt, HY.out.trans (B.ext HE.out.symm), rfl⟩⟩
      · have e1 : (x.v == y.v) = false := by simpa using e
        have e2 : ¬ (x.v : Int) = y.v := by omega
        go_wp2
        go_round
        case rel =>
          refine ⟨k + 1, by omega, by go_num, fun j hj => ?_⟩
          by_cases q : j = k
          · subst q; rw [HY.out]; intro h; exact e (congrArg B.v h).symm
          · exact HN.out j (by omega)
        case measure => simp [intOf]; omega
    · go_wp2
      go_ret
      refine ⟨rfl, .inr ⟨fun hm => ?_, rfl⟩⟩
      obtain ⟨j, hj, hx⟩ := List.mem_iff_getElem.1 hm
      refine HN.out j (by omega) ?_
      rw [List.getD_eq_getElem?_getD, List.getElem?_eq_getElem hj]; exact hx

/-- A worker: the field, the points, their products. -/
structure OverAt (w : World) (bw bf : Nat) (vp va : Value) (xs ap : List B) : Prop where
  c0 : w.cell? ⟨bw, 0, none⟩ = some (.pointer (some ⟨bf, 0, none⟩))
  c1 : w.cell? ⟨bw, 1, none⟩ = some vp
  c2 : w.cell? ⟨bw, 2, none⟩ = some va
  fl : FieldAt w bf
  pts : BytesAt w vp xs
  aps : BytesAt w va ap
theorem OverAt.kept {S : Nat → Prop} {w w' : World} {bw bf : Nat} {vp va : Value} {xs ap : List B} (h : OverAt w bw bf vp va xs ap) (hk : Kept S w w') (hS : ∀ k, k < w.heap.size → ¬ S k) : OverAt w' bw bf vp va xs ap := by
  have hlt := World.block_lt_of_cell? w _ h.c0
  have hn := hS bw hlt
  exact ⟨(hk.cell (p := ⟨bw, 0, none⟩) hlt hn).trans h.c0, (hk.cell (p := ⟨bw, 1, none⟩) hlt hn).trans h.c1, (hk.cell (p := ⟨bw, 2, none⟩) hlt hn).trans h.c2, h.fl.kept hk (hS _ h.fl.lt), h.pts.kept hk hS, h.aps.kept hk hS⟩

theorem apart_take {xs : List B} {k : Nat} (h : k < xs.length) : (apartL xs).take k ++ [pS xs k (xs.getD k 0) xs.length] = (apartL xs).take (k + 1) := by
  have hl : k < (apartL xs).length := by rw [apartL_len]; exact h
  rw [List.take_succ_eq_append_getElem hl]
  congr 2
  rw [pS_eq xs k _ _ (Nat.le_refl _), List.take_of_length_le (Nat.le_refl _)]
  simp [apartL]

theorem over_any (w : World) (v : Value) (xs : List B) (hv : BytesAt w v xs) (hl : xs.length ≤ 1000) :
    Calls Tryz.prog 55 #[v] w fun e w' => ∃ bw bf va, e = .returned (.pointer (some ⟨bw, 0, none⟩)) ∧ OverAt w' bw bf v va xs (apartL xs) ∧ Below w.heap.size w w' := by
  have HV := Lib.hid hv
  obtain ⟨p, cap, hvv, hh⟩ := hv
  have HVV := Lib.hid hvv
  have HH := Lib.hid hh
  have HL := Lib.hid (apartL_len xs)
  clear hh
  subst hvv
  go_enter Tryz.func55, Tryz.ntmps55
  go_wp2_with fail
  refine (fnew_any w).mono ?_
  rintro e w1 ⟨bf, rfl, hf, hfb, hB1⟩
  have HF := Lib.hid hf
  have hfl := hf.lt
  clear hf
  have hs1 := hB1.size
  have HHB := Lib.hid (heap_alloc_new w1 (.cells #[.pointer (some ⟨bf, 0, none⟩), .slice p xs.length cap, .slice none 0 0] 125))
  go_wp2
  have hB2 : Below w.heap.size w (w1.alloc (.cells #[.pointer (some ⟨bf, 0, none⟩), .slice p xs.length cap, .slice none 0 0] 125)) := hB1.alloc hs1 _
  have HF2 := Lib.hid (HF.out.kept (Kept.alloc (fun _ => False) w1 (.cells #[.pointer (some ⟨bf, 0, none⟩), .slice p xs.length cap, .slice none 0 0] 125)) (fun h => h))
  have hs2 : w1.heap.size < (w1.alloc (.cells #[.pointer (some ⟨bf, 0, none⟩), .slice p xs.length cap, .slice none 0 0] 125)).heap.size := by simp
  generalize (w1.alloc (.cells #[.pointer (some ⟨bf, 0, none⟩), .slice p xs.length cap, .slice none 0 0] 125)) = w2 at *
  go_loopw [4, 5, 6, 7, 8, 15] (fun _ _ _ _ _ i wr => ∃ (k : Nat) (va : Value), k ≤ xs.length ∧ i = .int .i64 (k : Int) ∧ wr.heap[w1.heap.size]? = some (.cells #[.pointer (some ⟨bf, 0, none⟩), .slice p xs.length cap, va] 125 (0, 0)) ∧
      wr.ownsRow (w1.heap.size + 1) 5 1 va k (((apartL xs).take k).map bv) ∧ Below w.heap.size w wr ∧ w1.heap.size < wr.heap.size ∧ FieldAt wr bf) (fun _ _ _ _ _ i _ => xs.length - (intOf i).toNat)
  case atStart => exact ⟨0, _, Nat.zero_le _, rfl, HHB.out, World.ownsRow_nil _ _ _ _, hB2, hs2, HF2.out⟩
  case round =>
    obtain ⟨k, va, hk, rfl, hb, ho, hB, hsz, hf⟩ := hrel
    have HB := Lib.hid hb
    have HO := Lib.hid ho
    have HF := Lib.hid hf
    have d0 : wr.cell? ⟨w1.heap.size, 0, none⟩ = some (.pointer (some ⟨bf, 0, none⟩)) := by simp [World.cell?, hb]
    have d2 : wr.cell? ⟨w1.heap.size, 2, none⟩ = some va := by simp [World.cell?, hb]
    clear hb ho hf
    by_cases hlt : k < xs.length
    · obtain ⟨g, off, rfl, hc⟩ := HH.out (by omega)
      have HC := Lib.hid hc
      have hck := hc k hlt
      have hgl := World.block_lt_of_cell? w _ hck
      have hck2 := (hB.cell (p := ⟨g, off + k, none⟩) hgl).trans hck
      clear hc hck
      obtain ⟨x, hx⟩ : ∃ x, xs.getD k 0 = x := ⟨_, rfl⟩
      rw [hx] at hck2
      have HX := Lib.hid hx
      clear hx
      have hp0 : pS xs k x 0 = 1 := rfl
      go_wp2
      go_loopw [6, 7, 8, 22] (fun q _ _ i wi => ∃ (m n : Nat), m ≤ xs.length ∧ i = .int .i64 (m : Int) ∧ q = bv (pS xs k x m) ∧ wi = wr.drewN n) (fun _ _ _ i _ => xs.length - (intOf i).toNat)
      case atStart => exact ⟨0, 0, Nat.zero_le _, rfl, rfl, rfl⟩
      case round =>
        obtain ⟨m, n, hm, rfl, rfl, rfl⟩ := hrel
        by_cases hmt : m < xs.length
        · have hcm := (hB.cell (p := ⟨g, off + m, none⟩) hgl).trans (HC.out m hmt)
          have hstep : pS xs k x (m + 1) = if m = k then pS xs k x m else pS xs k x m * (x + xs.getD m 0) := rfl
          have HS := Lib.hid hstep
          clear hstep
          obtain ⟨y, hy⟩ : ∃ y, xs.getD m 0 = y := ⟨_, rfl⟩
          rw [hy] at hcm
          have HY := Lib.hid hy
          clear hy
          by_cases hmk : m = k
          · have e1 : (m == k) = true := by simpa using hmk
            have HMK := Lib.hid hmk
            clear hmk
            go_wp2
            go_roundw
            case rel => exact ⟨m + 1, n, by omega, by go_num, by rw [HS.out, if_pos HMK.out], rfl⟩
            case measure => simp [intOf]; omega
          · have e1 : (m == k) = false := by simpa using hmk
            have e2 : ¬ (m : Int) = k := by omega
            go_wp2_with fail
            go_quiet (first
              | (go_at_call 61; exact q_add_same (fadd_any _ x y))
              | (go_at_call 62; exact q_add (fmul_any _ bf (by exact HF.out) (pS xs k x m) (x + y))))
            go_wp2
            go_roundw
            case rel => exact ⟨m + 1, _, by omega, by go_num, by rw [HS.out, if_neg hmk, HY.out], rfl⟩
            case measure => simp [intOf]; omega
        · obtain rfl : m = xs.length := by omega
          have HO2 := Lib.hid (show (wr.drewN n).ownsRow (w1.heap.size + 1) 5 1 va k (((apartL xs).take k).map bv) from HO.out)
          have HA := Lib.hid (apart_take hlt)
          rw [HX.out] at HA
          obtain ⟨q, hq⟩ : ∃ q, pS xs k x xs.length = q := ⟨_, rfl⟩
          rw [hq] at HA ⊢
          clear hq
          unfold bv
          have hbk : (wr.drewN n).heap[w1.heap.size]? = some (.cells #[.pointer (some ⟨bf, 0, none⟩), .slice (some ⟨g, off, none⟩) xs.length cap, va] 125 (0, 0)) := HB.out
          have HBK := Lib.hid hbk
          clear hbk
          have hsz' : w1.heap.size + 1 ≤ (wr.drewN n).heap.size := hsz
          have hB' : Below w.heap.size w (wr.drewN n) := ⟨hB.os, hB.tape, hB.output, hB.size, hB.block⟩
          have HF3 : Hid (FieldAt (wr.drewN n) bf) := HF.out
          go_wp2_with (at_builtin; refine app_el 39 5 1 1 (.int .u8 0) Tryz.underlying39 infoB rfl (by decide) rfl _ _ rfl (w1.heap.size + 1) k va _ rfl HO2.out [.int .u8 ((q.v : Nat) : Int)] rfl (one_bv q) rfl (by omega) hsz' ?_; intro g' c' w3 ho3 hk3 hs3 hg3; have hb3 := (hk3.block _ hsz (fun h => by have := (HO2.out.lt _ h).1; omega)).trans HBK.out; have x2 := cell_of hb3 2; have z2 := fz_of hb3 2; have HB3 := Lib.hid hb3; clear hb3; simp only [List.getElem?_toArray, List.getElem?_cons_succ, List.getElem?_cons_zero] at x2)
          have hb4 := heap_set (i := 2) HB3.out (.slice (some ⟨g', 0, none⟩) (k + 1) c')
          have hks : Kept (fun i => i = w1.heap.size) w3 (w3.setCell ⟨w1.heap.size, 2, none⟩ (.slice (some ⟨g', 0, none⟩) (k + 1) c')) := Kept.set1 _ _ _ _
          have hk4 := (hk3.mono (S' := fun i => va.ownBlock = some i ∨ i = w1.heap.size) (fun _ _ h => Or.inl h)).trans (hks.mono (S' := fun i => va.ownBlock = some i ∨ i = w1.heap.size) (fun _ _ h => Or.inr h)) (fun _ _ h => h)
          go_roundw
          case rel =>
            refine ⟨k + 1, _, by omega, by go_num, hb4, ?_, ?_, ?_, ?_⟩
            · have := ownsRow_keptS ho3 hks (fun j hj e => by have := (ho3.lt j hj).1; omega)
              rw [← HA.out, List.map_append]
              exact this
            · exact hB'.trans (hk4.toBelow hB'.size (fun i h => by rcases h with h | h; have := (HO2.out.lt i h).1; omega; omega))
            · simp only [World.setCell, Array.size_modify]; omega
            · exact HF3.out.kept hk4 (fun h => by rcases h with h | h; have := (HO2.out.lt _ h).1; omega; omega)
          case measure => simp [intOf]; omega
    · obtain rfl : k = xs.length := by omega
      go_wp2
      go_ret
      have hap := HO.out
      rw [List.take_of_length_le (by rw [HL.out]; omega)] at hap
      have hap' : wr.ownsRow (w1.heap.size + 1) 5 1 va (apartL xs).length ((apartL xs).map bv) := by rw [HL.out]; exact hap
      exact ⟨_, _, va, rfl, ⟨by rw [cell_of HB.out]; rfl, by rw [cell_of HB.out]; rfl, by rw [cell_of HB.out]; rfl, HF.out, HV.out.below hB, BytesAt.of_owns hap'⟩, hB⟩

end Go.Proofs.YtojbbmfndlcgkaaGreat
