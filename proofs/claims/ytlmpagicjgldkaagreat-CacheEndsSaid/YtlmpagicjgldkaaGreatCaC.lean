/-
  The key of indexes that may be one.
-/
import Derived.Test.YtlmpagicjgldkaaGreatCaB
namespace Go.Proofs.YtlmpagicjgldkaaGreat
open Go.RowKit Go.Maps
set_option linter.unusedVariables false
set_option linter.unusedSimpArgs false
set_option maxRecDepth 100000
set_option maxHeartbeats 2000000

/-- What comes of indexes that may be a key. -/
def OfPost (n K : Nat) (xs : List Int) (w : World) (e : Ending) (w' : World) : Prop :=
  (((∀ x ∈ xs.take K, 0 ≤ x ∧ x < n) ∧ e = .returned (.tuple #[keyV (K : Int) (xs.take K), .bool true])) ∨ ((¬ ∀ x ∈ xs.take K, 0 ≤ x ∧ x < n) ∧ ∃ m, Idx (K : Int) (xs.take m) ∧ e = .returned (.tuple #[keyV (K : Int) (xs.take m), .bool false]))) ∧ Below w.heap.size w w'

theorem of_fin (W : World) (g : Nat) (k : Int) (xs : List Int) (hK : KeyAt W g k xs) (tmps : Array Value) (c : Bool) (h6 : tmps.getD 6 undef = .pointer (some ⟨g, 0, none⟩)) (h7 : tmps.getD 7 undef = .bool c) (R : Ending → World → Prop)
    (h : R (.returned (.tuple #[keyV k xs, .bool c])) W) : bodyPost Tryz.prog Tryz.f38 R Exit.ret ⟨tmps, []⟩ W := by
  refine bodyPost_ret (results_cell_tmp rfl _ _ g _ _ (0, 0) _ h6 hK Tryz.underlying86 rfl (kc_hi _ _)) rfl ?_
  show R (.returned (.tuple #[keyV k xs, tmps.getD 7 undef])) W
  rw [h7]
  exact h
theorem KeyAt.store {w : World} {g : Nat} {k : Int} {xs : List Int} (h : KeyAt w g k xs) : KeyAt (w.setRow g (kcells k xs).toArray) g k xs := setRow_heap _ _ _ _ _ _ h

theorem of_some (w : World) {F : Nat → Prop} {b bm : Nat} {s : CS} (hc : CacheAt w F b bm s) (K : Nat) (v : Value) (xs : List Int) (hv : IntsAt w v xs) (hl : xs.length ≤ 1000000) (h1 : 1 ≤ K) (h2 : K ≤ s.n) (h3 : K ≤ xs.length) :
    Calls Tryz.prog 38 #[.pointer (some ⟨b, 0, none⟩), .int .i64 (K : Int), v] w (OfPost s.n K xs w) := by
  have c3 := hc.c3
  have hlt := hc.lt
  have h255 := hc.n255
  obtain ⟨p, cap, rfl, hcap, hx⟩ := hv
  obtain ⟨n, hn⟩ : ∃ n, s.n = n := ⟨_, rfl⟩
  obtain ⟨l, hll⟩ : ∃ l, xs.length = l := ⟨_, rfl⟩
  rw [hn] at c3 h2 h255
  obtain ⟨gx, ox, rfl, hx'⟩ := hx (by omega)
  clear hx
  rw [hn]
  rw [hll] at hl h3 hcap hx' ⊢
  have HLL := Lib.hid hll
  have HX := Lib.hid hx'
  have hgx := blt (hx' 0 (by omega))
  have c3' : (w.alloc (.cells Tryz.zeroCells86 86)).cell? ⟨b, 3, none⟩ = some (.int .i64 (n : Int)) := alloc_cell c3 _
  clear hc hn hll hx'
  go_enter Tryz.func38, Tryz.ntmps38
  go_wp2
  go_loopw [7, 33] (fun v7 i wr => ∃ m : Nat, v7 = .bool false ∧ i = .int .i64 (m : Int) ∧ m ≤ K ∧ KeyAt wr w.heap.size K (xs.take m) ∧ (∀ x ∈ xs.take m, 0 ≤ x ∧ x < n) ∧ Below w.heap.size w wr) (fun _ i _ => K - (intOf i).toNat)
  case atStart =>
    refine ⟨0, rfl, rfl, Nat.zero_le _, ?_, by simp, (Kept.alloc (fun _ => False) w _).toBelow (Nat.le_refl _) (fun _ h => h.elim)⟩
    unfold KeyAt
    rw [heap_alloc_new, zero_key]
    simp [kcells]
  case round =>
    obtain ⟨m, rfl, rfl, hm, hK, hr, hB⟩ := hrel
    have HK := Lib.hid hK
    have HR := Lib.hid hr
    have HB := Lib.hid hB
    have hKl := hK.lt
    have d3 := (hB.cell (p := ⟨b, 3, none⟩) hlt).trans c3
    clear hr hK
    by_cases hmk : m < K
    · have x1 := (hB.cell (p := ⟨gx, ox + m, none⟩) hgx).trans (HX.out m (by omega))
      obtain ⟨x, hx⟩ : ∃ x, xs.getD m 0 = x := ⟨_, rfl⟩
      rw [hx] at x1
      have HXX := Lib.hid hx
      have HT := Lib.hid (show xs.take (m + 1) = xs.take m ++ [x] by
        rw [List.take_succ_eq_append_getElem (by rw [HLL.out]; omega), ← hx, List.getD_eq_getElem?_getD, List.getElem?_eq_getElem (by rw [HLL.out]; omega)]; rfl)
      have HIN := Lib.hid (show x ∈ xs.take K by
        have : xs.take (m + 1) = (xs.take K).take (m + 1) := by rw [List.take_take, Nat.min_eq_left (by omega)]
        rw [HT.out] at this
        exact List.mem_of_mem_take (by rw [← this]; simp))
      have HID := Lib.hid (show Idx (K : Int) (xs.take m) from ⟨by omega, by omega, by rw [List.length_take]; omega, fun y hy => by have := HR.out y hy; omega⟩)
      have f1 := HK.out.fz (1 + m)
      obtain ⟨old, hold⟩ : ∃ v, wr.cell? ⟨w.heap.size, 1 + m, none⟩ = some v := ⟨_, HK.out.cell (by omega)⟩
      have hk0 : (0 : Int) ≤ (m : Int) := by omega
      have hgc := HK.out
      unfold KeyAt at hgc
      have HGC := Lib.hid hgc
      clear hgc hx hB
      have hsc : (storeCells ⟨w.heap.size, 0, none⟩ (kcells K (xs.take m)) 0).run Tryz.prog wr = .ok () (wr.setRow w.heap.size (kcells K (xs.take m)).toArray) := store_key _ _ _ HGC.out (kc_size _ _) _ _
      by_cases hx0 : x < 0
      · go_wp2
        refine wp_load_row _ _ rfl w.heap.size rfl _ _ (0, 0) _ HGC.out Tryz.underlying86 rfl (kc_hi _ _) ?_
        go_wp2
        refine of_fin _ w.heap.size K (xs.take m) HK.out.store _ false rfl rfl _ ⟨.inr ⟨fun h => by have := h x HIN.out; omega, m, HID.out, rfl⟩, ?_⟩
        exact HB.out.trans ((setRow_kept _ w.heap.size _).toBelow HB.out.size (fun i hi => by omega))
      · by_cases hxn : x < n
        · go_wp2
          go_roundw
          case rel =>
            refine ⟨m + 1, rfl, by go_num, by omega, ?_, ?_, ?_⟩
            · rw [← HXX.out]; exact HK.out.set (by rw [HLL.out]; omega) (by omega)
            · rw [HT.out]; intro y hy
              rcases List.mem_append.1 hy with h | h
              · exact HR.out y h
              · obtain rfl : y = x := by simpa using h
                omega
            · exact HB.out.trans ((Kept.set1 wr w.heap.size (1 + m) _).toBelow HB.out.size (fun i hi => by omega))
          case measure => simp [intOf]; omega
        · go_wp2
          refine wp_load_row _ _ rfl w.heap.size rfl _ _ (0, 0) _ HGC.out Tryz.underlying86 rfl (kc_hi _ _) ?_
          go_wp2
          refine of_fin _ w.heap.size K (xs.take m) HK.out.store _ false rfl rfl _ ⟨.inr ⟨fun h => by have := h x HIN.out; omega, m, HID.out, rfl⟩, ?_⟩
          exact HB.out.trans ((setRow_kept _ w.heap.size _).toBelow HB.out.size (fun i hi => by omega))
    · obtain rfl : m = K := by omega
      have hgc := HK.out
      unfold KeyAt at hgc
      have HGC := Lib.hid hgc
      clear hgc hB
      have hsc : (storeCells ⟨w.heap.size, 0, none⟩ (kcells m (xs.take m)) 0).run Tryz.prog wr = .ok () (wr.setRow w.heap.size (kcells m (xs.take m)).toArray) := store_key _ _ _ HGC.out (kc_size _ _) _ _
      go_wp2
      refine wp_load_row _ _ rfl w.heap.size rfl _ _ (0, 0) _ HGC.out Tryz.underlying86 rfl (kc_hi _ _) ?_
      go_wp2
      refine of_fin _ w.heap.size m (xs.take m) HK.out.store _ true rfl rfl _ ⟨.inl ⟨HR.out, rfl⟩, ?_⟩
      exact HB.out.trans ((setRow_kept _ w.heap.size _).toBelow HB.out.size (fun i hi => by omega))
end Go.Proofs.YtlmpagicjgldkaaGreat
