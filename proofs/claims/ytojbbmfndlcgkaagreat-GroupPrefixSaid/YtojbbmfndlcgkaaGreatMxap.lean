/-
  CodeRd: Walks of layer 3 (rows): wide, Right, copied, Clone.
  CodeRe: A matrix whose rows may be of unlike lengths; Clone.
-/
import Derived.Test.YtojbbmfndlcgkaaGreatMxan
import Derived.Laws.CopyOwn
import Derived.Test.YtojbbmfndlcgkaaGreatMxao
import Derived.WalkSpells
namespace Go.Proofs.YtojbbmfndlcgkaaGreat

section -- CodeRd
open Go.RowKit Go.Maps
set_option linter.unusedVariables false
set_option maxRecDepth 100000
set_option maxHeartbeats 2000000

theorem wide_any (w : World) (v : Value) (ls : List (List B)) (wd : Nat) (hl : RowsAt w v ls) (h0 : 0 < ls.length) (hlen : ls.length ≤ 1000000000) (hwd : ∀ i, i < ls.length → (ls.getD i []).length = wd) :
    Calls Tryz.prog 97 #[v] w fun e w' => e = .returned (.int .i64 (wd : Int)) ∧ w = w' := by
  obtain ⟨p, c, rfl, hh⟩ := hl
  obtain ⟨g, off, rfl, hc⟩ := hh h0
  have HC := Lib.hid hc
  have HW := Lib.hid hwd
  clear hh hc hwd
  go_enter Tryz.func97, Tryz.ntmps97
  go_wp2
  go_loop [3, 4, 5, 8, 13, 16, 17, 18, 19, 20, 21, 22] (fun n _ _ i _ _ _ _ _ _ _ _ => ∃ k : Nat, k ≤ ls.length ∧ i = .int .i64 (k : Int) ∧ n = .int .i64 ((if k = 0 then 0 else wd : Nat) : Int)) (fun _ _ _ i _ _ _ _ _ _ _ _ => ls.length - (intOf i).toNat)
  case atStart => exact ⟨0, Nat.zero_le _, rfl, rfl⟩
  case round =>
    obtain ⟨k, hk, rfl, rfl⟩ := hrel
    by_cases hlt : k < ls.length
    · obtain ⟨u, hu, hub⟩ := HC.out k hlt
      obtain ⟨pu, cu, rfl⟩ := hub.shape
      rw [HW.out k hlt] at hu
      clear hub
      by_cases hz : k = 0
      · subst hz
        rw [Nat.add_zero] at hu
        go_wp2
        go_round
        case rel => exact ⟨1, by omega, by go_num, rfl⟩
        case measure => simp [intOf]; omega
      · have e1 : (k == 0) = false := by simpa using hz
        have e2 : ¬ (k : Int) = 0 := by omega
        have HE := Lib.hid (show (if k = 0 then 0 else wd) = wd from if_neg hz)
        rw [HE.out]
        have HE1 := Lib.hid (show (if k + 1 = 0 then 0 else wd) = wd from if_neg (by omega))
        clear hz
        go_wp2
        go_round
        case rel => exact ⟨k + 1, by omega, by go_num, by rw [HE1.out]⟩
        case measure => simp [intOf]; omega
    · obtain rfl : k = ls.length := by omega
      have HE := Lib.hid (show (if ls.length = 0 then 0 else wd) = wd from if_neg (by omega))
      rw [HE.out]
      go_wp2
      go_ret
      exact ⟨rfl, rfl⟩

theorem rright_any (w : World) (v : Value) (ls : List (List B)) (wd : Nat) (hl : RowsAt w v ls) (h0 : 0 < ls.length) (hlen : ls.length ≤ 255) (hwd : ∀ i, i < ls.length → (ls.getD i []).length = wd) (hw : wd ≤ 255) :
    Calls Tryz.prog 96 #[v] w fun e w' => e = .returned (.bool true) ∧ w = w' := by
  have HC := Lib.hid (wide_any w v ls wd hl h0 (by omega) hwd)
  obtain ⟨p, c, rfl⟩ := hl.shape
  clear hl hwd
  go_enter Tryz.func96, Tryz.ntmps96
  go_wp2_with fail
  refine HC.out.mono ?_
  rintro e w' ⟨rfl, rfl⟩
  have e1 : ((ls.length : Int) ≤ 255) := by omega
  have e2 : ((wd : Int) ≤ 255) := by omega
  go_wp2
  go_ret
  exact ⟨rfl, rfl⟩

/-- A place, by the list. -/
def lsM (ls : List (List B)) (r c : Nat) : B := (ls.getD r []).getD c 0
theorem lsM_row {ls : List (List B)} {wd r : Nat} (h : (ls.getD r []).length = wd) : rowL wd (lsM ls r) = ls.getD r [] := by
  conv => rhs; rw [list_rowL (ls.getD r []), h]
  rfl

/-- The first rows of a matrix that is being made. -/
structure MatP (w : World) (gm k W : Nat) (U : Nat → Nat × Nat) (M : Nat → Nat → B) : Prop where
  outer : ∃ C : Array Value, w.heap[gm]? = some (.cells C 39 (0, 0)) ∧ k ≤ C.size ∧ ∀ r, r < k → C[r]? = some (.slice (some ⟨(U r).1, 0, none⟩) W (U r).2)
  row : ∀ r, r < k → RowC w (U r).1 (U r).2 (rowL W (M r))
  inj : ∀ r s, r < k → s < k → (U r).1 = (U s).1 → r = s
  ne : ∀ r, r < k → (U r).1 ≠ gm
theorem MatP.lt {w : World} {gm k W : Nat} {U : Nat → Nat × Nat} {M : Nat → Nat → B} (h : MatP w gm k W U M) : gm < w.heap.size := by
  obtain ⟨C, h1, h2, h3⟩ := h.outer
  exact (Array.getElem?_eq_some_iff.1 h1).1
theorem MatP.toW {w : World} {gm k W : Nat} {U : Nat → Nat × Nat} {M : Nat → Nat → B} (h : MatP w gm k W U M) {C : Array Value} (hC : w.heap[gm]? = some (.cells C 39 (0, 0))) (hCs : C.size = k) : MatW w gm k W U M := by
  obtain ⟨C', h1, h2, h3⟩ := h.outer
  have : C' = C := by rw [h1] at hC; simpa using hC
  subst this
  exact ⟨⟨C', h1, hCs, h3⟩, h.row, h.inj, h.ne⟩

/-- One more row. -/
theorem MatP.grow {w w5 : World} {gm j W g cp : Nat} {U : Nat → Nat × Nat} {M : Nat → Nat → B} {C : Array Value} (h : MatP w gm j W U M) (hj : j < C.size)
    (hC : w.heap[gm]? = some (.cells C 39 (0, 0))) (hC5 : w5.heap[gm]? = some (.cells (C.setIfInBounds j (.slice (some ⟨g, 0, none⟩) W cp)) 39 (0, 0)))
    (hk : Kept (fun i => i = gm ∨ i = g) w w5) (hg : g ≠ gm) (hf : ∀ r, r < j → (U r).1 ≠ g) (hr : RowC w5 g cp (rowL W (M j))) :
    MatP w5 gm (j + 1) W (fun r => if r = j then (g, cp) else U r) M := by
  obtain ⟨C', h1, h2, h3⟩ := h.outer
  have : C' = C := by rw [h1] at hC; simpa using hC
  subst this
  refine ⟨⟨_, hC5, by simp; omega, fun r hr' => ?_⟩, fun r hr' => ?_, fun r s hr' hs e => ?_, fun r hr' => ?_⟩
  · by_cases e : r = j
    · subst e; rw [Array.getElem?_setIfInBounds_self_of_lt hj]; simp
    · rw [Array.getElem?_setIfInBounds_ne (fun q => e q.symm), h3 r (by omega)]; simp [e]
  · by_cases e : r = j
    · subst e; simpa using hr
    · simp only [if_neg e]
      exact (h.row r (by omega)).kept hk (fun q => q.elim (h.ne r (by omega)) (hf r (by omega)))
  · by_cases e1 : r = j <;> by_cases e2 : s = j
    · omega
    · simp only [if_pos e1, if_neg e2] at e; exact absurd e.symm (hf s (by omega))
    · simp only [if_neg e1, if_pos e2] at e; exact absurd e (hf r (by omega))
    · simp only [if_neg e1, if_neg e2] at e; exact h.inj r s (by omega) (by omega) e
  · by_cases e : r = j
    · simpa only [if_pos e] using hg
    · simp only [if_neg e]; exact h.ne r (by omega)

theorem splice_all (z l : List Value) (h : z.length = l.length) : splice z 0 l = l := by
  unfold splice
  simp [List.drop_eq_nil_of_le (show z.length ≤ l.length by omega)]

theorem infoB1 : (Tryz.prog.info? 5).map (·.size) = some 1 := by kernel_rfl

/-- copy, into a block that is as long. -/
theorem run_copy_bytes {W : World} {g n c : Nat} {p : Option Addr} {cu : Nat} {z l : List B} (hz : RowF W g z) (hzn : z.length = n) (hln : l.length = n) (hs : 0 < n → ∃ gs os, p = some ⟨gs, os, none⟩ ∧ ∀ i, i < n → W.cell? ⟨gs, os + i, none⟩ = some (bv (l.getD i 0))) :
    ∃ W5, (Builtin.copy_ #[39, 39] 3 #[.slice (some ⟨g, 0, none⟩) n c, .slice p n cu]).run Tryz.prog W = .ok (.int .i64 (n : Int)) W5 ∧ RowF W5 g l ∧ Kept (fun i => i = g) W W5 := by
  by_cases h0 : n = 0
  · subst h0
    have : l = z := by rw [List.eq_nil_of_length_eq_zero hln, List.eq_nil_of_length_eq_zero hzn]
    exact ⟨W, run_copy_none W _ _ _ 5 _ p 0 c 0 cu Tryz.underlying39 infoB1 rfl, by rw [this]; exact hz, Kept.refl _ _⟩
  · obtain ⟨gs, os, rfl, hc⟩ := hs (by omega)
    have hr := run_copy_row (P := Tryz.prog) W 39 39 3 5 g 0 n c ⟨gs, os, none⟩ n cu (z.map bv).toArray 5 (l.map bv) Tryz.underlying39 infoB1 hz (by simp [hln]) (fun j v hj => by
      have hjn : j < l.length := by
        have := (List.getElem?_eq_some_iff.1 hj).1
        simpa using this
      have e : (⟨gs, os, none⟩ : Addr).add j = ⟨gs, os + j, none⟩ := by unfold Addr.add; split <;> simp_all
      rw [e, hc j (by omega)]
      rw [map_getD_bv hjn] at hj
      exact hj) (by simp [hzn, hln]) (fun v hv => by obtain ⟨x, _, rfl⟩ := List.mem_map.1 hv; rfl)
    have hd : (z.map bv).drop n = [] := List.drop_eq_nil_of_le (by simp [hzn])
    refine ⟨W.setRow g (l.map bv).toArray, by simpa [goInt, hln, hd] using hr, ?_, ⟨rfl, rfl, rfl, by simp, fun i _ hi => setRow_other _ _ _ _ hi⟩⟩
    exact setRow_heap W g _ _ _ _ hz

theorem copied_any (w : World) (v : Value) (ls : List (List B)) (k wd : Nat) (hl : RowsAt w v ls) (hk : ls.length = k) (hk1 : k ≤ 1000) (hwd : ∀ i, i < ls.length → (ls.getD i []).length = wd) (hw : wd ≤ 1000000) :
    Calls Tryz.prog 98 #[v] w fun e w' => ∃ gm U, e = .returned (.slice (some ⟨gm, 0, none⟩) k k) ∧ MatW w' gm k wd U (lsM ls) ∧ w.heap.size ≤ gm ∧ (∀ r, r < k → (U r).2 = wd ∧ w.heap.size ≤ (U r).1) ∧ Below w.heap.size w w' ∧ ∃ C : Array Value, w'.heap[gm]? = some (.cells C 39 (0, 0)) ∧ C.size = k := by
  obtain ⟨p, c, rfl, hh⟩ := hl
  rw [hk] at hh hwd ⊢
  have HH := Lib.hid hh
  have HW := Lib.hid hwd
  clear hh hwd
  have hmk := run_make_one (w := w) 154 39 (.slice none 0 0) 24 Tryz.underlying154 infoR rfl (by omega) k (by omega)
  go_enter Tryz.func98, Tryz.ntmps98
  go_wp2
  clear hmk
  have hB0 : Below w.heap.size w (w.alloc (.cells (Array.replicate k (.slice none 0 0)) 39)) := (Below.refl _ _).alloc (Nat.le_refl _) _
  have H0 := Lib.hid (heap_alloc_new w (.cells (Array.replicate k (.slice none 0 0)) 39))
  have s0 : w.heap.size < (w.alloc (.cells (Array.replicate k (.slice none 0 0)) 39)).heap.size := by simp
  generalize (w.alloc (.cells (Array.replicate k (.slice none 0 0)) 39)) = w1 at *
  have HM0 := Lib.hid (show MatP w1 w.heap.size 0 wd (fun _ => (0, 0)) (lsM ls) from ⟨⟨_, H0.out, Nat.zero_le _, fun r h => absurd h (by omega)⟩, fun r h => absurd h (by omega), fun r s h => absurd h (by omega), fun r h => absurd h (by omega)⟩)
  go_loopw [4, 5, 11] (fun _ _ i wr => ∃ (j : Nat) (U : Nat → Nat × Nat), j ≤ k ∧ i = .int .i64 (j : Int) ∧ MatP wr w.heap.size j wd U (lsM ls) ∧ (∀ r, r < j → (U r).2 = wd ∧ w.heap.size < (U r).1 ∧ (U r).1 < wr.heap.size) ∧ (∃ C : Array Value, wr.heap[w.heap.size]? = some (.cells C 39 (0, 0)) ∧ C.size = k) ∧ Below w.heap.size w wr) (fun _ _ i _ => k - (intOf i).toNat)
  case atStart => exact ⟨0, fun _ => (0, 0), Nat.zero_le _, rfl, HM0.out, fun r h => absurd h (by omega), ⟨_, H0.out, by simp⟩, hB0⟩
  case round =>
    obtain ⟨j, U, hj, rfl, hm, hu, ⟨C, hC, hCs⟩, hB⟩ := hrel
    have HM := Lib.hid hm
    have HU := Lib.hid hu
    have HC := Lib.hid hC
    have hml := hm.lt
    clear hm hu
    by_cases hlt : j < k
    · obtain ⟨g, off, rfl, hc⟩ := HH.out (by omega)
      obtain ⟨u, hu, hub⟩ := hc j hlt
      have hgl := blt hu
      have e1 := (hB.cell (p := ⟨g, off + j, none⟩) hgl).trans hu
      obtain ⟨pu, cu, rfl, hbb⟩ := hub
      rw [HW.out j hlt] at e1 hbb
      have HBB := Lib.hid hbb
      have f0 := fz_of hC j
      obtain ⟨cj, hcj⟩ : ∃ x, C[j]? = some x := ⟨C[j], by simp [hCs, hlt]⟩
      have f1 : wr.cell? ⟨w.heap.size, j, none⟩ = some cj := by rw [cell_of hC, hcj]
      have hmk := run_make_one (w := wr) 39 5 (.int .u8 0) 1 Tryz.underlying39 infoB rfl (by omega) wd (by omega)
      have hmk2 : True := trivial
      clear hc hu hbb hC hcj
      have HCS := Lib.hid hCs
      have hjC : j < C.size := by omega
      clear hCs
      have HU := Lib.hid HU.out
      have sr : w.heap.size < wr.heap.size := hml
      have kS := Kept.set1 wr w.heap.size j (.slice (some ⟨wr.heap.size, 0, none⟩) wd wd)
      have kS2 := Kept.alloc (fun i => i = w.heap.size) (wr.setCell ⟨w.heap.size, j, none⟩ (.slice (some ⟨wr.heap.size, 0, none⟩) wd wd)) (.cells (Array.replicate wd (.int .u8 0)) 5)
      have hss : (wr.setCell ⟨w.heap.size, j, none⟩ (.slice (some ⟨wr.heap.size, 0, none⟩) wd wd)).heap.size = wr.heap.size := by simp [World.setCell]
      have hz4 := RowF.made (wr.setCell ⟨w.heap.size, j, none⟩ (.slice (some ⟨wr.heap.size, 0, none⟩) wd wd)) wd
      rw [hss] at hz4
      have k4 := kS.trans kS2 (fun _ _ h => h)
      have HC4 := Lib.hid ((Below.heap_alloc (wr.setCell ⟨w.heap.size, j, none⟩ (.slice (some ⟨wr.heap.size, 0, none⟩) wd wd)) (.cells (Array.replicate wd (.int .u8 0)) 5) w.heap.size (by omega)).trans (heap_set (i := j) HC.out (.slice (some ⟨wr.heap.size, 0, none⟩) wd wd)))
      obtain ⟨w5, hr5, hf5, k5⟩ := run_copy_bytes (c := wd) (p := pu) (cu := cu) hz4 (by simp) (HW.out j hlt) (fun h => by
        obtain ⟨gs, os, e, hcs⟩ := HBB.out h
        refine ⟨gs, os, e, fun i hi => ?_⟩
        have hgs := blt (hcs i hi)
        exact (k4.at1 (os + i) (b := gs) (by have := hB.size; omega) (by omega)).trans ((hB.cell (p := ⟨gs, os + i, none⟩) hgs).trans (hcs i hi)))
      have HF5 := Lib.hid hf5
      have s5 := k5.size
      have s4 : wr.heap.size + 1 = ((wr.setCell ⟨w.heap.size, j, none⟩ (.slice (some ⟨wr.heap.size, 0, none⟩) wd wd)).alloc (.cells (Array.replicate wd (.int .u8 0)) 5)).heap.size := by simp [hss]
      have HC5 := Lib.hid ((k5.block w.heap.size (by omega) (by omega)).trans HC4.out)
      have k45 := (k4.mono (S' := fun i => i = w.heap.size ∨ i = wr.heap.size) (fun _ _ h => .inl h)).trans (k5.mono (S' := fun i => i = w.heap.size ∨ i = wr.heap.size) (fun _ _ h => .inr h)) (fun _ _ h => h)
      have HG := Lib.hid (HM.out.grow (cp := wd) (g := wr.heap.size) hjC HC.out HC5.out k45 (by omega) (fun r hr => by have := (HU.out r hr).2.2; omega) (by
        have := hf5.toC (by rw [HW.out j hlt]; unfold maxLen; omega)
        rw [HW.out j hlt] at this
        rw [lsM_row (HW.out j hlt)]
        exact this))
      have hB5 : Below w.heap.size w w5 := hB.trans (k45.toBelow (by omega) (fun i h => by omega))
      have s6 : wr.heap.size + 1 ≤ w5.heap.size := by omega
      clear hf5 k5 hz4 k4 kS kS2 k45 s5 s4 hss hmk2
      go_wp2
      go_roundw
      case rel =>
        refine ⟨j + 1, _, by omega, by go_num, HG.out, fun r hr => ?_, ⟨_, HC5.out, by simpa using HCS.out⟩, hB5⟩
        by_cases e : r = j
        · simp only [if_pos e]; exact ⟨trivial, sr, by omega⟩
        · simp only [if_neg e]
          have := HU.out r (by omega)
          exact ⟨this.1, this.2.1, by omega⟩
      case measure => simp [intOf]; omega
    · obtain rfl : j = k := by omega
      go_wp2
      go_ret
      exact ⟨_, U, rfl, HM.out.toW HC.out hCs, Nat.le_refl _, fun r hr => ⟨(HU.out r hr).1, Nat.le_of_lt (HU.out r hr).2.1⟩, hB, ⟨C, HC.out, hCs⟩⟩
end -- CodeRd

section -- CodeRe
open Go.RowKit Go.Maps
set_option linter.unusedVariables false
set_option maxRecDepth 100000
set_option maxHeartbeats 2000000

structure MatV (w : World) (gm k : Nat) (W : Nat → Nat) (U : Nat → Nat × Nat) (M : Nat → Nat → B) : Prop where
  outer : ∃ C : Array Value, w.heap[gm]? = some (.cells C 39 (0, 0)) ∧ C.size = k ∧ ∀ r, r < k → C[r]? = some (.slice (some ⟨(U r).1, 0, none⟩) (W r) (U r).2)
  row : ∀ r, r < k → RowC w (U r).1 (U r).2 (rowL (W r) (M r))
  inj : ∀ r s, r < k → s < k → (U r).1 = (U s).1 → r = s
  ne : ∀ r, r < k → (U r).1 ≠ gm

section
variable {w w' : World} {gm k : Nat} {W : Nat → Nat} {U : Nat → Nat × Nat} {M : Nat → Nat → B}
theorem MatV.toW {wd : Nat} (h : MatV w gm k W U M) (hW : ∀ r, r < k → W r = wd) : MatW w gm k wd U M := by
  obtain ⟨C, h1, h2, h3⟩ := h.outer
  exact ⟨⟨C, h1, by omega, fun r hr => by rw [h3 r hr, hW r hr]⟩, fun r hr => by rw [← hW r hr]; exact h.row r hr, h.inj, h.ne⟩
theorem MatW.toV {wd : Nat} (h : MatW w gm k wd U M) {C : Array Value} (hC : w.heap[gm]? = some (.cells C 39 (0, 0))) (hCs : C.size = k) : MatV w gm k (fun _ => wd) U M := by
  obtain ⟨C', h1, h2, h3⟩ := h.outer
  have : C' = C := by rw [h1] at hC; simpa using hC
  subst this
  exact ⟨⟨C', h1, hCs, h3⟩, h.row, h.inj, h.ne⟩
theorem MatV.out (h : MatV w gm k W U M) {r : Nat} (hr : r < k) : w.cell? ⟨gm, r, none⟩ = some (.slice (some ⟨(U r).1, 0, none⟩) (W r) (U r).2) := by
  obtain ⟨C, h1, h2, h3⟩ := h.outer
  rw [cell_of h1, h3 r hr]
theorem MatV.fz (h : MatV w gm k W U M) (o : Nat) : w.frozen? ⟨gm, o, none⟩ = false := by
  obtain ⟨C, h1, h2, h3⟩ := h.outer
  exact fz_of h1 o
theorem MatV.lt (h : MatV w gm k W U M) : gm < w.heap.size := by
  obtain ⟨C, h1, h2, h3⟩ := h.outer
  exact (Array.getElem?_eq_some_iff.1 h1).1
theorem MatV.congr {W' : Nat → Nat} {M' : Nat → Nat → B} (h : MatV w gm k W U M) (hW : ∀ r, r < k → W r = W' r) (he : ∀ r j, r < k → j < W r → M r j = M' r j) : MatV w gm k W' U M' := by
  obtain ⟨C, h1, h2, h3⟩ := h.outer
  exact ⟨⟨C, h1, h2, fun r hr => by rw [h3 r hr, hW r hr]⟩, fun r hr => by rw [← hW r hr, ← rowL_congr (fun j hj => he r j hr hj)]; exact h.row r hr, h.inj, h.ne⟩
theorem MatV.kept {S : Nat → Prop} (h : MatV w gm k W U M) (hk : Kept S w w') (hS : ∀ i, matB gm k U i → ¬ S i) : MatV w' gm k W U M := by
  obtain ⟨C, h1, h2, h3⟩ := h.outer
  exact ⟨⟨C, (hk.block gm h.lt (hS gm (.inl rfl))).trans h1, h2, h3⟩, fun r hr => (h.row r hr).kept hk (hS _ (.inr ⟨r, hr, rfl⟩)), h.inj, h.ne⟩
/-- A row gives way to another: first the new row is there (w1), then its slice is stored. -/
theorem MatV.put {w1 : World} (h : MatV w gm k W U M) {j g cp wd : Nat} {f : Nat → B} (hj : j < k) {S : Nat → Prop} (hk : Kept S w w1) (hS1 : ¬ S gm) (hS2 : ∀ r, r < k → r ≠ j → ¬ S (U r).1)
    (hg : g ≠ gm) (hf : ∀ r, r < k → r ≠ j → (U r).1 ≠ g) (hr : RowC w1 g cp (rowL wd f)) :
    MatV (w1.setCell ⟨gm, j, none⟩ (.slice (some ⟨g, 0, none⟩) wd cp)) gm k (fun r => if r = j then wd else W r) (fun r => if r = j then (g, cp) else U r) (fun r => if r = j then f else M r) := by
  obtain ⟨C, h1, h2, h3⟩ := h.outer
  have h1' := (hk.block gm h.lt hS1).trans h1
  have ks := Kept.set1 w1 gm j (.slice (some ⟨g, 0, none⟩) wd cp)
  refine ⟨⟨_, heap_set h1' _, by simpa using h2, fun r hr' => ?_⟩, fun r hr' => ?_, fun r s hr' hs e => ?_, fun r hr' => ?_⟩
  · by_cases e : r = j
    · subst e; rw [Array.getElem?_setIfInBounds_self_of_lt (by omega)]; simp
    · rw [Array.getElem?_setIfInBounds_ne (fun q => e q.symm), h3 r hr']; simp [e]
  · by_cases e : r = j
    · subst e; simpa using hr.kept ks hg
    · simp only [if_neg e]
      exact ((h.row r hr').kept hk (hS2 r hr' e)).kept ks (h.ne r hr')
  · by_cases e1 : r = j <;> by_cases e2 : s = j
    · omega
    · simp only [if_pos e1, if_neg e2] at e; exact absurd e.symm (hf s hs e2)
    · simp only [if_neg e1, if_pos e2] at e; exact absurd e (hf r hr' e1)
    · simp only [if_neg e1, if_neg e2] at e; exact h.inj r s hr' hs e
  · by_cases e : r = j
    · simpa only [if_pos e] using hg
    · simp only [if_neg e]; exact h.ne r hr'
theorem MatW.rowsAt {wd c : Nat} (h : MatW w gm k wd U M) : RowsAt w (.slice (some ⟨gm, 0, none⟩) k c) ((List.range k).map fun r => rowL wd (M r)) := by
  refine ⟨some ⟨gm, 0, none⟩, c, by simp, fun _ => ⟨gm, 0, rfl, fun i hi => ?_⟩⟩
  simp at hi
  refine ⟨_, by rw [Nat.zero_add]; exact h.out hi, ?_⟩
  rw [getD_range _ _ hi]
  have := (h.row i hi).toW.toBytes (U i).2
  rw [rowL_len] at this
  exact this
end

/-- Clone of bytes. -/
theorem clone_any (w : World) (gs os n cs : Nat) (l : List B) (hn : l.length = n) (h0 : 0 < n) (hn2 : n ≤ 1000000000) (hc : ∀ i, i < n → w.cell? ⟨gs, os + i, none⟩ = some (bv (l.getD i 0))) :
    Calls Tryz.prog 100 #[.slice (some ⟨gs, os, none⟩) n cs] w fun e w' => ∃ g c, e = .returned (.slice (some ⟨g, 0, none⟩) n c) ∧ RowC w' g c l ∧ w.heap.size ≤ g ∧ Below w.heap.size w w' := by
  have HC := Lib.hid hc
  have lg := blt (hc 0 h0)
  clear hc
  have he := Lib.run_eql_slice_nil (P := Tryz.prog) w 39 5 (some ⟨gs, os, none⟩) n cs 0 0 Tryz.underlying39
  simp only [Option.isNone_some] at he
  have kA := Kept.alloc (fun _ => False) w (.cells #[] 5)
  have hE := Lib.hid (World.ownsRow_made w #[] (e := 5) (size := 1) 0 (Nat.le_refl _) (Nat.zero_le _) rfl)
  go_enter Tryz.func100, Tryz.ntmps100
  go_wp2_with (at_builtin; refine app_bytes 39 Tryz.underlying39 rfl _ _ rfl w.heap.size 0 n (.slice (some ⟨w.heap.size, 0, none⟩) 0 0) [] l rfl hn rfl (hE.out) gs os cs rfl (fun i hi => (kA.at0 (os + i) (b := gs) lg).trans (HC.out i hi)) h0 (by omega) (by simp) ?_; intro g' c' w3 hr3 hb3 hk3 hg3)
  go_ret
  refine ⟨g', c', rfl, hr3, hb3, ?_⟩
  have h1 : Below w.heap.size w (w.alloc (.cells #[] 5)) := (Below.refl _ _).alloc (Nat.le_refl _) _
  exact h1.trans (Kept.toBelow hk3 (B := w.heap.size) (by simp) (fun i h => by have := own_is h; omega))
end -- CodeRe

end Go.Proofs.YtojbbmfndlcgkaaGreat
