/-
  TbT: Layer 18: the law's own functions: of, has, SameInts.
  TbU: Layer 18: SameInts where both are alike.
  TbV: Layer 18: Frames, whose row is the answer's own; the plain laws of crowding.
-/
import Derived.Test.YtibelpamolcmcaaMxbe
namespace Go.Proofs.Ytibelpamolcmcaa

section -- TbT
open Go.RowKit Go.Maps Go.Shelf Go.Sort

set_option linter.unusedVariables false
set_option linter.unusedSimpArgs false
set_option maxRecDepth 100000
set_option maxHeartbeats 4000000

theorem lawof_any (w : World) (f d i a b : Int) :
    Calls Try.prog 23 #[.int .i64 f, .int .i64 d, .int .i64 i, .int .i64 a, .int .i64 b] w fun e w' => ∃ v, e = .returned (headVal ⟨1, f, i, 4, d, [(a, b)]⟩ v) ∧ TableAt w' v [(a, b)] ∧ (∀ k, v.ownBlock = some k → w.heap.size ≤ k) ∧ Below w.heap.size w w' := by
  go_enter Try.func23, Try.ntmps23
  have HB1 := Lib.hid (balT w (.cells #[.int .i64 1, .int .i64 f, .int .i64 i, .int .i64 4, .int .i64 d, .slice (some ⟨w.heap.size + 1, 0, none⟩) 1 1] 31))
  have HB2 := Lib.hid (balT (w.alloc (.cells #[.int .i64 1, .int .i64 f, .int .i64 i, .int .i64 4, .int .i64 d, .slice (some ⟨w.heap.size + 1, 0, none⟩) 1 1] 31)) (.cells #[.int .i64 a, .int .i64 b] 80))
  have hx := (HeadBox.new w ⟨1, f, i, 4, d, [(a, b)]⟩ (.slice (some ⟨w.heap.size + 1, 0, none⟩) 1 1)).below HB2.out
  have HX := Lib.hid hx
  clear hx
  go_wp2
  refine bodyPost_ret (results_cell_row rfl _ _ w.heap.size _ _ (0, 0) _ rfl HX.out Try.underlying31 rfl (by kernel_rfl)) rfl ⟨_, rfl, ?_, ?_, below_more HB1.out HB2.out HB1.out.size⟩
  · refine ⟨_, 1, rfl, Nat.le_refl _, fun _ => ⟨w.heap.size + 1, 0, rfl, fun j hj => ?_⟩⟩
    have e := World.cell?_alloc_new (w.alloc (.cells #[.int .i64 1, .int .i64 f, .int .i64 i, .int .i64 4, .int .i64 d, .slice (some ⟨w.heap.size + 1, 0, none⟩) 1 1] 31)) #[.int .i64 a, .int .i64 b] 80
    rw [World.size_alloc] at e
    obtain rfl : j = 0 := by simp at hj; omega
    exact ⟨e 0, e 1⟩
  · intro k e
    have : w.heap.size + 1 = k := by simpa [Value.ownBlock] using e
    omega

theorem lawhas_any (w : World) (v : Value) (xs : List Int) (x : Int) (hx : IntsAt w v xs) (hl : xs.length ≤ 1000000) :
    Calls Try.prog 14 #[v, .int .i64 x] w fun e w' => e = .returned (.bool (decide (x ∈ xs))) ∧ w' = w := by
  obtain ⟨p, c, rfl, hc, hh⟩ := hx
  have HH := Lib.hid hh
  obtain ⟨M, hM⟩ : ∃ M, xs.length = M := ⟨_, rfl⟩
  have HM := Lib.hid hM
  rw [hM] at hc hl ⊢
  clear hh hM
  go_enter Try.func14, Try.ntmps14
  go_wp2
  go_loopw [5] (fun i wr => ∃ k : Nat, k ≤ M ∧ i = .int .i64 (k : Int) ∧ (∀ j, j < k → xs.getD j 0 ≠ x) ∧ wr = w) (fun i _ => M - (intOf i).toNat)
  case atStart => exact ⟨0, Nat.zero_le _, rfl, fun j h => absurd h (by omega), rfl⟩
  case round =>
    obtain ⟨k, hk, rfl, hno, rfl⟩ := hrel
    have HN := Lib.hid hno
    clear hno
    by_cases hlt : k < M
    · obtain ⟨g, off, rfl, hcc⟩ := HH.out (by rw [HM.out]; omega)
      have hck := hcc k (by rw [HM.out]; exact hlt)
      obtain ⟨y, hy⟩ : ∃ y, xs.getD k 0 = y := ⟨_, rfl⟩
      have HY := Lib.hid hy
      rw [hy] at hck
      clear hy hcc
      by_cases hyx : y = x
      · have HE := Lib.hid (show decide (x ∈ xs) = true from decide_eq_true (by
          rw [← hyx, ← HY.out, List.getD_eq_getElem?_getD, List.getElem?_eq_getElem (by rw [HM.out]; exact hlt)]
          exact List.getElem_mem _))
        subst hyx
        go_wp2
        go_ret
        exact ⟨by rw [HE.out]; rfl, rfl⟩
      · have HE := Lib.hid (show xs.getD k 0 ≠ x by rw [HY.out]; exact hyx)
        go_wp2
        go_roundw
        case rel =>
          refine ⟨k + 1, by omega, by go_num, fun j hj => ?_, trivial⟩
          by_cases hjk : j < k
          · exact HN.out j hjk
          · obtain rfl : j = k := by omega
            exact HE.out
        case measure => simp [intOf]; omega
    · obtain rfl : k = M := by omega
      have HE := Lib.hid (show decide (x ∈ xs) = false from decide_eq_false (fun h => by
        obtain ⟨j, hj, e⟩ := List.getElem_of_mem h
        refine HN.out j (by have := HM.out; omega) ?_
        rw [List.getD_eq_getElem?_getD, List.getElem?_eq_getElem hj]
        exact e))
      go_wp2
      go_ret
      exact ⟨by rw [HE.out]; rfl, rfl⟩
end -- TbT

section -- TbU
open Go.RowKit Go.Maps Go.Shelf Go.Sort

set_option linter.unusedVariables false
set_option linter.unusedSimpArgs false
set_option maxRecDepth 100000
set_option maxHeartbeats 4000000

theorem sameInts_any (w : World) (va vb : Value) (l : List Int) (ha : IntsAt w va l) (hb : IntsAt w vb l) (hl : l.length ≤ 1000000000000) :
    Calls Try.prog 13 #[va, vb] w fun e w' => e = .returned (.bool true) ∧ ∃ n, w' = w.drewN n := by
  obtain ⟨pa, ca, rfl, -, hha⟩ := ha
  obtain ⟨pb, cb, rfl, -, hhb⟩ := hb
  have HA := Lib.hid hha
  have HB := Lib.hid hhb
  clear hha hhb
  go_enter Try.func13, Try.ntmps13
  go_wp2
  go_loopw [5] (fun i wr => ∃ (k n : Nat), k ≤ l.length ∧ i = .int .i64 (k : Int) ∧ wr = w.drewN n) (fun i _ => l.length - (intOf i).toNat)
  case atStart => exact ⟨0, 0, Nat.zero_le _, rfl, rfl⟩
  case round =>
    obtain ⟨k, n, hk, rfl, rfl⟩ := hrel
    by_cases hlt : k < l.length
    · obtain ⟨ga, oa, rfl, hca⟩ := HA.out (by omega)
      obtain ⟨gb, ob, rfl, hcb⟩ := HB.out (by omega)
      have x := hca k hlt
      have y := hcb k hlt
      obtain ⟨z, hz⟩ : ∃ z, l.getD k 0 = z := ⟨_, rfl⟩
      rw [hz] at x y
      clear hca hcb hz
      go_wp2_with fail
      go_quiet (fail)
      go_wp2
      go_roundw
      case rel => exact ⟨k + 1, _, by omega, by go_num, rfl⟩
      case measure => simp [intOf]; omega
    · go_wp2
      go_ret
      exact ⟨rfl, n, rfl⟩
end -- TbU

section -- TbV
open Go.RowKit Go.Maps Go.Shelf Go.Sort

set_option linter.unusedVariables false
set_option linter.unusedSimpArgs false
set_option maxRecDepth 100000
set_option maxHeartbeats 4000000

section
variable {w w' : World} {base tb : Nat} {gn cn : Int} {v : Value} {gs : List GD}
/-- All frames, in order: the row is the answer's own. -/
theorem tframes_own (h : TabS w base tb gn cn v gs) :
    Calls Try.prog 10 #[.pointer (some ⟨tb, 0, none⟩)] w fun e w' => ∃ vf, e = .returned vf ∧ IntsAt w' vf (framesG gs) ∧ w'.ownsRow w.heap.size 3 1 vf (framesG gs).length ((framesG gs).map (Value.int .i64)) ∧ Below w.heap.size w w' := by
  have HT := Lib.hid h
  have HM := Lib.hid (made_any h.row)
  have c0 := h.row.c0
  obtain ⟨p, c, hv, hlc⟩ := h.row.ents.shape
  have hlen := h.row.len
  rw [List.length_map] at hlen hv hlc
  subst hv
  obtain ⟨M, hM⟩ : ∃ M, gs.length = M := ⟨_, rfl⟩
  have HL := Lib.hid hM
  rw [hM] at c0 HT hlen hlc
  clear h hM
  go_enter Try.func10, Try.ntmps10
  go_wp2_with fail
  refine HM.out.mono ?_
  rintro e w1 ⟨rfl, rfl⟩
  go_wp2_with fail
  go_loopw [2, 4, 14] (fun n _ i wr => ∃ k : Nat, k ≤ M ∧ i = .int .i64 (k : Int) ∧ wr.ownsRow w.heap.size 3 1 n k ((framesG (gs.take k)).map (Value.int .i64)) ∧ Below w.heap.size w wr) (fun _ _ i _ => M - (intOf i).toNat)
  case atStart => exact ⟨0, Nat.zero_le _, rfl, World.ownsRow_nil _ _ _ _, Below.refl _ _⟩
  case round =>
    obtain ⟨wo, rfl⟩ : ∃ wo, wo = wr := ⟨_, rfl⟩
    obtain ⟨k, hk, rfl, how, hB⟩ := hrel
    have HB := Lib.hid hB
    have HOW := Lib.hid how
    by_cases hlt : k < M
    · have hT := HT.out.below hB
      obtain ⟨g, c', ev, d0, d1, d2⟩ := hT.row.ents.cell (j := k) (by rw [List.length_map, HL.out]; exact hlt)
      rw [getD_ent (by rw [HL.out]; exact hlt)] at d0 d1 d2
      obtain ⟨rfl, -, -⟩ := Value.slice.inj ev
      have HTS := Lib.hid (take_snoc (gs := gs) (k := k) (by rw [HL.out]; exact hlt))
      obtain ⟨G, hG⟩ : ∃ G, gs.getD k default = G := ⟨_, rfl⟩
      rw [hG] at d0 d1 d2 HTS
      have HFS := Lib.hid (show (framesG (gs.take (k + 1))).map (Value.int .i64) = (framesG (gs.take k)).map (Value.int .i64) ++ [.int .i64 G.H.frame] from by rw [HTS.out]; simp [framesG])
      have HA := Lib.hid (balT wo (.cells #[.pointer (some ⟨G.blk, 0, none⟩), .int .i64 G.H.frame, .int .i64 G.H.deadline] 65))
      have HBA := Lib.hid (below_more HB.out HA.out HB.out.size)
      simp only [entG] at d0 d1 d2
      rw [Nat.zero_add] at d0 d1 d2
      obtain ⟨gb, hgbk⟩ : ∃ x, G.blk = x := ⟨_, rfl⟩
      obtain ⟨gf, hgf⟩ : ∃ x, G.H.frame = x := ⟨_, rfl⟩
      obtain ⟨gd, hgd⟩ : ∃ x, G.H.deadline = x := ⟨_, rfl⟩
      rw [hgbk] at d0 HA HBA
      rw [hgf] at d1 HA HBA HFS
      rw [hgd] at d2 HA HBA
      have HO1 := Lib.hid (show ((wo.alloc (.cells #[.pointer (some ⟨gb, 0, none⟩), .int .i64 gf, .int .i64 gd] 65)).alloc (.cells #[.int .i64 gf] 3)).ownsRow w.heap.size 3 1 _ k _ from (how.alloc _).alloc _)
      have HA2 := Lib.hid (below_more HBA.out (balT (wo.alloc (.cells #[.pointer (some ⟨gb, 0, none⟩), .int .i64 gf, .int .i64 gd] 65)) (.cells #[.int .i64 gf] 3)) HBA.out.size)
      have hbw := HA2.out.size
      have hwl := HOW.out.lt
      have HWL := Lib.hid hwl
      clear hwl hG hT hB hgbk hgf hgd ev how
      go_wp2_with (at_builtin; refine app_el 38 3 1 8 (.int .i64 0) Try.underlying38 infoI18 rfl (by decide) rfl _ _ rfl w.heap.size k _ _ rfl (HOW.out.alloc _) [.int .i64 gf] rfl (by simp [Value.oneCell']) (by rw [World.size_alloc]; rfl) (by omega) (by have := HBA.out.size; exact this) ?_; intro g1 c1 w8 oA kA sA gA)
      have hb8 : Below w.heap.size w w8 := HBA.out.trans (kA.toBelow HBA.out.size (fun j e => (HWL.out j e).1))
      go_roundw
      case rel => exact ⟨k + 1, by omega, by go_num, by rw [HFS.out]; exact oA, hb8⟩
      case measure => simp [intOf]; omega
    · obtain rfl : k = M := by omega
      have HTN := Lib.hid (show gs.take k = gs from List.take_of_length_le (by rw [HL.out]; exact Nat.le_refl _))
      have HFL := Lib.hid (show (framesG gs).length = k from by simp [framesG, HL.out])
      clear hB how
      go_wp2
      go_ret
      have hf := HOW.out
      rw [HTN.out] at hf
      refine ⟨_, rfl, ints_own (base := w.heap.size) ?_, ?_, HB.out⟩
      · rw [HFL.out]
        exact hf
      · rw [HFL.out]
        exact hf
end
end -- TbV

end Go.Proofs.Ytibelpamolcmcaa
