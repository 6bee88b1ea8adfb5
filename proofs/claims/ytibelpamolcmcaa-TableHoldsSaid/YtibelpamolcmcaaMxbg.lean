/-
  TbU: Layer 18: SameInts where both are alike.
  TbV: Layer 18: Frames, whose row is the answer's own; the plain laws of crowding.
  TbW: Layer 18: the law's crowded, where it is so.
-/
import Derived.Test.YtibelpamolcmcaaMxbf
namespace Go.Proofs.Ytibelpamolcmcaa

section -- TbU
open Go.RowKit Go.Maps Go.Shelf Go.Sort

set_option linter.unusedVariables false
set_option linter.unusedSimpArgs false
set_option maxRecDepth 100000
set_option maxHeartbeats 4000000

theorem sameInts_any (w : World) (va vb : Value) (l : List Int) (ha : IntsAt w va l) (hb : IntsAt w vb l) (hl : l.length ≤ 1000000000000) :
    Calls Try.prog 13 #[va, vb] w fun e w' => e = .returned (.bool true) ∧ ∃ n, w' = w.drewN n := by
  obtain ⟨pa, ca, rfl, -, hha⟩ := ha
  obtain ⟨pb, cb, rfl, -, hhb⟩ := hb
  have HA := Lib.hid hha
  have HB := Lib.hid hhb
  clear hha hhb
  go_enter Try.func13, Try.ntmps13
  go_wp2
  go_loopw [5] (fun i wr => ∃ (k n : Nat), k ≤ l.length ∧ i = .int .i64 (k : Int) ∧ wr = w.drewN n) (fun i _ => l.length - (intOf i).toNat)
  case atStart => exact ⟨0, 0, Nat.zero_le _, rfl, rfl⟩
  case round =>
    obtain ⟨k, n, hk, rfl, rfl⟩ := hrel
    by_cases hlt : k < l.length
    · obtain ⟨ga, oa, rfl, hca⟩ := HA.out (by omega)
      obtain ⟨gb, ob, rfl, hcb⟩ := HB.out (by omega)
      have x := hca k hlt
      have y := hcb k hlt
      obtain ⟨z, hz⟩ : ∃ z, l.getD k 0 = z := ⟨_, rfl⟩
      rw [hz] at x y
      clear hca hcb hz
      go_wp2_with fail
      go_quiet (fail)
      go_wp2
      go_roundw
      case rel => exact ⟨k + 1, _, by omega, by go_num, rfl⟩
      case measure => simp [intOf]; omega
    · go_wp2
      go_ret
      exact ⟨rfl, n, rfl⟩
end -- TbU

section -- TbV
open Go.RowKit Go.Maps Go.Shelf Go.Sort

set_option linter.unusedVariables false
set_option linter.unusedSimpArgs false
set_option maxRecDepth 100000
set_option maxHeartbeats 4000000

section
variable {w w' : World} {base tb : Nat} {gn cn : Int} {v : Value} {gs : List GD}
/-- All frames, in order: the row is the answer's own. -/
theorem tframes_own (h : TabS w base tb gn cn v gs) :
    Calls Try.prog 10 #[.pointer (some ⟨tb, 0, none⟩)] w fun e w' => ∃ vf, e = .returned vf ∧ IntsAt w' vf (framesG gs) ∧ w'.ownsRow w.heap.size 3 1 vf (framesG gs).length ((framesG gs).map (Value.int .i64)) ∧ Below w.heap.size w w' := by
  have HT := Lib.hid h
  have HM := Lib.hid (made_any h.row)
  have c0 := h.row.c0
  obtain ⟨p, c, hv, hlc⟩ := h.row.ents.shape
  have hlen := h.row.len
  rw [List.length_map] at hlen hv hlc
  subst hv
  obtain ⟨M, hM⟩ : ∃ M, gs.length = M := ⟨_, rfl⟩
  have HL := Lib.hid hM
  rw [hM] at c0 HT hlen hlc
  clear h hM
  go_enter Try.func10, Try.ntmps10
  go_wp2_with fail
  refine HM.out.mono ?_
  rintro e w1 ⟨rfl, rfl⟩
  go_wp2_with fail
  go_loopw [2, 4, 14] (fun n _ i wr => ∃ k : Nat, k ≤ M ∧ i = .int .i64 (k : Int) ∧ wr.ownsRow w.heap.size 3 1 n k ((framesG (gs.take k)).map (Value.int .i64)) ∧ Below w.heap.size w wr) (fun _ _ i _ => M - (intOf i).toNat)
  case atStart => exact ⟨0, Nat.zero_le _, rfl, World.ownsRow_nil _ _ _ _, Below.refl _ _⟩
  case round =>
    obtain ⟨wo, rfl⟩ : ∃ wo, wo = wr := ⟨_, rfl⟩
    obtain ⟨k, hk, rfl, how, hB⟩ := hrel
    have HB := Lib.hid hB
    have HOW := Lib.hid how
    by_cases hlt : k < M
    · have hT := HT.out.below hB
      obtain ⟨g, c', ev, d0, d1, d2⟩ := hT.row.ents.cell (j := k) (by rw [List.length_map, HL.out]; exact hlt)
      rw [getD_ent (by rw [HL.out]; exact hlt)] at d0 d1 d2
      obtain ⟨rfl, -, -⟩ := Value.slice.inj ev
      have HTS := Lib.hid (take_snoc (gs := gs) (k := k) (by rw [HL.out]; exact hlt))
      obtain ⟨G, hG⟩ : ∃ G, gs.getD k default = G := ⟨_, rfl⟩
      rw [hG] at d0 d1 d2 HTS
      have HFS := Lib.hid (show (framesG (gs.take (k + 1))).map (Value.int .i64) = (framesG (gs.take k)).map (Value.int .i64) ++ [.int .i64 G.H.frame] from by rw [HTS.out]; simp [framesG])
      have HA := Lib.hid (balT wo (.cells #[.pointer (some ⟨G.blk, 0, none⟩), .int .i64 G.H.frame, .int .i64 G.H.deadline] 65))
      have HBA := Lib.hid (below_more HB.out HA.out HB.out.size)
      simp only [entG] at d0 d1 d2
      rw [Nat.zero_add] at d0 d1 d2
      obtain ⟨gb, hgbk⟩ : ∃ x, G.blk = x := ⟨_, rfl⟩
      obtain ⟨gf, hgf⟩ : ∃ x, G.H.frame = x := ⟨_, rfl⟩
      obtain ⟨gd, hgd⟩ : ∃ x, G.H.deadline = x := ⟨_, rfl⟩
      rw [hgbk] at d0 HA HBA
      rw [hgf] at d1 HA HBA HFS
      rw [hgd] at d2 HA HBA
      have HO1 := Lib.hid (show ((wo.alloc (.cells #[.pointer (some ⟨gb, 0, none⟩), .int .i64 gf, .int .i64 gd] 65)).alloc (.cells #[.int .i64 gf] 3)).ownsRow w.heap.size 3 1 _ k _ from (how.alloc _).alloc _)
      have HA2 := Lib.hid (below_more HBA.out (balT (wo.alloc (.cells #[.pointer (some ⟨gb, 0, none⟩), .int .i64 gf, .int .i64 gd] 65)) (.cells #[.int .i64 gf] 3)) HBA.out.size)
      have hbw := HA2.out.size
      have hwl := HOW.out.lt
      have HWL := Lib.hid hwl
      clear hwl hG hT hB hgbk hgf hgd ev how
      go_wp2_with (at_builtin; refine app_el 38 3 1 8 (.int .i64 0) Try.underlying38 infoI18 rfl (by decide) rfl _ _ rfl w.heap.size k _ _ rfl (HOW.out.alloc _) [.int .i64 gf] rfl (by simp [Value.oneCell']) (by rw [World.size_alloc]; rfl) (by omega) (by have := HBA.out.size; exact this) ?_; intro g1 c1 w8 oA kA sA gA)
      have hb8 : Below w.heap.size w w8 := HBA.out.trans (kA.toBelow HBA.out.size (fun j e => (HWL.out j e).1))
      go_roundw
      case rel => exact ⟨k + 1, by omega, by go_num, by rw [HFS.out]; exact oA, hb8⟩
      case measure => simp [intOf]; omega
    · obtain rfl : k = M := by omega
      have HTN := Lib.hid (show gs.take k = gs from List.take_of_length_le (by rw [HL.out]; exact Nat.le_refl _))
      have HFL := Lib.hid (show (framesG gs).length = k from by simp [framesG, HL.out])
      clear hB how
      go_wp2
      go_ret
      have hf := HOW.out
      rw [HTN.out] at hf
      refine ⟨_, rfl, ints_own (base := w.heap.size) ?_, ?_, HB.out⟩
      · rw [HFL.out]
        exact hf
      · rw [HFL.out]
        exact hf
end
end -- TbV

section -- TbW
open Go.RowKit Go.Maps Go.Shelf Go.Sort

set_option linter.unusedVariables false
set_option linter.unusedSimpArgs false
set_option maxRecDepth 100000
set_option maxHeartbeats 4000000

/-- All but one number. -/
def butN (f : Int) (l : List Int) : List Int := l.filter fun x => !decide (x = f)
theorem butN_take {f : Int} {l : List Int} {i : Nat} (h : i < l.length) : butN f (l.take (i + 1)) = butN f (l.take i) ++ (if l.getD i 0 = f then [] else [l.getD i 0]) := by
  unfold butN
  rw [List.take_add_one, List.filter_append, List.getD_eq_getElem?_getD, List.getElem?_eq_getElem h]
  by_cases q : l[i] = f <;> simp [q]
theorem butN_at {f : Int} {l : List Int} {i : Nat} (h : i < l.length) (hx : l.getD i 0 ≠ f) : (butN f (l.take i)).length < (butN f l).length ∧ (butN f l).getD (butN f (l.take i)).length 0 = l.getD i 0 := by
  have e : butN f l = butN f (l.take i) ++ ([l.getD i 0] ++ butN f (l.drop (i + 1))) := by
    have h1 := butN_take (f := f) h
    rw [if_neg hx] at h1
    have h2 : butN f l = butN f (l.take (i + 1)) ++ butN f (l.drop (i + 1)) := by
      unfold butN
      rw [← List.filter_append, List.take_append_drop]
    rw [h2, h1, List.append_assoc]
  rw [e]
  constructor
  · simp
  · simp [List.getD_eq_getElem?_getD]
theorem butN_le (f : Int) (l : List Int) : (butN f l).length ≤ l.length := List.length_filter_le _ _

theorem crowded_any (w : World) (va vb : Value) (was now : List Int) (ha : IntsAt w va was) (hb : IntsAt w vb now) (hl : was.length ≤ 1000000) (hl2 : now.length ≤ 1000000) (f : Int) (m : Nat) (hm : m ≤ (butN f was).length) (hc : ∀ j, j < (butN f was).length → ((butN f was).getD j 0 ∈ now ↔ m ≤ j)) :
    Calls Try.prog 15 #[va, vb, .int .i64 f, .int .i64 (m : Int)] w fun e w' => e = .returned (.bool true) ∧ w' = w := by
  have HS := Lib.hid (fun x : Int => lawhas_any w vb now x hb hl2)
  have HC := Lib.hid hc
  have HMM := Lib.hid hm
  obtain ⟨pa, ca, rfl, hca, hha⟩ := ha
  have HA := Lib.hid hha
  obtain ⟨M, hM⟩ : ∃ M, was.length = M := ⟨_, rfl⟩
  have HM := Lib.hid hM
  rw [hM] at hca hl ⊢
  clear hha hM hc hm hb
  go_enter Try.func15, Try.ntmps15
  go_wp2
  go_loopw [9, 10] (fun vk vi wr => ∃ i k : Nat, i ≤ M ∧ k = (butN f (was.take i)).length ∧ vi = .int .i64 (i : Int) ∧ vk = .int .i64 (k : Int) ∧ wr = w) (fun _ vi _ => M - (intOf vi).toNat)
  case atStart => exact ⟨0, 0, Nat.zero_le _, rfl, rfl, rfl, rfl⟩
  case round =>
    obtain ⟨i, k, hi, hk, rfl, rfl, rfl⟩ := hrel
    have HK := Lib.hid hk
    have hkl : k ≤ 1000000 := by
      have h1 := butN_le f (was.take i)
      have h2 := List.length_take_le i was
      rw [← hk] at h1
      omega
    clear hk
    by_cases hlt : i < M
    · obtain ⟨g, off, rfl, hcc⟩ := HA.out (by rw [HM.out]; omega)
      have hck := hcc i (by rw [HM.out]; exact hlt)
      have HBT := Lib.hid (butN_take (f := f) (l := was) (i := i) (by rw [HM.out]; exact hlt))
      have HBA := Lib.hid (butN_at (f := f) (l := was) (i := i) (by rw [HM.out]; exact hlt))
      obtain ⟨y, hy⟩ : ∃ y, was.getD i 0 = y := ⟨_, rfl⟩
      rw [hy] at hck HBT HBA
      clear hy hcc
      by_cases hyx : y = f
      · have HE := Lib.hid (show k = (butN f (was.take (i + 1))).length by rw [HBT.out, if_pos hyx, List.append_nil]; exact HK.out)
        subst hyx
        go_wp2
        go_roundw
        case rel => exact ⟨i + 1, k, by omega, HE.out, by go_num, by first | rfl | trivial⟩
        case measure => simp [intOf]; omega
      · have HE := Lib.hid (show k + 1 = (butN f (was.take (i + 1))).length by rw [HBT.out, if_neg hyx, List.length_append, ← HK.out]; rfl)
        have hiff := HC.out (butN f (was.take i)).length (HBA.out hyx).1
        rw [(HBA.out hyx).2, ← HK.out] at hiff
        by_cases hmk : (m : Int) ≤ (k : Int)
        · have HR := Lib.hid (HS.out y)
          rw [show decide (y ∈ now) = true from decide_eq_true (hiff.2 (by omega))] at HR
          clear hiff
          go_wp2_with fail
          refine HR.out.mono ?_
          rintro e w3 ⟨rfl, rfl⟩
          go_wp2
          go_roundw
          case rel => exact ⟨i + 1, k + 1, by omega, HE.out, by go_num, by first | rfl | trivial | (simp; done) | (simp; omega)⟩
          case measure => simp [intOf]; omega
        · have HR := Lib.hid (HS.out y)
          rw [show decide (y ∈ now) = false from decide_eq_false (fun h => hmk (by have := hiff.1 h; omega))] at HR
          clear hiff
          go_wp2_with fail
          refine HR.out.mono ?_
          rintro e w3 ⟨rfl, rfl⟩
          go_wp2
          go_roundw
          case rel => exact ⟨i + 1, k + 1, by omega, HE.out, by go_num, by first | rfl | trivial | (simp; done) | (simp; omega)⟩
          case measure => simp [intOf]; omega
    · obtain rfl : i = M := by omega
      have hmk : (m : Int) ≤ (k : Int) := by
        have h1 := HMM.out
        have h2 := HK.out
        rw [List.take_of_length_le (by rw [HM.out]; exact Nat.le_refl _)] at h2
        omega
      go_wp2
      go_ret
      exact ⟨rfl, rfl⟩
end -- TbW

end Go.Proofs.Ytibelpamolcmcaa
