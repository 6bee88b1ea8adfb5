/-
  Walks of layer 17: Layers.
-/
import Derived.Test.YtojbbmfndlcgkaaGreatMxbp
import Derived.Test.YtojbbmfndlcgkaaGreatMxbt
namespace Go.Proofs.YtojbbmfndlcgkaaGreat
open Go.RowKit Go.Maps Go.Shelf Go.Sort

attribute [local go_sem] Oper.semAt_some
set_option linter.unusedVariables false
set_option linter.unusedSimpArgs false
set_option maxRecDepth 100000
set_option maxHeartbeats 2000000

theorem grising_in (m : Nat) (mb : Option Nat) (w : World) :
    CallsIn Fence.wide m Tryz.prog 27 #[.map mb] w fun e w' => e = .returned (.func (.func 37) #[] #[.pointer (some ⟨w.heap.size, 0, none⟩)]) ∧ w' = w.alloc (.cells #[.map mb] 54) := by
  refine callsIn_of_wp Tryz.func27 rfl trivial ?_ rfl
  simp only [Tryz.ntmps27, List.size_toArray, List.length_cons, List.length_nil, Nat.reduceAdd, Nat.reduceSub, Array.replicate_succ, Array.replicate_zero, List.push_toArray, List.append_toArray, List.nil_append, List.cons_append]
  gi_wp2
  go_ret
  exact ⟨rfl, rfl⟩
theorem cell_lt {w : World} {b : Nat} {v : Value} (h : w.cell? ⟨b, 0, none⟩ = some v) : b < w.heap.size := blt h
theorem grising_stops (m : Nat) (hm1 : 6 ≤ m) (Bm bm ob : Nat) (ks : List Int) (V : Int → Value) (hks : ks.Pairwise (· < ·)) (hlen : ks.length ≤ 100000) (hob1 : Bm ≠ ob) (hob2 : bm ≠ ob) (w : World) (hbox : Boxed w Bm 54 (.map (some bm))) (hown : MapI w bm (esV ks V)) (hout : w.cell? ⟨ob, 0, none⟩ = some (.slice none 0 0)) :
    SeqStopsK Fence.wide m Tryz.prog 37 #[.pointer (some ⟨Bm, 0, none⟩)] (encV V) (KB ob) (fun ss => ss = ks) (fun _ => True) ks.length w := fun l J Jx W hW hJ _ hY h0 =>
  grising1_in m hm1 l Bm bm ob ks V hks hlen hob1 hob2 J Jx hY W hJ ((hW.block Bm hbox.lt).trans hbox) (hown.below hW) ((hW.cell (p := ⟨ob, 0, none⟩) (cell_lt hout)).trans hout) h0

/-- Pairs, as cells. -/
def flatV (V : Int → Value) (ks : List Int) : List Value := ks.flatMap fun k => [.int .i64 k, V k]
theorem flatV_snoc (V : Int → Value) (ks : List Int) (k : Int) : flatV V (ks ++ [k]) = flatV V ks ++ [.int .i64 k, V k] := by simp [flatV]
theorem flatV_get (V : Int → Value) : ∀ (ks : List Int) (j : Nat) (k : Int), ks[j]? = some k → (flatV V ks)[j * 2]? = some (.int .i64 k) ∧ (flatV V ks)[j * 2 + 1]? = some (V k)
  | [], j, c, h => by simp at h
  | d :: r, 0, c, h => by
    obtain rfl : d = c := by simpa using h
    exact ⟨rfl, rfl⟩
  | d :: r, j + 1, c, h => by
    have := flatV_get V r j c (by simpa using h)
    have e : flatV V (d :: r) = .int .i64 d :: V d :: flatV V r := rfl
    rw [e, show (j + 1) * 2 = j * 2 + 1 + 1 from by omega]
    simpa using this
theorem infoHd17 : (Tryz.prog.info? 66).map (fun i => (i.zero, i.size, i.bytes)) = some (some (.agg #[.int .i64 0, .slice none 0 0]), 2, 32) := by kernel_rfl
/-- The pairs read as held bodies. -/
theorem held_flat {W : World} {base : Nat} {v : Value} {hs : List (Int × List B)} {V : Int → Value} (ho : W.ownsRow base 66 2 v hs.length (flatV V (hs.map (·.1)))) (hb : ∀ p ∈ hs, Own W 0 (V p.1) p.2) :
    HeldAt W v hs ∧ ∀ g o c, v = .slice (some ⟨g, o, none⟩) hs.length c → ∀ i, i < hs.length → ∀ p n c', W.cell? ⟨g, o + i * 2 + 1, none⟩ = some (.slice p n c') → n ≤ c' := by
  rcases ho.2 with ⟨rfl, h0⟩ | ⟨g, cap, cur, rfl, hbg, hg, hnc, hcm, hcs, ht⟩
  · rw [List.eq_nil_of_length_eq_zero h0]
    exact ⟨⟨none, 0, rfl, Nat.le_refl _, fun h => absurd h (by simp)⟩, fun g o c e => by cases e⟩
  · have hc := ho.cells (g := g) rfl
    have each : ∀ i, i < hs.length → W.cell? ⟨g, 0 + i * 2, none⟩ = some (.int .i64 (hs.getD i (0, [])).1) ∧ W.cell? ⟨g, 0 + i * 2 + 1, none⟩ = some (V (hs.getD i (0, [])).1) ∧ Own W 0 (V (hs.getD i (0, [])).1) (hs.getD i (0, [])).2 := fun i hi => by
      have hgd : hs.getD i (0, []) = hs[i] := by rw [List.getD_eq_getElem?_getD, List.getElem?_eq_getElem hi]; rfl
      obtain ⟨e1, e2⟩ := flatV_get V (hs.map (·.1)) i hs[i].1 (by rw [List.getElem?_map, List.getElem?_eq_getElem hi]; rfl)
      have c1 := hc _ _ e1
      have c2 := hc _ _ e2
      rw [add_zero_off] at c1 c2
      rw [hgd, Nat.zero_add]
      exact ⟨c1, c2, hb _ (List.getElem_mem hi)⟩
    refine ⟨⟨_, cap, rfl, hnc, fun _ => ⟨g, 0, rfl, fun i hi => ?_⟩⟩, fun g' o c e i hi p n c' hcell => ?_⟩
    · obtain ⟨a, b, c⟩ := each i hi
      exact ⟨a, _, b, c.bytes⟩
    · obtain ⟨e4, _, _⟩ := Value.slice.inj e
      simp at e4
      obtain ⟨rfl, rfl⟩ := e4
      obtain ⟨_, b, c⟩ := each i hi
      rw [b] at hcell
      have e5 := Option.some.inj hcell
      rcases c.2 with ⟨q, _⟩ | ⟨g2, cap2, cur2, q, _, _, h5, _⟩
      · rw [q] at e5
        obtain ⟨_, q1, q2⟩ := Value.slice.inj e5
        omega
      · rw [q] at e5
        obtain ⟨_, q1, q2⟩ := Value.slice.inj e5
        omega
end Go.Proofs.YtojbbmfndlcgkaaGreat
