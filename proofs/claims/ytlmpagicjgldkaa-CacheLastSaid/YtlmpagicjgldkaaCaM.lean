/-
  A new cache; what was counted.
-/
import Derived.Test.YtlmpagicjgldkaaCaH
import Derived.Carry
namespace Go.Proofs.Ytlmpagicjgldkaa
open Go.RowKit Go.Maps
set_option linter.unusedVariables false
set_option linter.unusedSimpArgs false
set_option maxRecDepth 100000
set_option maxHeartbeats 1000000

theorem balC (w : World) (x : Obj) : Below w.heap.size w (w.alloc x) := (Kept.alloc (fun _ => False) w x).toBelow (Nat.le_refl _) (fun _ h => h.elim)
theorem new_bad (w : World) (n room : Int) (h : n < 1 ∨ 255 < n ∨ room < 1 ∨ 64 < room) :
    Calls Try.prog 6 #[.int .i64 n, .int .i64 room] w fun e w' => e = .returned (.tuple #[.pointer none, .int .i64 2]) ∧ w = w' := by
  by_cases h1 : n < 1
  · go_enter Try.func6, Try.ntmps6
    go_wp2
    go_ret2
    exact ⟨rfl, rfl⟩
  · by_cases h2 : n > 255
    · go_enter Try.func6, Try.ntmps6
      go_wp2
      go_ret2
      exact ⟨rfl, rfl⟩
    · by_cases h3 : room < 1
      · go_enter Try.func6, Try.ntmps6
        go_wp2
        go_ret2
        exact ⟨rfl, rfl⟩
      · have h4 : room > 64 := by omega
        go_enter Try.func6, Try.ntmps6
        go_wp2
        go_ret2
        exact ⟨rfl, rfl⟩

theorem new_any (w : World) (n room : Nat) (h1 : 1 ≤ n) (h2 : n ≤ 255) (h3 : 1 ≤ room) (h4 : room ≤ 64) :
    Calls Try.prog 6 #[.int .i64 (n : Int), .int .i64 (room : Int)] w fun e w' => ∃ b bm, e = .returned (.tuple #[.pointer (some ⟨b, 0, none⟩), .int .i64 0]) ∧ w.heap.size ≤ b ∧ w.heap.size ≤ bm ∧ (∀ F : Nat → Prop, F b → F bm → CacheAt w' F b bm ⟨n, room, 0, 0, 0, 0, []⟩) ∧ Below w.heap.size w w' := by
  have hmm := @run_makeMap Try.prog
  go_enter Try.func6, Try.ntmps6
  go_wp2
  go_ret2
  have hg : ∀ i, ((w.alloc (.map #[] 0)).alloc (.cells #[.map (some w.heap.size), .int .i64 (room : Int), .int .i64 0, .int .i64 (n : Int), .int .i64 0, .int .i64 0, .int .i64 0, .int .i64 0] 55)).cell? ⟨w.heap.size + 1, i, none⟩ = (#[.map (some w.heap.size), .int .i64 (room : Int), .int .i64 0, .int .i64 (n : Int), .int .i64 0, .int .i64 0, .int .i64 0, .int .i64 0] : Array Value)[i]? := fun i => by
    have := World.cell?_alloc_new (w.alloc (.map #[] 0)) #[.map (some w.heap.size), .int .i64 (room : Int), .int .i64 0, .int .i64 (n : Int), .int .i64 0, .int .i64 0, .int .i64 0, .int .i64 0] 55 i
    rwa [show (w.alloc (.map #[] 0)).heap.size = w.heap.size + 1 by simp] at this
  have hh := Go.heap_alloc_new (w.alloc (.map #[] 0)) (.cells #[.map (some w.heap.size), .int .i64 (room : Int), .int .i64 0, .int .i64 (n : Int), .int .i64 0, .int .i64 0, .int .i64 0, .int .i64 0] 55)
  rw [show (w.alloc (.map #[] 0)).heap.size = w.heap.size + 1 by simp] at hh
  refine ⟨w.heap.size + 1, w.heap.size, rfl, by omega, Nat.le_refl _, fun F hb hm => ⟨hg 0, hg 1, hg 2, hg 3, hg 4, hg 5, hg 6, hg 7, fun o => fz_of hh o, (MapIs.made w).kept (Kept.alloc (fun _ => False) _ _) (fun h => h), fun e he => by simp at he, fun e he => by simp at he, hb, hm, List.Pairwise.nil, h1, h2, h3, h4, Nat.zero_le _⟩, ?_⟩
  exact ((Kept.alloc (fun _ => False) w (.map #[] 0)).trans (Kept.alloc (fun _ => False) _ _) (fun _ _ h => h)).toBelow (Nat.le_refl _) (fun _ h => h.elim)

theorem stat_any (w : World) {F : Nat → Prop} {b bm : Nat} {s : CS} (hc : CacheAt w F b bm s) :
    Calls Try.prog 11 #[.pointer (some ⟨b, 0, none⟩)] w fun e w' => e = .returned (.agg #[.int .i64 (s.es.length : Int), .int .i64 (s.hits : Int), .int .i64 (s.misses : Int), .int .i64 (s.dropped : Int)]) ∧ Below w.heap.size w w' := by
  have HC := Lib.hid hc
  have c0 := hc.c0
  have c4 := hc.c4
  have c5 := hc.c5
  have c6 := hc.c6
  have c7 := hc.c7
  have hl := hc.lt
  obtain ⟨len, hln⟩ : ∃ n, s.es.length = n := ⟨_, rfl⟩
  have HLE := Lib.hid (show ∀ W, Kept (fun _ => False) w W → (Builtin.len_ #[51] 3 #[.map (some bm)]).run Try.prog W = .ok (.int .i64 (len : Int)) W from fun W hW => by
    have := (hc.map.kept hW (fun h => h)).len 3
    rw [List.length_map, hln] at this
    exact this)
  rw [hln]
  clear hc hln
  go_enter Try.func11, Try.ntmps11
  go_wp2_with fail
  refine (there_c _ (HC.out.below (balC _ _))).mono ?_
  rintro e w' ⟨rfl, rfl⟩
  have hlen := HLE.out ((w.alloc (.cells #[.int .i64 0, .int .i64 0, .int .i64 0, .int .i64 0] 38)).alloc (.cells #[.int .i64 0, .int .i64 (s.hits : Int), .int .i64 (s.misses : Int), .int .i64 (s.dropped : Int)] 38)) ((Kept.alloc (fun _ => False) w _).trans (Kept.alloc (fun _ => False) _ _) (fun _ _ h => h))
  go_wp2_with fail
  refine bodyPost_ret (v := .agg #[.int .i64 (len : Int), .int .i64 (s.hits : Int), .int .i64 (s.misses : Int), .int .i64 (s.dropped : Int)]) (by simp [results, Try.results11, go_sem]) rfl ⟨rfl, ?_⟩
  exact ((Kept.alloc (fun _ => False) w _).trans (Kept.alloc (fun _ => False) _ _) (fun _ _ h => h)).toBelow (Nat.le_refl _) (fun _ h => h.elim)
end Go.Proofs.Ytlmpagicjgldkaa
