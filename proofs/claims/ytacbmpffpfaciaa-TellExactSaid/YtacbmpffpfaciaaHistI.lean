/-
  Walks of layer 21's law: New in the histogram's words, awake.
-/
import Derived.Test.YtacbmpffpfaciaaHistH
import Derived.Test.YtacbmpffpfaciaaHistPlain2
namespace Go.Proofs.Ytacbmpffpfaciaa
open Go.RowKit Go.Maps Go.Shelf Go.Sort

set_option maxRecDepth 100000

theorem new_hist (w : World) (n : Nat) (h1 : 1 ≤ n) (h2 : n ≤ 255) :
    Calls Try.prog 9 #[.int .i64 (n : Int)] w fun e w' => e = .returned (.tuple #[.pointer (some ⟨w.heap.size + 1, 0, none⟩), .int .i64 0]) ∧ HistAt w' (w.heap.size + 1) w.heap.size n emptyF ∧ Below w.heap.size w w' := by
  refine (new_yes w n (by omega) (by omega)).mono fun e w' ⟨he, hw⟩ => ?_
  subst hw
  refine ⟨he, ⟨?_, ?_, Good.empty h1 h2⟩, ((Below.refl _ w).alloc (Nat.le_refl _) _).alloc (by simp) _⟩
  · have := World.alloc_heap_new (w.alloc (.map #[] 0)) (.cells #[.map (some w.heap.size), .int .i64 (n : Int)] 69)
    rwa [World.size_alloc] at this
  · rw [tallyD_empty]
    exact ((World.ownsMap_made w Try.prog 3 (plainElem Try.prog 3)).alloc _).mono (by omega)

def awF : Int → Int := upd (upd (upd emptyF 3 1) 1 1) 3 1

theorem awF_counts : countsOf 9 awF = [(1, 1), (3, 2)] := by decide
theorem awF_frames : framesOf 9 awF = 3 := by decide

/-- A row of the call's own while other blocks turn. -/
theorem ownsRow_keptS {w w' : World} {base size k : Nat} {e : TypeId} {v : Value} {xs : List Value} {S : Nat → Prop} (h : w.ownsRow base e size v k xs) (hk : Kept S w w') (hS : ∀ g, v.ownBlock = some g → ¬ S g) : w'.ownsRow base e size v k xs := by
  refine ⟨h.1, ?_⟩
  rcases h.2 with hn | ⟨g, cap, cur, rfl, hb, hg, rest⟩
  · exact .inl hn
  · exact .inr ⟨g, cap, cur, rfl, hb, (hk.block g (Array.getElem?_eq_some_iff.1 hg).1 (hS g rfl)).trans hg, rest⟩

theorem HistAt.row_ne {w : World} {b bm n : Nat} {f : Int → Int} (h : HistAt w b bm n f) {base size k : Nat} {e : TypeId} {v : Value} {xs : List Value} (hr : w.ownsRow base e size v k xs) : ∀ g, v.ownBlock = some g → g ≠ bm := by
  rintro g hg rfl
  obtain ⟨es, ck, hh, _⟩ := h.map
  rcases hr.2 with ⟨rfl, _⟩ | ⟨g', cap, cur, rfl, hb, hgb, _⟩
  · simp [Value.ownBlock] at hg
  · obtain rfl : g' = g := by simpa [Value.ownBlock] using hg
    rw [hh] at hgb; cases hgb

theorem sameCounts_true (w : World) (v1 v2 : Value) (cs : List (Int × Int)) (h1 : CountsAt w v1 cs) (h2 : CountsAt w v2 cs) (hl1 : cs.length ≤ 140737488355328) :
    Calls Try.prog 14 #[v1, v2] w (BoolPost true w) := by
  have := sameCounts_any w v1 v2 cs cs h1 h2 hl1
  rwa [decide_eq_true rfl] at this

theorem awake_any (w : World) :
    Calls Try.prog 8 #[] w fun e w' => e = .returned (.bool true) ∧ Below w.heap.size w w' := by
  go_enter Try.func8, Try.ntmps8
  go_wp2_with fail
  refine (new_hist _ 9 (by omega) (by omega)).mono ?_
  rintro e w1 ⟨rfl, hh1, hb1⟩
  have H1 := Lib.hid hh1
  clear hh1
  go_wp2_with fail
  refine (add_ok _ _ _ _ _ H1.out 3 (by omega) (by omega) (fun k => by simp [emptyF])).mono ?_
  rintro e w2 ⟨rfl, hh2, hk2⟩
  have H2 := Lib.hid hh2
  clear hh2
  go_wp2_with fail
  refine (add_ok _ _ _ _ _ H2.out 1 (by omega) (by omega) (fun k => by simp [emptyF, upd]; split <;> omega)).mono ?_
  rintro e w3 ⟨rfl, hh3, hk3⟩
  have H3 := Lib.hid hh3
  clear hh3
  go_wp2_with fail
  refine (add_ok _ _ _ _ _ H3.out 3 (by omega) (by omega) (fun k => by simp [emptyF, upd]; (repeat' split) <;> omega)).mono ?_
  rintro e w4 ⟨rfl, hh4, hk4⟩
  have H4 : Hid (HistAt w4 (w.heap.size + 1) w.heap.size 9 awF) := Lib.hid hh4
  clear hh4
  go_wp2_with fail
  refine (counts_any _ _ _ _ _ H4.out).mono ?_
  rintro e w5 ⟨v, rfl, hr5, hn5, hb5⟩
  rw [awF_counts] at hr5
  have hC1 : CountsAt (w5.alloc (.cells #[.int .i64 1, .int .i64 1, .int .i64 3, .int .i64 2] 32)) v [(1, 1), (3, 2)] := (countsAt_of_row hr5).kept (Kept.alloc (fun _ => False) _ _) (fun _ _ h => h)
  have hC2 : CountsAt (w5.alloc (.cells #[.int .i64 1, .int .i64 1, .int .i64 3, .int .i64 2] 32)) (.slice (some ⟨w5.heap.size, 0, none⟩) 2 2) [(1, 1), (3, 2)] := by
    refine .inr ⟨w5.heap.size, 0, 2, rfl, by simp, fun j c hj => ?_⟩
    match j, hj with
    | 0, hj => obtain rfl : (1, 1) = c := by simpa using hj
               exact ⟨by simp, by simp⟩
    | 1, hj => obtain rfl : (3, 2) = c := by simpa using hj
               exact ⟨by simp, by simp⟩
  have HS := Lib.hid (sameCounts_true _ _ _ _ hC1 hC2 (by simp))
  have H5 := Lib.hid (H4.out.kept (Kept.below hb5) (fun h => h) (fun h => h))
  clear hr5 hn5 hC1 hC2
  go_wp2_with fail
  refine HS.out.mono ?_
  rintro e w6 ⟨rfl, hk6⟩
  have H6 := Lib.hid ((H5.out.kept (Kept.alloc (fun _ => False) _ _) (fun h => h) (fun h => h)).kept hk6 (fun h => h) (fun h => h))
  go_wp2_with fail
  refine (frames_any _ _ _ _ _ H6.out).mono ?_
  rintro e w7 ⟨rfl, hk7⟩
  rw [awF_frames]
  go_wp2
  go_ret
  refine ⟨rfl, ?_⟩
  have k1 := Kept.below hb1
  have k2 := k1.trans hk2 (fun i h1 h2 => by omega)
  have k3 := k2.trans hk3 (fun i h1 h2 => by omega)
  have k4 := k3.trans hk4 (fun i h1 h2 => by omega)
  have k5 := k4.trans (Kept.below hb5) (fun i h1 h2 => h2)
  have k6 := (k5.trans (Kept.alloc (fun _ => False) w5 _) (fun i h1 h2 => h2)).trans hk6 (fun i h1 h2 => h2)
  have k7 := k6.trans hk7 (fun i h1 h2 => h2)
  exact k7.toBelow (Nat.le_refl _) (fun i h => h.elim)

end Go.Proofs.Ytacbmpffpfaciaa
