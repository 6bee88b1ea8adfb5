/-
  Walks of layer 21 (hist): Join's closure, ContainsFunc, Join, Add.
-/
import Derived.Test.YtacbmpffpfaciaaHistB
namespace Go.Proofs.Ytacbmpffpfaciaa
open Go.RowKit Go.Maps

/-- Is a count one that can't be joined? -/
def oddC (n : Int) (c : Int × Int) : Bool := !(decide (1 ≤ c.1) && decide (c.1 ≤ n)) || decide (c.2 < 0) || decide (65535 < c.2)

/-- A slice of counts: what it reads as. -/
def CountsAt (w : World) (v : Value) (cs : List (Int × Int)) : Prop :=
  (v = .slice none 0 0 ∧ cs = []) ∨ ∃ g off cap, v = .slice (some ⟨g, off, none⟩) cs.length cap ∧ g < w.heap.size ∧
    ∀ j c, cs[j]? = some c → w.cell? ⟨g, off + j * 2, none⟩ = some (.int .i64 c.1) ∧ w.cell? ⟨g, off + j * 2 + 1, none⟩ = some (.int .i64 c.2)

theorem CountsAt.kept {w w' : World} {v : Value} {cs : List (Int × Int)} {S : Nat → Prop} (h : CountsAt w v cs) (hk : Kept S w w') (hS : ∀ g, v.ownBlock = some g → ¬ S g) : CountsAt w' v cs := by
  rcases h with ⟨rfl, rfl⟩ | ⟨g, off, cap, rfl, hg, hh⟩
  · exact .inl ⟨rfl, rfl⟩
  · have hs := hS g rfl
    exact .inr ⟨g, off, cap, rfl, Nat.lt_of_lt_of_le hg hk.size, fun j c hj => ⟨(hk.cell (p := ⟨g, off + j * 2, none⟩) hg hs).trans (hh j c hj).1, (hk.cell (p := ⟨g, off + j * 2 + 1, none⟩) hg hs).trans (hh j c hj).2⟩⟩

def Wf64 (x : Int) : Prop := -9223372036854775808 ≤ x ∧ x ≤ 9223372036854775807

set_option maxRecDepth 100000

theorem odd_any (w : World) (b bx : Nat) (n c t : Int) (hbx : w.cell? ⟨bx, 0, none⟩ = some (.pointer (some ⟨b, 0, none⟩))) (hc : w.cell? ⟨b, 1, none⟩ = some (.int .i64 n)) (ht : Wf64 t) :
    Calls Try.prog 34 #[.agg #[.int .i64 c, .int .i64 t], .pointer (some ⟨bx, 0, none⟩)] w fun e w' => e = .returned (.bool (oddC n (c, t))) ∧ w.alloc (.cells #[.int .i64 c, .int .i64 t] 32) = w' := by
  obtain ⟨ht1, ht2⟩ := ht
  have l1 : bx < w.heap.size := World.block_lt_of_cell? w _ hbx
  have l2 : b < w.heap.size := World.block_lt_of_cell? w _ hc
  by_cases h1 : 1 ≤ c
  · by_cases h2 : c ≤ n
    · by_cases h3 : 0 ≤ t
      · go_enter Try.func34, Try.ntmps34
        go_wp2
        go_ret
        exact ⟨by simp [oddC, h1, h2]; omega, rfl⟩
      · go_enter Try.func34, Try.ntmps34
        go_wp2
        go_ret
        have hw : decide (65535 < IntKind.u64.wrap t) = true := by
          simp [IntKind.wrap, IntKind.signed, IntKind.bits]; omega
        exact ⟨by simp only [oddC, hw]; simp [h1, h2]; omega, rfl⟩
    · go_enter Try.func34, Try.ntmps34
      go_wp2
      go_ret
      exact ⟨by simp [oddC, h1]; omega, rfl⟩
  · go_enter Try.func34, Try.ntmps34
    go_wp2
    go_ret
    exact ⟨by simp [oddC]; omega, rfl⟩

/-- IndexFunc's end: is an index told? -/
def IdxPost (b : Bool) (w : World) (e : Ending) (w' : World) : Prop := ∃ r : Int, e = .returned (.int .i64 r) ∧ decide (0 ≤ r) = b ∧ Kept (fun _ => False) w w'

theorem indexFunc_any (w : World) (b bx : Nat) (n : Int) (hbx : w.cell? ⟨bx, 0, none⟩ = some (.pointer (some ⟨b, 0, none⟩))) (hc : w.cell? ⟨b, 1, none⟩ = some (.int .i64 n))
    (g off cap : Nat) (cs : List (Int × Int)) (hl : cs.length ≤ 140737488355328) (hgl : g < w.heap.size) (hwf : ∀ c ∈ cs, Wf64 c.2)
    (hcs : ∀ j c, cs[j]? = some c → w.cell? ⟨g, off + j * 2, none⟩ = some (.int .i64 c.1) ∧ w.cell? ⟨g, off + j * 2 + 1, none⟩ = some (.int .i64 c.2)) :
    Calls Try.prog 51 #[.slice (some ⟨g, off, none⟩) cs.length cap, .func (.func 34) #[] #[.pointer (some ⟨bx, 0, none⟩)]] w (IdxPost (cs.any (oddC n)) w) := by
  have l1 : bx < w.heap.size := World.block_lt_of_cell? w _ hbx
  have l2 : b < w.heap.size := World.block_lt_of_cell? w _ hc
  have HC := Lib.hid hcs
  have HW := Lib.hid hwf
  clear hcs hwf
  go_enter Try.func51, Try.ntmps51
  go_wp2
  go_loopw [5, 8] (fun _ i wr => ∃ k : Nat, k ≤ cs.length ∧ i = .int .i64 k ∧ (cs.take k).any (oddC n) = false ∧ Below w.heap.size w wr) (fun _ i _ => cs.length - (intOf i).toNat)
  case atStart => exact ⟨0, Nat.zero_le _, rfl, by simp, Below.refl _ _⟩
  case round =>
    obtain ⟨k, hk, rfl, hno, hB⟩ := hrel
    have HN := Lib.hid hno
    clear hno
    by_cases hlt : k < cs.length
    · obtain ⟨c, hck⟩ : ∃ c, cs[k]? = some c := ⟨cs[k], List.getElem?_eq_getElem hlt⟩
      have HK := Lib.hid hck
      have hmem : c ∈ cs := List.mem_of_getElem? hck
      obtain ⟨c1, c2⟩ := HC.out k c hck
      have d1 := (hB.cell (p := ⟨g, off + k * 2, none⟩) hgl).trans c1
      have d2 := (hB.cell (p := ⟨g, off + k * 2 + 1, none⟩) hgl).trans c2
      have d3 := (hB.cell (p := ⟨bx, 0, none⟩) l1).trans hbx
      have d4 := (hB.cell (p := ⟨b, 1, none⟩) l2).trans hc
      have hwc := HW.out c hmem
      clear c1 c2 hck
      by_cases hodd : oddC n c = true
      · go_wp2_with (go_at_call 34; refine (odd_any _ b bx n c.1 c.2 d3 d4 hwc).mono ?_; rintro e w' ⟨rfl, rfl⟩; rw [show oddC n (c.1, c.2) = true from hodd])
        go_ret
        refine ⟨k, rfl, ?_, ?_⟩
        · rw [show cs.any (oddC n) = true from List.any_eq_true.2 ⟨c, hmem, hodd⟩]
          exact decide_eq_true (by omega)
        · exact Kept.below (hB.alloc hB.size _)
      · have hodd' : oddC n c = false := by simpa using hodd
        have HO := Lib.hid hodd'
        clear hodd hodd'
        go_wp2_with (go_at_call 34; refine (odd_any _ b bx n c.1 c.2 d3 d4 hwc).mono ?_; rintro e w' ⟨rfl, rfl⟩; rw [show oddC n (c.1, c.2) = false from HO.out])
        go_roundw
        case rel => exact ⟨k + 1, by omega, by go_num, by rw [List.take_add_one, HK.out]; simp [HN.out, HO.out], hB.alloc hB.size _⟩
        case measure => simp [intOf]; omega
    · go_wp2
      go_ret
      refine ⟨-1, rfl, ?_, Kept.below hB⟩
      have := HN.out
      rw [List.take_of_length_le (by omega)] at this
      rw [this]
      rfl

theorem indexFunc_nil (w : World) (F : Value) :
    Calls Try.prog 51 #[.slice none 0 0, F] w (IdxPost false w) := by
  go_enter Try.func51, Try.ntmps51
  go_wp2
  refine wp_loop_rounds 1 ?_
  rw [rounds_succ]
  go_wp2
  go_ret
  exact ⟨-1, rfl, rfl, Kept.refl _ _⟩

/-- ContainsFunc with Join's closure. -/
def BoolPost (b : Bool) (w : World) (e : Ending) (w' : World) : Prop := e = .returned (.bool b) ∧ Kept (fun _ => False) w w'

theorem containsFunc_any (w : World) (b bx : Nat) (n : Int) (hbx : w.cell? ⟨bx, 0, none⟩ = some (.pointer (some ⟨b, 0, none⟩))) (hc : w.cell? ⟨b, 1, none⟩ = some (.int .i64 n))
    (v : Value) (cs : List (Int × Int)) (hl : cs.length ≤ 140737488355328) (hwf : ∀ c ∈ cs, Wf64 c.2) (hcs : CountsAt w v cs) :
    Calls Try.prog 36 #[v, .func (.func 34) #[] #[.pointer (some ⟨bx, 0, none⟩)]] w (BoolPost (cs.any (oddC n)) w) := by
  have key : Calls Try.prog 51 #[v, .func (.func 34) #[] #[.pointer (some ⟨bx, 0, none⟩)]] w (IdxPost (cs.any (oddC n)) w) := by
    rcases hcs with ⟨rfl, rfl⟩ | ⟨g, off, cap, rfl, hg, hh⟩
    · exact indexFunc_nil w _
    · exact indexFunc_any w b bx n hbx hc g off cap cs hl hg hwf hh
  have KEY := Lib.hid key
  clear key hcs hwf hl hbx hc
  go_enter Try.func36, Try.ntmps36
  go_wp2_with (go_at_call 51; refine KEY.out.mono ?_; rintro e w' ⟨r, rfl, hr, hk⟩; have HR := Lib.hid hr; clear hr)
  go_ret
  exact ⟨by rw [← HR.out]; rfl, hk⟩

end Go.Proofs.Ytacbmpffpfaciaa
