/-
  Walks of layer 21 (hist): Join, Add.
-/
import Derived.Test.YtacbmpffpfaciaaHistC
namespace Go.Proofs.Ytacbmpffpfaciaa
open Go.RowKit Go.Maps

set_option maxRecDepth 100000

/-- count, at any times. -/
theorem count_any (w : World) (bm n : Nat) (f : Int → Int) (k t : Int) (ht : 0 ≤ t) (h1 : 1 ≤ k) (h2 : k ≤ n) (hg : Good n f) (htop : f k + t ≤ 1099511627776)
    (hown : w.ownsMap Try.prog 3 (plainElem Try.prog 3) bm 256 (tallyD n f)) :
    Calls Try.prog 37 #[.map (some bm), .int .i64 k, .int .i64 t] w fun e w' => e = .returned (.tuple #[]) ∧
      w'.ownsMap Try.prog 3 (plainElem Try.prog 3) bm 256 (tallyD n (upd f k t)) ∧ Kept (fun i => i = bm) w w' := by
  by_cases h : t = 0
  · subst h
    refine (count_zero w bm k 0 (by omega)).mono fun e w' ⟨he, hw⟩ => ?_
    subst hw
    exact ⟨he, by rw [upd_zero]; exact hown, Kept.refl _ _⟩
  · exact count_some w bm n f k t (by omega) h1 h2 hg htop hown

theorem HistAt.cells_ne {w : World} {b bm n : Nat} {f : Int → Int} (h : HistAt w b bm n f) {p : Addr} {v : Value} (hc : w.cell? p = some v) : p.block ≠ bm := by
  rintro rfl
  obtain ⟨es, ck, hh, _⟩ := h.map
  simp [World.cell?, hh] at hc

theorem join_loop (w : World) (b bm n : Nat) (f : Int → Int) (h : HistAt w b bm n f) (g off cap : Nat) (cs : List (Int × Int)) (hl : cs.length ≤ 140737488355328) (hgl : g < w.heap.size)
    (hcs : ∀ j c, cs[j]? = some c → w.cell? ⟨g, off + j * 2, none⟩ = some (.int .i64 c.1) ∧ w.cell? ⟨g, off + j * 2 + 1, none⟩ = some (.int .i64 c.2)) (hf : Fits n f cs) (hwf : ∀ c ∈ cs, Wf64 c.2) (hno : cs.any (oddC n) = false) :
    Calls Try.prog 13 #[.pointer (some ⟨b, 0, none⟩), .slice (some ⟨g, off, none⟩) cs.length cap] w fun e w' => e = .returned (.int .i64 0) ∧ HistAt w' b bm n (joinF f cs) ∧ Kept (fun i => i = bm) w w' := by
  have hne := h.ne
  have hlb := h.lt
  have hlm := h.ltm
  have hc0 := h.c0
  have hc1 := h.c1
  have HH := Lib.hid h
  have HC := Lib.hid hcs
  have HF := Lib.hid hf
  have HW := Lib.hid hwf
  have HN := Lib.hid hno
  clear hcs hf hwf hno h
  go_enter Try.func13, Try.ntmps13
  have hA : HistAt (w.alloc (.cells #[.pointer (some ⟨b, 0, none⟩)] 24)) b bm n f := HH.out.kept (Kept.alloc (fun _ => False) _ _) (fun h => h) (fun h => h)
  have HA := Lib.hid hA
  have hA1 := hA.c1
  have hCA : CountsAt (w.alloc (.cells #[.pointer (some ⟨b, 0, none⟩)] 24)) (.slice (some ⟨g, off, none⟩) cs.length cap) cs :=
    CountsAt.kept (.inr ⟨g, off, cap, rfl, hgl, HC.out⟩) (Kept.alloc (fun _ => False) _ _) (fun _ _ h => h)
  have hbx := World.cell?_alloc_new w #[.pointer (some ⟨b, 0, none⟩)] 24 0
  have HCF := Lib.hid (containsFunc_any _ b w.heap.size n hbx hA1 _ cs hl HW.out hCA)
  clear hA hA1 hCA hbx
  go_wp2_with (go_at_call 31; refine (made_yes _ b bm n f HA.out).mono ?_; rintro e w' ⟨rfl, rfl⟩)
  refine HCF.out.mono ?_
  rintro e w1 ⟨rfl, hk⟩
  rw [HN.out]
  have hk0 : Kept (fun _ => False) w w1 := (Kept.alloc (fun _ => False) w _).trans hk (fun _ _ h => h)
  have H1 := Lib.hid (HH.out.kept hk0 (fun h => h) (fun h => h))
  have hbx1 : w1.cell? ⟨w.heap.size, 0, none⟩ = some (.pointer (some ⟨b, 0, none⟩)) := by
    rw [hk.cell (p := ⟨w.heap.size, 0, none⟩) (by simp) (fun h => h)]
    exact World.cell?_alloc_new w #[.pointer (some ⟨b, 0, none⟩)] 24 0
  have hs1 : w.heap.size < w1.heap.size := by have := hk.size; simp at this; omega
  have HC1 := Lib.hid (fun (j : Nat) (c : Int × Int) (hj : cs[j]? = some c) => And.intro ((hk0.cell (p := ⟨g, off + j * 2, none⟩) hgl (fun h => h)).trans (HC.out j c hj).1) ((hk0.cell (p := ⟨g, off + j * 2 + 1, none⟩) hgl (fun h => h)).trans (HC.out j c hj).2))
  have hgl1 : g < w1.heap.size := by omega
  have hbm1 : bm < w.heap.size := hlm
  clear hc0 hc1 hk hgl
  go_wp2_with fail
  go_loopw [7, 17] (fun _ i wr => ∃ k : Nat, k ≤ cs.length ∧ i = .int .i64 k ∧ HistAt wr b bm n (joinF f (cs.take k)) ∧ Kept (fun i => i = bm) w1 wr) (fun _ i _ => cs.length - (intOf i).toNat)
  case atStart => exact ⟨0, Nat.zero_le _, rfl, by simpa [joinF] using H1.out, Kept.refl _ _⟩
  case round =>
    obtain ⟨k, hk, rfl, hh, hK⟩ := hrel
    by_cases hlt : k < cs.length
    · obtain ⟨c, hck⟩ : ∃ c, cs[k]? = some c := ⟨cs[k], List.getElem?_eq_getElem hlt⟩
      have hmem : c ∈ cs := List.mem_of_getElem? hck
      obtain ⟨c1, c2⟩ := HC1.out k c hck
      have gne : g ≠ bm := H1.out.cells_ne c1
      have d1 := (hK.cell (p := ⟨g, off + k * 2, none⟩) hgl1 gne).trans c1
      have d2 := (hK.cell (p := ⟨g, off + k * 2 + 1, none⟩) hgl1 gne).trans c2
      have d3 := (hK.cell (p := ⟨w.heap.size, 0, none⟩) hs1 (fun e => by simp at e; omega)).trans hbx1
      have d4 := hh.c0
      have hsr : w.heap.size < wr.heap.size := by have := hK.size; omega
      have hbr : b < wr.heap.size := hh.lt
      have HR := Lib.hid hh
      have HK := Lib.hid hck
      clear c1 c2 hck hh hbx1
      go_wp2_with fail
      refine wp_still_tail 8 (by kernel_rfl) (by kernel_rfl) ?_
      simp only [List.take_succ_cons, List.take_zero, List.drop_succ_cons, List.drop_zero]
      repeat still_step
      refine wpStill_nil ?_
      have hnum := HF.out.num c hmem
      have hown := (HR.out.kept ((Kept.alloc (fun _ => False) wr (.cells #[.int .i64 c.1, .int .i64 c.2] 32)).drew) (fun h => h) (fun h => h)).map
      have HCT := Lib.hid (count_any _ bm n _ c.1 c.2 (HF.out.pos c hmem) hnum.1 hnum.2 HR.out.good (HF.out.snoc_top HK.out c.1) hown)
      clear hown hnum
      go_wp2_with (go_at_call 37; refine HCT.out.mono ?_; rintro e w2 ⟨rfl, hown2, hk2⟩)
      have hkk : Kept (fun i => i = bm) wr w2 := ((Kept.alloc (fun i => i = bm) wr _).drew).trans hk2 (fun _ _ h => h)
      have hH2 : HistAt w2 b bm n (joinF f (cs.take (k + 1))) := by
        rw [List.take_add_one, HK.out, Option.toList_some, joinF_snoc]
        refine ⟨(hkk.block b hbr (by simpa using hne)).trans HR.out.cells, hown2, ?_⟩
        have := HF.out.good_take (k + 1) (by omega)
        rwa [List.take_add_one, HK.out, Option.toList_some, joinF_snoc] at this
      go_roundw
      case rel => exact ⟨k + 1, by omega, by go_num, hH2, hK.trans hkk (fun _ _ h => h)⟩
      case measure => simp [intOf]; omega
    · go_wp2
      go_ret
      obtain rfl : k = cs.length := by omega
      rw [List.take_length] at hh
      exact ⟨rfl, hh, (hk0.mono (fun _ _ h => h.elim)).trans hK (fun _ _ h => h)⟩

theorem join_none (w : World) (b bm n : Nat) (f : Int → Int) (h : HistAt w b bm n f) :
    Calls Try.prog 13 #[.pointer (some ⟨b, 0, none⟩), .slice none 0 0] w fun e w' => e = .returned (.int .i64 0) ∧ HistAt w' b bm n f ∧ Kept (fun i => i = bm) w w' := by
  have HH := Lib.hid h
  have hA : HistAt (w.alloc (.cells #[.pointer (some ⟨b, 0, none⟩)] 24)) b bm n f := HH.out.kept (Kept.alloc (fun _ => False) _ _) (fun h => h) (fun h => h)
  have HA := Lib.hid hA
  have hbx := World.cell?_alloc_new w #[.pointer (some ⟨b, 0, none⟩)] 24 0
  have HCF := Lib.hid (containsFunc_any _ b w.heap.size n hbx hA.c1 (.slice none 0 0) [] (by simp) (by simp) (.inl ⟨rfl, rfl⟩))
  clear hA hbx h
  go_enter Try.func13, Try.ntmps13
  go_wp2_with (go_at_call 31; refine (made_yes _ b bm n f HA.out).mono ?_; rintro e w' ⟨rfl, rfl⟩)
  refine HCF.out.mono ?_
  rintro e w1 ⟨rfl, hk⟩
  rw [show ([] : List (Int × Int)).any (oddC n) = false from rfl]
  have hk0 : Kept (fun _ => False) w w1 := (Kept.alloc (fun _ => False) w _).trans hk (fun _ _ h => h)
  go_wp2
  refine wp_loop_rounds 1 ?_
  rw [rounds_succ]
  go_wp2
  go_ret
  exact ⟨rfl, HH.out.kept hk0 (fun h => h) (fun h => h), hk0.mono (fun _ _ h => h.elim)⟩

/-- Join: what can't be joined. -/
theorem join_odd (w : World) (b bm n : Nat) (f : Int → Int) (h : HistAt w b bm n f) (v : Value) (cs : List (Int × Int)) (hl : cs.length ≤ 140737488355328) (hcs : CountsAt w v cs) (hwf : ∀ c ∈ cs, Wf64 c.2) (hno : cs.any (oddC n) = true) :
    Calls Try.prog 13 #[.pointer (some ⟨b, 0, none⟩), v] w fun e w' => e = .returned (.int .i64 2) ∧ Kept (fun _ => False) w w' := by
  have HH := Lib.hid h
  have hA : HistAt (w.alloc (.cells #[.pointer (some ⟨b, 0, none⟩)] 24)) b bm n f := HH.out.kept (Kept.alloc (fun _ => False) _ _) (fun h => h) (fun h => h)
  have HA := Lib.hid hA
  have hbx := World.cell?_alloc_new w #[.pointer (some ⟨b, 0, none⟩)] 24 0
  have hCA : CountsAt (w.alloc (.cells #[.pointer (some ⟨b, 0, none⟩)] 24)) v cs := CountsAt.kept hcs (Kept.alloc (fun _ => False) _ _) (fun _ _ h => h)
  have HCF := Lib.hid (containsFunc_any _ b w.heap.size n hbx hA.c1 v cs hl hwf hCA)
  have HN := Lib.hid hno
  clear hA hbx h hCA hcs hwf hl hno
  go_enter Try.func13, Try.ntmps13
  go_wp2_with (go_at_call 31; refine (made_yes _ b bm n f HA.out).mono ?_; rintro e w' ⟨rfl, rfl⟩)
  refine HCF.out.mono ?_
  rintro e w1 ⟨rfl, hk⟩
  rw [HN.out]
  have hk0 : Kept (fun _ => False) w w1 := (Kept.alloc (fun _ => False) w _).trans hk (fun _ _ h => h)
  go_wp2
  go_ret
  exact ⟨rfl, hk0⟩

theorem join_ok (w : World) (b bm n : Nat) (f : Int → Int) (h : HistAt w b bm n f) (v : Value) (cs : List (Int × Int)) (hl : cs.length ≤ 140737488355328) (hcs : CountsAt w v cs) (hf : Fits n f cs) (hwf : ∀ c ∈ cs, Wf64 c.2) (hno : cs.any (oddC n) = false) :
    Calls Try.prog 13 #[.pointer (some ⟨b, 0, none⟩), v] w fun e w' => e = .returned (.int .i64 0) ∧ HistAt w' b bm n (joinF f cs) ∧ Kept (fun i => i = bm) w w' := by
  rcases hcs with ⟨rfl, rfl⟩ | ⟨g, off, cap, rfl, hg, hh⟩
  · exact join_none w b bm n f h
  · exact join_loop w b bm n f h g off cap cs hl hg hh hf hwf hno

theorem join_nil (w : World) (v : Value) :
    Calls Try.prog 13 #[.pointer none, v] w fun e w' => e = .returned (.int .i64 1) ∧ Kept (fun _ => False) w w' := by
  go_enter Try.func13, Try.ntmps13
  go_wp2_with (go_at_call 31; refine (made_nil _).mono ?_; rintro e w' ⟨rfl, rfl⟩)
  go_ret
  exact ⟨rfl, Kept.alloc _ _ _⟩

/-- Add. -/
theorem add_ok (w : World) (b bm n : Nat) (f : Int → Int) (h : HistAt w b bm n f) (c : Int) (h1 : 1 ≤ c) (h2 : c ≤ n) (ht : ∀ k, f k < 1099511627776) :
    Calls Try.prog 10 #[.pointer (some ⟨b, 0, none⟩), .int .i64 c] w fun e w' => e = .returned (.int .i64 0) ∧ HistAt w' b bm n (upd f c 1) ∧ Kept (fun i => i = bm) w w' := by
  have hA : HistAt (w.alloc (.cells #[.int .i64 c, .int .i64 1] 32)) b bm n f := h.kept (Kept.alloc (fun _ => False) _ _) (fun h => h) (fun h => h)
  have hC : CountsAt (w.alloc (.cells #[.int .i64 c, .int .i64 1] 32)) (.slice (some ⟨w.heap.size, 0, none⟩) 1 1) [(c, 1)] := by
    refine .inr ⟨w.heap.size, 0, 1, rfl, by simp, fun j d hj => ?_⟩
    cases j with
    | zero => obtain rfl : (c, 1) = d := by simpa using hj
              exact ⟨by simp, by simp⟩
    | succ j => simp at hj
  have HJ := Lib.hid (join_ok _ b bm n f hA _ [(c, 1)] (by simp) hC ⟨h.good, by simp [h1, h2], by simp, fun k => by have := ht k; simp [timesIn]; omega⟩ (by simp [Wf64]) (by simp [oddC, h1, h2]))
  clear hA hC h ht
  go_enter Try.func10, Try.ntmps10
  go_wp2_with (go_at_call 13; refine HJ.out.mono ?_; rintro e w' ⟨rfl, hh, hk⟩)
  go_ret
  exact ⟨rfl, hh, (Kept.alloc _ w _).trans hk (fun _ _ h => h)⟩

theorem add_odd (w : World) (b bm n : Nat) (f : Int → Int) (h : HistAt w b bm n f) (c : Int) (hc : c < 1 ∨ (n : Int) < c) :
    Calls Try.prog 10 #[.pointer (some ⟨b, 0, none⟩), .int .i64 c] w fun e w' => e = .returned (.int .i64 2) ∧ Kept (fun _ => False) w w' := by
  have hA : HistAt (w.alloc (.cells #[.int .i64 c, .int .i64 1] 32)) b bm n f := h.kept (Kept.alloc (fun _ => False) _ _) (fun h => h) (fun h => h)
  have hC : CountsAt (w.alloc (.cells #[.int .i64 c, .int .i64 1] 32)) (.slice (some ⟨w.heap.size, 0, none⟩) 1 1) [(c, 1)] := by
    refine .inr ⟨w.heap.size, 0, 1, rfl, by simp, fun j d hj => ?_⟩
    cases j with
    | zero => obtain rfl : (c, 1) = d := by simpa using hj
              exact ⟨by simp, by simp⟩
    | succ j => simp at hj
  have HJ := Lib.hid (join_odd _ b bm n f hA _ [(c, 1)] (by simp) hC (by simp [Wf64]) (by simp [oddC]; omega))
  clear hA hC h hc
  go_enter Try.func10, Try.ntmps10
  go_wp2_with (go_at_call 13; refine HJ.out.mono ?_; rintro e w' ⟨rfl, hk⟩)
  go_ret
  exact ⟨rfl, (Kept.alloc _ w _).trans hk (fun _ _ h => h)⟩

theorem add_nil (w : World) (c : Int) :
    Calls Try.prog 10 #[.pointer none, .int .i64 c] w fun e w' => e = .returned (.int .i64 1) ∧ Kept (fun _ => False) w w' := by
  go_enter Try.func10, Try.ntmps10
  go_wp2_with (go_at_call 13; refine (join_nil _ _).mono ?_; rintro e w' ⟨rfl, hk⟩)
  go_ret
  exact ⟨rfl, (Kept.alloc _ w _).trans hk (fun _ _ h => h)⟩

end Go.Proofs.Ytacbmpffpfaciaa
