/-
  Walks of the kit: flatBytes.
-/
import Derived.Test.YtanjchpkekehgaaGreatMxbq
import Derived.Test.YtanjchpkekehgaaGreatMxbr
namespace Go.Proofs.YtanjchpkekehgaaGreat
open Go.RowKit Go.Maps
set_option linter.unusedVariables false
set_option maxRecDepth 100000
set_option maxHeartbeats 20000000

/-- Rows that lie apart, as a list of them reads: the headers V, the lengths L. -/
structure FlatIn (w : World) (go oo n : Nat) (V : Nat → Value) (L : Nat → Nat) : Prop where
  hdr : ∀ k, k < n → w.cell? ⟨go, oo + k, none⟩ = some (V k)
  own : ∀ k, k < n → ∃ l, l.length = L k ∧ OwnW w 0 (V k) l
  inj : ∀ i j b, i < n → j < n → (V i).ownBlock = some b → (V j).ownBlock = some b → i = j
  ne : ∀ k, k < n → (V k).ownBlock ≠ some go
/-- The rows' blocks. -/
def flatB (n : Nat) (V : Nat → Value) (b : Nat) : Prop := ∃ k, k < n ∧ (V k).ownBlock = some b

/-- Of rows V, and of rows G that grew out of them: as many as q lie in the block bg, with what R tells. -/
structure FlatG (w wr : World) (bg n q : Nat) (V : Nat → Value) (L : Nat → Nat) (R : Nat → List B) (G : Nat → Value) : Prop where
  hdr : ∃ C : Array Value, wr.heap[bg]? = some (.cells C 50 (0, 0)) ∧ C.size = n ∧ ∀ j, j < q → C[j]? = some (G j)
  rows : ∀ j, j < q → OwnW wr 0 (G j) (R j)
  vs : ∀ j, j < n → OwnW wr 0 (V j) (rowL (L j) (mkB j))
  blk : ∀ j, j < q → ∀ b, (G j).ownBlock = some b → (V j).ownBlock = some b ∨ bg < b
  kept : Kept (flatB n V) w wr
section
variable {w wr w' : World} {bg n q : Nat} {V G : Nat → Value} {L : Nat → Nat} {R : Nat → List B}
theorem FlatG.lt (h : FlatG w wr bg n q V L R G) : bg < wr.heap.size := by
  obtain ⟨C, h1, _⟩ := h.hdr
  exact (Array.getElem?_eq_some_iff.1 h1).1
theorem FlatG.cell (h : FlatG w wr bg n q V L R G) {j : Nat} (hj : j < q) : wr.cell? ⟨bg, j, none⟩ = some (G j) := by
  obtain ⟨C, h1, h2, h3⟩ := h.hdr
  rw [cell_of h1, h3 j hj]
theorem FlatG.fz (h : FlatG w wr bg n q V L R G) (j : Nat) : wr.frozen? ⟨bg, j, none⟩ = false := by
  obtain ⟨C, h1, h2, h3⟩ := h.hdr
  exact fz_of h1 j
theorem FlatG.some (h : FlatG w wr bg n q V L R G) {j : Nat} (hj : j < n) : ∃ u, wr.cell? ⟨bg, j, none⟩ = some u := by
  obtain ⟨C, h1, h2, h3⟩ := h.hdr
  exact ⟨C[j], by rw [cell_of h1]; exact Array.getElem?_eq_getElem (by omega)⟩
theorem FlatG.dr (h : FlatG w wr bg n q V L R G) (k : Nat) : FlatG w (wr.drewN k) bg n q V L R G := ⟨h.hdr, h.rows, h.vs, h.blk, h.kept.drewN k⟩
theorem FlatG.none (h : FlatG w wr bg n q V L R G) (R' : Nat → List B) : FlatG w wr bg n 0 V L R' G := by
  obtain ⟨C, h1, h2, h3⟩ := h.hdr
  exact ⟨⟨C, h1, h2, fun j hj => absurd hj (by omega)⟩, fun j hj => absurd hj (by omega), h.vs, fun j hj => absurd hj (by omega), h.kept⟩
theorem FlatG.below (h : FlatG w wr bg n q V L R G) (hb : Below wr.heap.size wr w') (hw : w.heap.size ≤ wr.heap.size) : FlatG w w' bg n q V L R G := by
  obtain ⟨C, h1, h2, h3⟩ := h.hdr
  exact ⟨⟨C, (hb.block bg h.lt).trans h1, h2, h3⟩, fun j hj => (h.rows j hj).below hb, fun j hj => (h.vs j hj).below hb, h.blk, h.kept.trans (Kept.below hb) (fun _ _ h => h.elim)⟩
theorem FlatG.step (h : FlatG w wr bg n q V L R G) (hq : q < n) (hbg : w.heap.size ≤ bg) (hin : ∀ i j b, i < n → j < n → (V i).ownBlock = Option.some b → (V j).ownBlock = Option.some b → i = j) (hbw : ∀ k, k < n → ∀ b, (V k).ownBlock = Option.some b → b < w.heap.size)
    {g : Value} (hO : OwnW w' 0 g (R q)) (hV : OwnW w' 0 (V q) (rowL (L q) (mkB q))) (hb : ∀ b, g.ownBlock = Option.some b → (V q).ownBlock = Option.some b ∨ wr.heap.size ≤ b) (hk : Kept (fun b => (V q).ownBlock = Option.some b) wr w') :
    FlatG w (w'.setCell ⟨bg, q, .none⟩ g) bg n (q + 1) V L R (fun j => if j = q then g else G j) := by
  obtain ⟨C, h1, h2, h3⟩ := h.hdr
  have hlt := h.lt
  have hVq : ∀ b, (V q).ownBlock = Option.some b → b < w.heap.size := hbw q hq
  have hks : Kept (fun b => b = bg) w' (w'.setCell ⟨bg, q, .none⟩ g) := Kept.set1 _ _ _ _
  have hgb : ∀ b, g.ownBlock = Option.some b → b ≠ bg := fun b e => by
    rcases hb b e with z | z
    · have := hVq b z; omega
    · omega
  refine ⟨⟨C.setIfInBounds q g, heap_set ((hk.block bg hlt (fun e => by have := hVq bg e; omega)).trans h1) g, by simpa using h2, fun j hj => ?_⟩, fun j hj => ?_, fun j hj => ?_, fun j hj b e => ?_, (h.kept.trans hk (fun b hb' e => ⟨q, hq, e⟩)).trans hks (fun b hb' e => by omega)⟩
  · by_cases e : j = q
    · subst e
      rw [Array.getElem?_setIfInBounds_self_of_lt (by omega), if_pos rfl]
    · rw [Array.getElem?_setIfInBounds_ne (fun z => e z.symm), if_neg e]
      exact h3 j (by omega)
  · by_cases e : j = q
    · subst e
      simp only [if_true]
      exact hO.kept hks (fun b hb' e => hgb b hb' e)
    · simp only [if_neg e]
      refine ((h.rows j (by omega)).kept hk (fun b hb' z => ?_)).kept hks (fun b hb' z => ?_)
      · rcases h.blk j (by omega) b hb' with y | y
        · exact e (hin j q b (by omega) hq y z)
        · have := hVq b z; omega
      · rcases h.blk j (by omega) b hb' with y | y
        · have := hbw j (by omega) b y; omega
        · omega
  · by_cases e : j = q
    · subst e
      exact hV.kept hks (fun b hb' z => by have := hVq b hb'; omega)
    · refine ((h.vs j hj).kept hk (fun b hb' z => e (hin j q b hj hq hb' z))).kept hks (fun b hb' z => by have := hbw j hj b hb'; omega)
  · by_cases z : j = q
    · subst z
      rw [if_pos rfl] at e
      rcases hb b e with y | y
      · exact .inl y
      · exact .inr (by omega)
    · rw [if_neg z] at e
      exact h.blk j (by omega) b e
end

theorem flatBytes_any (w : World) (go oo n c0 : Nat) (V : Nat → Value) (L : Nat → Nat) (h : FlatIn w go oo n V L) (hn : n ≤ 1000) (hL : ∀ k, k < n → L k ≤ 100000) :
    Calls Tryz.prog 76 #[.slice (some ⟨go, oo, none⟩) n c0] w fun e w' => e = .returned (.bool true) ∧ Kept (flatB n V) w w' := by
  have HD := Lib.hid h.hdr
  have HNE := Lib.hid h.ne
  have HIN := Lib.hid h.inj
  have HOW := Lib.hid h.own
  have HLL := Lib.hid hL
  have HSH := Lib.hid (fun k (hk : k < n) => (show ∃ p c, V k = .slice p (L k) c from by
    obtain ⟨l, h1, h2⟩ := h.own k hk
    obtain ⟨p, c, e⟩ := h2.shape
    exact ⟨p, c, by rw [e, h1]⟩))
  have HBW := Lib.hid (fun k (hk : k < n) b (hb : (V k).ownBlock = some b) => (show b < w.heap.size from by
    obtain ⟨l, h1, h2⟩ := h.own k hk
    exact (h2.blk b hb).2))
  clear h hL
  go_enter Tryz.func76, Tryz.ntmps76
  go_wp2
  go_loopw [3, 4] (fun i _ wr => ∃ k : Nat, k ≤ n ∧ i = .int .i64 (k : Int) ∧ (∀ j, j < k → OwnW wr 0 (V j) (rowL (L j) (mkB j))) ∧ (∀ j, k ≤ j → j < n → ∃ l, l.length = L j ∧ OwnW wr 0 (V j) l) ∧ Kept (flatB n V) w wr) (fun i _ _ => n - (intOf i).toNat)
  case atStart => exact ⟨0, Nat.zero_le _, rfl, fun j h => absurd h (by omega), fun j _ hj => HOW.out j hj, Kept.refl _ _⟩
  case round =>
    obtain ⟨w0, rfl⟩ : ∃ w0, w0 = wr := ⟨_, rfl⟩
    obtain ⟨k, hk, rfl, ho1, ho2, hK⟩ := hrel
    have HO1 := Lib.hid ho1
    have HO2 := Lib.hid ho2
    have HK := Lib.hid hK
    clear ho1 ho2
    by_cases hlt : k < n
    · obtain ⟨pk, ck, hvk⟩ := HSH.out k hlt
      obtain ⟨l, hl, hol⟩ := HO2.out k (Nat.le_refl _) hlt
      have z := HD.out k hlt
      have HZ := Lib.hid z
      have hlk := HLL.out k hlt
      have HVK := Lib.hid hvk
      have hs0 := hK.size
      have HSTART := Lib.hid (show OwnW w0 0 (.slice pk (L k) ck) (progL (L k) (mkB k) (fun a => l.getD a 0) 0) from by
        rw [progL_zero, ← hl, ← list_rowL l, hl, ← hvk]; exact hol)
      have hbk : ∀ b, (Value.slice pk (L k) ck).ownBlock = some b → b ≠ go ∧ b < w.heap.size := fun b hb => ⟨fun e => HNE.out k hlt (by rw [hvk, hb, e]), HBW.out k hlt b (by rw [hvk]; exact hb)⟩
      have HBK := Lib.hid hbk
      obtain ⟨m, hm⟩ : ∃ m, L k = m := ⟨_, rfl⟩
      rw [hm] at hlk HSTART HBK HVK
      have HM := Lib.hid hm
      rw [HVK.out] at z
      clear hl hol hvk hbk hm
      go_wp2
      go_loopw [4] (fun i wr => ∃ t : Nat, t ≤ m ∧ i = .int .i64 (t : Int) ∧ OwnW wr 0 (.slice pk m ck) (progL m (mkB k) (fun a => l.getD a 0) t) ∧ Kept (fun b => (Value.slice pk m ck).ownBlock = some b) w0 wr) (fun i _ => m - (intOf i).toNat)
      case atStart => exact ⟨0, Nat.zero_le _, rfl, HSTART.out, Kept.refl _ _⟩
      case round =>
        obtain ⟨t, ht, rfl, ho, hk2⟩ := hrel
        have HOT := Lib.hid ho
        have HK2 := Lib.hid hk2
        have d0 : wr.cell? ⟨go, oo + k, none⟩ = some (.slice pk m ck) := (hk2.cell (p := ⟨go, oo + k, none⟩) (Nat.lt_of_lt_of_le (blt z) hs0) (fun e => (HBK.out go e).1 rfl)).trans ((hK.cell (p := ⟨go, oo + k, none⟩) (blt z) (fun ⟨j, hj, e⟩ => HNE.out j hj e)).trans z)
        clear ho hk2
        by_cases hlt2 : t < m
        · obtain ⟨g, c, e, hg, hrow⟩ := HOT.out.row (by rw [progL_len]; omega)
          rw [progL_len] at e
          simp only [Value.slice.injEq, true_and] at e
          obtain ⟨rfl, rfl⟩ := e
          have d1 := hrow.cell (i := t) (by rw [progL_len]; exact hlt2)
          have d2 := hrow.fz t
          have HSet := Lib.hid (fun (W : World) (h : OwnW W 0 (.slice (some ⟨g, 0, none⟩) m ck) (progL m (mkB k) (fun a => l.getD a 0) t)) => h.prog hlt2 rfl)
          obtain ⟨x, hx⟩ : ∃ x, (progL m (mkB k) (fun a => l.getD a 0) t).getD t 0 = x := ⟨_, rfl⟩
          rw [hx] at d1
          have HMB := Lib.hid (fun W => markByte_any W k t (by omega) (by omega))
          obtain ⟨y, hy⟩ : ∃ y, mkB k t = y := ⟨_, rfl⟩
          rw [hy] at HMB HSet
          clear hrow hx hy
          go_wp2_with fail
          refine wp_quiet_store 9 (by kernel_rfl) (by kernel_rfl) ?_
          simp only [List.take_succ_cons, List.take_zero, List.drop_succ_cons, List.drop_zero]
          repeat (quiet_step ((go_at_call 46; exact q_one_same (HMB.out _))))
          refine wpQuiet_nil ?_
          rintro w7 ⟨nq, rfl⟩
          go_wp2
          refine calmQ.normal ?_
          go_wp2
          go_roundw
          case rel => exact ⟨t + 1, by omega, by go_num, HSet.out _ (HOT.out.dr nq), (HK2.out.drewN nq).setCell' (p := ⟨g, t, none⟩) rfl _⟩
          case measure => simp [intOf]; omega
        · obtain rfl : t = m := by omega
          have HF := Lib.hid (show OwnW wr 0 (V k) (rowL (L k) (mkB k)) from by
            have := HOT.out
            rw [progL_all] at this
            rw [HVK.out, HM.out]; exact this)
          have HF1 := Lib.hid (show ∀ j, j < k → OwnW wr 0 (V j) (rowL (L j) (mkB j)) from fun j hj => (HO1.out j hj).kept HK2.out (fun b hb e => by
            have := HIN.out j k b (by omega) hlt hb (by rw [HVK.out]; exact e); omega))
          have HF2 := Lib.hid (show ∀ j, k + 1 ≤ j → j < n → ∃ l, l.length = L j ∧ OwnW wr 0 (V j) l from fun j h1 h2 => by
            obtain ⟨l, a, b⟩ := HO2.out j (by omega) h2
            exact ⟨l, a, b.kept HK2.out (fun b hb e => by
              have := HIN.out j k b h2 hlt hb (by rw [HVK.out]; exact e); omega)⟩)
          have HF3 := Lib.hid (show Kept (flatB n V) w wr from HK.out.trans HK2.out (fun b _ e => ⟨k, hlt, by rw [HVK.out]; exact e⟩))
          go_wp2
          go_roundw
          case rel => exact ⟨k + 1, by omega, by go_num, fun j hj => by
            by_cases e : j = k
            · rw [e]; exact HF.out
            · exact HF1.out j (by omega), HF2.out, HF3.out⟩
          case measure => simp [intOf]; omega
    · obtain rfl : k = n := by omega
      have hmk := run_make_one (w := w0) 22 50 (.slice none 0 0) 24 Tryz.underlying22 infoR rfl (by omega) k (by omega)
      have hs0 := hK.size
      have HG0 := Lib.hid (show FlatG w (w0.alloc (.cells (Array.replicate k (.slice none 0 0)) 50)) w0.heap.size k 0 V L (fun j => rowL (L j + 64) (mkB j)) V from
        ⟨⟨_, heap_alloc_new w0 _, by simp, fun j hj => absurd hj (by omega)⟩, fun j hj => absurd hj (by omega), fun j hj => (HO1.out j hj).alloc _, fun j hj => absurd hj (by omega), HK.out.trans (Kept.alloc (fun _ => False) w0 _) (fun _ _ h => h.elim)⟩)
      obtain ⟨bg, hbg⟩ : ∃ bg, w0.heap.size = bg := ⟨_, rfl⟩
      clear hK
      go_wp2
      rw [hbg] at HG0 hs0
      clear hmk
      generalize w0.alloc (.cells (Array.replicate k (.slice none 0 0)) 50) = w1 at *
      go_loopw [6, 7, 8] (fun i _ _ wr => ∃ (q : Nat) (G : Nat → Value), q ≤ k ∧ i = .int .i64 (q : Int) ∧ FlatG w wr bg k q V L (fun j => rowL (L j + 64) (mkB j)) G) (fun i _ _ _ => k - (intOf i).toNat)
      case atStart => exact ⟨0, V, Nat.zero_le _, rfl, HG0.out⟩
      case round =>
        obtain ⟨w2, rfl⟩ : ∃ w2, w2 = wr := ⟨_, rfl⟩
        obtain ⟨q, G, hq, rfl, hG⟩ := hrel
        have HG := Lib.hid hG
        have hbl := hG.lt
        clear hG
        by_cases hlt : q < k
        · obtain ⟨pq, cq, hvq⟩ := HSH.out q hlt
          have HVQ := Lib.hid hvq
          have z := HD.out q hlt
          have d0 := (HG.out.kept.cell (p := ⟨go, oo + q, none⟩) (blt z) (fun ⟨j, hj, e⟩ => HNE.out j hj e)).trans z
          have hlq := HLL.out q hlt
          have HST := Lib.hid (Grew.start (N := w2.heap.size) (HG.out.vs q hlt) (rowL_len _ _))
          have HVO := Lib.hid (HG.out.vs q hlt)
          have HVB := Lib.hid (fun b (hb : (V q).ownBlock = some b) => (show b ≠ go ∧ b < w2.heap.size from ⟨fun e => HNE.out q hlt (by rw [hb, e]), Nat.lt_of_lt_of_le (HBW.out q hlt b hb) HG.out.kept.size⟩))
          rw [hvq] at d0 HST HVO HVB
          obtain ⟨m, hm⟩ : ∃ m, L q = m := ⟨_, rfl⟩
          have HM := Lib.hid hm
          rw [hm] at d0 HST HVO HVB hlq
          clear hvq hm z
          go_wp2
          go_loopw [7, 8] (fun g i wr => ∃ t : Nat, t ≤ 64 ∧ i = .int .i64 (t : Int) ∧ OwnW wr 0 g (rowL (m + t) (mkB q)) ∧ OwnW wr 0 (.slice pq m cq) (rowL m (mkB q)) ∧ Grew (.slice pq m cq) m w2.heap.size g t ∧ Kept (fun b => (Value.slice pq m cq).ownBlock = some b) w2 wr) (fun _ i _ => 64 - (intOf i).toNat)
          case atStart => exact ⟨0, by omega, rfl, HVO.out, HVO.out, HST.out, Kept.refl _ _⟩
          case round =>
            obtain ⟨t, ht, rfl, ho, hV, hgr, hk2⟩ := hrel
            obtain ⟨p7, c7, rfl⟩ := ho.shape
            rw [rowL_len] at ho hgr ⊢
            have HO := Lib.hid ho
            have HV := Lib.hid hV
            have HGR := Lib.hid hgr
            have HK2 := Lib.hid hk2
            have hsr := hk2.size
            have e0 := (hk2.cell (p := ⟨go, oo + q, none⟩) (blt d0) (fun e => (HVB.out go e).1 rfl)).trans d0
            clear ho hV hgr hk2
            by_cases hlt2 : t < 64
            · have HMB := Lib.hid (markByte_any wr q (m + t) (by omega) (by omega))
              rw [show ((m + t : Nat) : Int) = (m : Int) + (t : Int) by omega] at HMB
              obtain ⟨y, hy⟩ : ∃ y, mkB q (m + t) = y := ⟨_, rfl⟩
              rw [hy] at HMB
              have HY := Lib.hid hy
              have HOA := Lib.hid (HO.out.alloc (.cells #[bv y] 5))
              have HVA := Lib.hid (HV.out.alloc (.cells #[bv y] 5))
              have HLIT := Lib.hid (show ∀ i, i < 1 → (wr.alloc (.cells #[bv y] 5)).cell? ⟨wr.heap.size, 0 + i, none⟩ = some (bv ([y].getD i 0)) from fun i hi => by
                obtain rfl : i = 0 := by omega
                exact (World.cell?_alloc_new wr _ _ 0).trans rfl)
              clear hy
              go_wp2_with fail
              refine HMB.out.mono ?_
              rintro e w5 ⟨rfl, rfl⟩
              go_wp2_with (at_builtin; refine app_own2 rfl _ _ rfl (m + t) 1 _ _ [y] (rowL_len _ _) rfl HOA.out wr.heap.size 0 1 (by omega) HLIT.out rfl rfl (by omega) ?_; intro g' c' w6 hR6 hor6)
              have hst := HGR.out.step (l0 := rowL m (mkB q)) (l1 := rowL t (fun i => mkB q (m + i))) (l2 := [y]) (rowL_len _ _) (rowL_len _ _) rfl HVA.out (fun b hb => (HVB.out b hb).2) (by simp; omega) (by rw [← rowL_add]; exact hR6) hor6
              have HST6 := Lib.hid hst
              have HR6 := Lib.hid (show OwnW w6 0 (.slice (some ⟨g', 0, none⟩) (m + t + 1) c') (rowL (m + (t + 1)) (mkB q)) by rw [← Nat.add_assoc, rowL_succ, HY.out]; exact hR6)
              have HK6 := Lib.hid (show Kept (fun b => (Value.slice pq m cq).ownBlock = some b) w2 w6 from (HK2.out.trans (Kept.alloc (fun _ => False) wr (.cells #[bv y] 5)) (fun _ _ h => h.elim)).trans hst.2.2 (fun b hb e => by
                rcases e with e | e
                · exact e
                · omega))
              clear hst hR6 hor6
              go_roundw
              case rel => exact ⟨t + 1, by omega, by go_num, HR6.out, HST6.out.1, HST6.out.2.1, HK6.out⟩
              case measure => simp [intOf]; omega
            · obtain rfl : t = 64 := by omega
              obtain ⟨u5, hu5⟩ := HG.out.some hlt
              have hnb : bg ≠ go := by have := blt (HD.out q hlt); omega
              have e5 := (HK2.out.cell (p := ⟨bg, q, none⟩) hbl (fun e => by have := HBW.out q hlt bg (by rw [HVQ.out, HM.out]; exact e); omega)).trans hu5
              have ef := (show wr.frozen? ⟨bg, q, none⟩ = false from by
                obtain ⟨C, h1, _⟩ := HG.out.hdr
                exact fz_of ((HK2.out.block bg hbl (fun e => by have := HBW.out q hlt bg (by rw [HVQ.out, HM.out]; exact e); omega)).trans h1) q)
              have HFin := Lib.hid (HG.out.step hlt hs0 HIN.out HBW.out (g := .slice p7 (m + 64) c7) (by show OwnW wr 0 _ (rowL (L q + 64) (mkB q)); rw [HM.out]; exact HO.out) (by rw [HVQ.out, HM.out]; exact HV.out) (fun b hb => by rw [HVQ.out, HM.out]; exact HGR.out.blk b hb) (by rw [HVQ.out, HM.out]; exact HK2.out))
              go_wp2
              go_roundw
              case rel => exact ⟨q + 1, _, by omega, by go_num, HFin.out⟩
              case measure => simp [intOf]; omega
        · obtain rfl : q = k := by omega
          have HHV := Lib.hid (fun j (hj : j < q) => (HG.out.kept.cell (p := ⟨go, oo + j, none⟩) (blt (HD.out j hj)) (fun ⟨i, hi, e⟩ => HNE.out i hi e)).trans (HD.out j hj))
          go_wp2
          go_loopw [9, 10] (fun i _ wr => ∃ (r x : Nat), r ≤ q ∧ i = .int .i64 (r : Int) ∧ wr = w2.drewN x) (fun i _ _ => q - (intOf i).toNat)
          case atStart => exact ⟨0, 0, Nat.zero_le _, rfl, rfl⟩
          case round =>
            obtain ⟨r, x, hr, rfl, rfl⟩ := hrel
            by_cases hlt3 : r < q
            · obtain ⟨gg, cg, eg, _, hrg⟩ := (HG.out.rows r hlt3).row (by rw [rowL_len]; omega)
              rw [rowL_len] at eg
              have hg := HG.out.cell hlt3
              have hv := HHV.out r hlt3
              obtain ⟨pq, cq, hvq⟩ := HSH.out r hlt3
              have HVO := Lib.hid (HG.out.vs r hlt3)
              rw [eg] at hg
              rw [hvq] at hv HVO
              obtain ⟨m, hm⟩ : ∃ m, L r = m := ⟨_, rfl⟩
              have hlq := HLL.out r hlt3
              rw [hm] at hg hv HVO hrg hlq
              have HRG := Lib.hid hrg
              clear eg hvq hm hrg
              go_wp2
              go_loopw [10] (fun i wr => ∃ (t x : Nat), t ≤ m + 64 ∧ i = .int .i64 (t : Int) ∧ wr = w2.drewN x) (fun i _ => m + 64 - (intOf i).toNat)
              case atStart => exact ⟨0, x, Nat.zero_le _, rfl, rfl⟩
              case round =>
                obtain ⟨t, x2, ht, rfl, rfl⟩ := hrel
                by_cases hlt4 : t < m + 64
                · have d1 := HRG.out.cell (i := t) (by rw [rowL_len]; exact hlt4)
                  rw [rowL_get _ hlt4] at d1
                  have HMB := Lib.hid (fun W => markByte_any W r t (by omega) (by omega))
                  by_cases h1 : t < m
                  · obtain ⟨gv, cv, ev, _, hrv⟩ := HVO.out.row (by rw [rowL_len]; omega)
                    rw [rowL_len] at ev
                    simp only [Value.slice.injEq, true_and] at ev
                    obtain ⟨rfl, rfl⟩ := ev
                    have d2 := hrv.cell (i := t) (by rw [rowL_len]; exact h1)
                    rw [rowL_get _ h1] at d2
                    obtain ⟨y, hy⟩ : ∃ y, mkB r t = y := ⟨_, rfl⟩
                    rw [hy] at d1 d2 HMB
                    clear hrv hy
                    go_wp2_with fail
                    go_quiet ((go_at_call 46; exact q_add_same (HMB.out _)))
                    go_wp2
                    go_roundw
                    case rel => exact ⟨t + 1, _, by omega, by go_num, by first | rfl | rw [World.drewN_drewN]⟩
                    case measure => simp [intOf]; omega
                  · obtain ⟨y, hy⟩ : ∃ y, mkB r t = y := ⟨_, rfl⟩
                    rw [hy] at d1 HMB
                    have h2 : ¬ (t : Int) < (m : Int) := by omega
                    clear hy
                    go_wp2_with fail
                    go_quiet ((go_at_call 46; exact q_add_same (HMB.out _)))
                    go_wp2
                    go_roundw
                    case rel => exact ⟨t + 1, _, by omega, by go_num, by first | rfl | rw [World.drewN_drewN]⟩
                    case measure => simp [intOf]; omega
                · obtain rfl : t = m + 64 := by omega
                  go_wp2
                  go_roundw
                  case rel => exact ⟨r + 1, x2, by omega, by go_num, rfl⟩
                  case measure => simp [intOf]; omega
            · obtain rfl : r = q := by omega
              have HG4 := Lib.hid ((HG.out.dr x).none (fun j => rowL (L j) (mkB j) ++ rowL 64 (mkB (j + r))))
              go_wp2
              generalize w2.drewN x = w3 at *
              go_loopw [11, 12, 13] (fun i _ _ wr => ∃ (q : Nat) (G : Nat → Value), q ≤ r ∧ i = .int .i64 (q : Int) ∧ FlatG w wr bg r q V L (fun j => rowL (L j) (mkB j) ++ rowL 64 (mkB (j + r))) G) (fun i _ _ _ => r - (intOf i).toNat)
              case atStart => exact ⟨0, G, Nat.zero_le _, rfl, HG4.out⟩
              case round =>
                obtain ⟨w4, rfl⟩ : ∃ w4, w4 = wr := ⟨_, rfl⟩
                obtain ⟨q, G4, hq, rfl, hG⟩ := hrel
                have HGQ := Lib.hid hG
                have hbl4 := hG.lt
                clear hG
                by_cases hlt5 : q < r
                · obtain ⟨pq, cq, hvq⟩ := HSH.out q hlt5
                  have HVQ := Lib.hid hvq
                  have z := HD.out q hlt5
                  have d0 := (HGQ.out.kept.cell (p := ⟨go, oo + q, none⟩) (blt z) (fun ⟨j, hj, e⟩ => HNE.out j hj e)).trans z
                  have hlq := HLL.out q hlt5
                  have HST := Lib.hid (Grew.start (N := w4.heap.size) (HGQ.out.vs q hlt5) (rowL_len _ _))
                  have HVO := Lib.hid (HGQ.out.vs q hlt5)
                  have HVB := Lib.hid (fun b (hb : (V q).ownBlock = some b) => (show b ≠ go ∧ b < w4.heap.size from ⟨fun e => HNE.out q hlt5 (by rw [hb, e]), Nat.lt_of_lt_of_le (HBW.out q hlt5 b hb) HGQ.out.kept.size⟩))
                  rw [hvq] at d0 HST HVO HVB
                  obtain ⟨m, hm⟩ : ∃ m, L q = m := ⟨_, rfl⟩
                  have HM := Lib.hid hm
                  rw [hm] at d0 HST HVO HVB hlq
                  obtain ⟨u5, hu5⟩ := HGQ.out.some hlt5
                  have hnb : bg ≠ go := by have := blt (HD.out q hlt5); omega
                  have HBGQ := Lib.hid (show ¬ (Value.slice pq m cq).ownBlock = some bg from fun e => by have := HBW.out q hlt5 bg (by rw [HVQ.out, HM.out]; exact e); omega)
                  have hmk := run_make_one (w := w4) 50 5 (.int .u8 0) 1 Tryz.underlying50 infoB rfl (by omega) 64 (by omega)
                  rw [show ((64 : Nat) : Int) = 64 from rfl] at hmk
                  have hF := RowF.made w4 64
                  have hA := bal' w4 (.cells (Array.replicate 64 (.int .u8 0)) 5)
                  have HF0 := Lib.hid (show RowF (w4.alloc (.cells (Array.replicate 64 (.int .u8 0)) 5)) w4.heap.size (progL 64 (mkB (q + r)) (fun _ => 0) 0) from by
                    rw [progL_zero]
                    rw [rowL_nil]; exact hF)
                  have HA := Lib.hid hA
                  clear hvq hm z hF hA
                  go_wp2
                  clear hmk
                  generalize w4.alloc (.cells (Array.replicate 64 (.int .u8 0)) 5) = w5 at *
                  go_loopw [13] (fun i wr => ∃ t : Nat, t ≤ 64 ∧ i = .int .i64 (t : Int) ∧ RowF wr w4.heap.size (progL 64 (mkB (q + r)) (fun _ => 0) t) ∧ Below w4.heap.size w4 wr) (fun i _ => 64 - (intOf i).toNat)
                  case atStart => exact ⟨0, by omega, rfl, HF0.out, HA.out⟩
                  case round =>
                    obtain ⟨t, ht, rfl, hF, hB⟩ := hrel
                    have HF := Lib.hid hF
                    have HB := Lib.hid hB
                    have hsr := hB.size
                    have e0 := (hB.cell (p := ⟨go, oo + q, none⟩) (blt d0)).trans d0
                    clear hF
                    by_cases hlt6 : t < 64
                    · have HMB := Lib.hid (markByte_any wr (q + r) t (by omega) (by omega))
                      rw [show ((q + r : Nat) : Int) = (q : Int) + (r : Int) by omega] at HMB
                      have d1 := HF.out.cell (i := t) (by rw [progL_len]; exact hlt6)
                      have d2 := HF.out.fz t
                      have HSet := Lib.hid (show RowF (wr.setCell ⟨w4.heap.size, t, none⟩ (bv (mkB (q + r) t))) w4.heap.size (progL 64 (mkB (q + r)) (fun _ => 0) (t + 1)) from by
                        have := HF.out.set (i := t) (by rw [progL_len]; exact hlt6) (mkB (q + r) t)
                        rwa [progL_set _ _ hlt6] at this)
                      obtain ⟨y, hy⟩ : ∃ y, mkB (q + r) t = y := ⟨_, rfl⟩
                      rw [hy] at HMB HSet
                      obtain ⟨y0, hy0⟩ : ∃ y0, (progL 64 (mkB (q + r)) (fun _ => 0) t).getD t 0 = y0 := ⟨_, rfl⟩
                      rw [hy0] at d1
                      clear hy hy0 hB
                      go_wp2_with fail
                      refine HMB.out.mono ?_
                      rintro e w6 ⟨rfl, rfl⟩
                      go_wp2
                      go_roundw
                      case rel => exact ⟨t + 1, by omega, by go_num, HSet.out, HB.out.setCell (Nat.le_refl _) _⟩
                      case measure => simp [intOf]; omega
                    · obtain rfl : t = 64 := by omega
                      have HFA := Lib.hid (show RowF wr w4.heap.size (rowL 64 (mkB (q + r))) from by have := HF.out; rwa [progL_all] at this)
                      have HCE := Lib.hid (fun i (hi : i < 64) => (show wr.cell? ⟨w4.heap.size, 0 + i, none⟩ = some (bv ((rowL 64 (mkB (q + r))).getD i 0)) from by rw [Nat.zero_add]; exact HFA.out.cell (by rw [rowL_len]; exact hi)))
                      have HVR := Lib.hid (HVO.out.below hB)
                      have HGR := Lib.hid (HGQ.out.below hB (HGQ.out.kept.size))
                      have e5 := (hB.cell (p := ⟨bg, q, none⟩) hbl4).trans hu5
                      clear hB
                      go_wp2_with (at_builtin; refine app_own2 rfl _ _ rfl m 64 _ _ (rowL 64 (mkB (q + r))) (rowL_len _ _) (rowL_len _ _) HVR.out w4.heap.size 0 64 (by omega) HCE.out rfl rfl (by omega) ?_; intro g' c' w6 hR6 hor6; have HSP := Lib.hid (HST.out.step (l0 := rowL m (mkB q)) (l1 := []) (l2 := rowL 64 (mkB (q + r))) (m := 64) (rowL_len _ _) rfl (rowL_len _ _) HVR.out (fun b hb => (HVB.out b hb).2) hsr (by rw [List.append_nil]; exact hR6) hor6); have HR6 := Lib.hid hR6; have HK6 := Lib.hid (show Kept (fun b => (Value.slice pq m cq).ownBlock = some b) w4 w6 from ((Kept.below HB.out).mono (fun _ _ h => h.elim)).trans HSP.out.2.2 (fun b hb e => by rcases e with e | e; exact e; omega)); have f5 := (HK6.out.cell (p := ⟨bg, q, none⟩) hbl4 HBGQ.out).trans hu5; have ff : w6.frozen? ⟨bg, q, none⟩ = false := (by obtain ⟨C, h1, _⟩ := HGQ.out.hdr; exact fz_of ((HK6.out.block bg hbl4 HBGQ.out).trans h1) q); clear hR6 hor6)
                      have HFin := Lib.hid (HGQ.out.step hlt5 hs0 HIN.out HBW.out (g := .slice (some ⟨g', 0, none⟩) (m + 64) c') (by show OwnW w6 0 _ (rowL (L q) (mkB q) ++ rowL 64 (mkB (q + r))); rw [HM.out]; exact HR6.out) (by rw [HVQ.out, HM.out]; exact HSP.out.1) (fun b hb => by rw [HVQ.out, HM.out]; exact HSP.out.2.1.blk b hb) (by rw [HVQ.out, HM.out]; exact HK6.out))
                      go_roundw
                      case rel => exact ⟨q + 1, _, by omega, by go_num, HFin.out⟩
                      case measure => simp [intOf]; omega
                · obtain rfl : q = r := by omega
                  have HHV5 := Lib.hid (fun j (hj : j < q) => (HGQ.out.kept.cell (p := ⟨go, oo + j, none⟩) (blt (HD.out j hj)) (fun ⟨i, hi, e⟩ => HNE.out i hi e)).trans (HD.out j hj))
                  go_wp2
                  go_loopw [14, 15] (fun i _ wr => ∃ (r x : Nat), r ≤ q ∧ i = .int .i64 (r : Int) ∧ wr = w4.drewN x) (fun i _ _ => q - (intOf i).toNat)
                  case atStart => exact ⟨0, 0, Nat.zero_le _, rfl, rfl⟩
                  case round =>
                    obtain ⟨r, x, hr, rfl, rfl⟩ := hrel
                    by_cases hlt6 : r < q
                    · obtain ⟨gg, cg, eg, _, hrg⟩ := (HGQ.out.rows r hlt6).row (by rw [List.length_append, rowL_len, rowL_len]; omega)
                      rw [List.length_append, rowL_len, rowL_len] at eg
                      have hg := HGQ.out.cell hlt6
                      have hv := HHV5.out r hlt6
                      obtain ⟨pq, cq, hvq⟩ := HSH.out r hlt6
                      have HVO := Lib.hid (HGQ.out.vs r hlt6)
                      rw [eg] at hg
                      rw [hvq] at hv HVO
                      obtain ⟨m, hm⟩ : ∃ m, L r = m := ⟨_, rfl⟩
                      have hlq := HLL.out r hlt6
                      rw [hm] at hg hv HVO hrg hlq
                      have HRG := Lib.hid hrg
                      clear eg hvq hm hrg
                      go_wp2
                      go_loopw [15] (fun i wr => ∃ (t x : Nat), t ≤ m ∧ i = .int .i64 (t : Int) ∧ wr = w4.drewN x) (fun i _ => m - (intOf i).toNat)
                      case atStart => exact ⟨0, x, Nat.zero_le _, rfl, rfl⟩
                      case round =>
                        obtain ⟨t, x2, ht, rfl, rfl⟩ := hrel
                        by_cases h1 : t < m
                        · have d1 := HRG.out.cell (i := t) (by rw [List.length_append, rowL_len]; omega)
                          rw [List.getD_eq_getElem?_getD, List.getElem?_append_left (by rw [rowL_len]; exact h1), ← List.getD_eq_getElem?_getD, rowL_get _ h1] at d1
                          have HMB := Lib.hid (fun W => markByte_any W r t (by omega) (by omega))
                          obtain ⟨gv, cv, ev, _, hrv⟩ := HVO.out.row (by rw [rowL_len]; omega)
                          rw [rowL_len] at ev
                          simp only [Value.slice.injEq, true_and] at ev
                          obtain ⟨rfl, rfl⟩ := ev
                          have d2 := hrv.cell (i := t) (by rw [rowL_len]; exact h1)
                          rw [rowL_get _ h1] at d2
                          obtain ⟨y, hy⟩ : ∃ y, mkB r t = y := ⟨_, rfl⟩
                          rw [hy] at d1 d2 HMB
                          clear hrv hy
                          go_wp2_with fail
                          go_quiet ((go_at_call 46; exact q_add_same (HMB.out _)))
                          go_wp2
                          go_roundw
                          case rel => exact ⟨t + 1, _, by omega, by go_num, by first | rfl | rw [World.drewN_drewN]⟩
                          case measure => simp [intOf]; omega
                        · obtain rfl : t = m := by omega
                          go_wp2
                          go_roundw
                          case rel => exact ⟨r + 1, x2, by omega, by go_num, rfl⟩
                          case measure => simp [intOf]; omega
                    · obtain rfl : r = q := by omega
                      go_wp2
                      go_ret
                      exact ⟨rfl, HGQ.out.kept.drewN x⟩

end Go.Proofs.YtanjchpkekehgaaGreat
