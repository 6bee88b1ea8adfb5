/-
  GpP: Layer 17: what the law's loop keeps; which layers come of the bodies of layers (plain).
  GpQ: GroupPrefix: the walk.
-/
import Derived.Test.YtojbbmfndlcgkaaGreatMxbz
import Derived.Test.YtojbbmfndlcgkaaGreatMxbv
import Derived.Test.YtojbbmfndlcgkaaGreatMxbw
import Derived.Test.YtojbbmfndlcgkaaGreatMxav
import Derived.Test.YtojbbmfndlcgkaaGreatMxbt
namespace Go.Proofs.YtojbbmfndlcgkaaGreat

section -- GpP
open Go.RowKit Go.Maps
set_option linter.unusedVariables false
set_option linter.unusedSimpArgs false
set_option maxRecDepth 100000
set_option maxHeartbeats 4000000

/-- Which came: bools in a block. -/
def CameB (W : World) (b all : Nat) (f : Nat → Bool) : Prop := ∃ C : Array Value, W.heap[b]? = some (.cells C 4 (0, 0)) ∧ C.size = all ∧ ∀ a, a < all → C[a]? = some (.bool (f a))
section
variable {W W' : World} {b all : Nat} {f : Nat → Bool}
theorem CameB.cell (h : CameB W b all f) {a : Nat} (ha : a < all) : W.cell? ⟨b, a, none⟩ = some (.bool (f a)) := by
  obtain ⟨C, h1, h2, h3⟩ := h
  rw [cell_of h1, h3 a ha]
theorem CameB.fz (h : CameB W b all f) (o : Nat) : W.frozen? ⟨b, o, none⟩ = false := by
  obtain ⟨C, h1, _⟩ := h
  exact fz_of h1 o
theorem CameB.lt (h : CameB W b all f) : b < W.heap.size := by
  obtain ⟨C, h1, _⟩ := h
  exact (Array.getElem?_eq_some_iff.1 h1).1
theorem CameB.kept {S : Nat → Prop} (h : CameB W b all f) (hk : Kept S W W') (hS : ¬ S b) : CameB W' b all f := by
  obtain ⟨C, h1, h2⟩ := h
  exact ⟨C, (hk.block b (Array.getElem?_eq_some_iff.1 h1).1 hS).trans h1, h2⟩
theorem CameB.set (h : CameB W b all f) {a : Nat} (ha : a < all) : CameB (W.setCell ⟨b, a, none⟩ (.bool true)) b all (fun x => x == a || f x) := by
  obtain ⟨C, h1, h2, h3⟩ := h
  refine ⟨_, heap_set h1 _, by simpa using h2, fun j hj => ?_⟩
  rw [Array.getElem?_setIfInBounds]
  by_cases e : a = j
  · subst e
    rw [if_pos rfl, if_pos (by omega)]
    simp
  · rw [if_neg e, h3 j hj]
    have : (j == a) = false := by simp; omega
    simp [this]
theorem CameB.made (w : World) (all : Nat) : CameB (w.alloc (.cells (Array.replicate all (.bool false)) 4)) w.heap.size all (fun _ => false) :=
  ⟨_, heap_alloc_new w _, by simp, fun a ha => by simp [ha]⟩
/-- A row of bytes is no row of bools. -/
theorem Own.notB {base : Nat} {v : Value} {l : List B} (h : Own W base v l) (hc : CameB W b all f) : v.ownBlock ≠ some b := fun e => by
  obtain ⟨C, h1, _⟩ := hc
  rcases h.2 with ⟨rfl, _⟩ | ⟨g, cap, cur, rfl, _, h2, _⟩
  · cases e
  · obtain rfl : g = b := by simpa [Value.ownBlock] using e
    rw [h1] at h2
    injection h2 with h2
    injection h2 with _ h3 _
    revert h3
    decide
end

section
variable {w w' : World} {base b bm : Nat} {H : HeadV} {vr : Value} {hs : List (Int × List B)} {V : Int → Value}
theorem GrpAt.keptS {S : Nat → Prop} (h : GrpAt w base b bm H vr hs V) (hk : Kept S w w') (h1 : ¬ S b) (h2 : ¬ S bm) (h3 : ∀ k, vr.ownBlock = some k → ¬ S k) (h4 : ∀ p ∈ hs, ∀ k, (V p.1).ownBlock = some k → ¬ S k) : GrpAt w' base b bm H vr hs V :=
  ⟨(hk.block b h.lt h1).trans h.blk, h.ok, h.tab.keptB hk h3, h.map.kept hk h2, h.rises, h.rng, h.wide, fun p hp => (h.vals p hp).kept hk (h4 p hp), h.nb, h.nr, h.nv, h.lo⟩
end

/-- What the law's loop keeps: the header's box hb, the group (b, bm), the block cb of those that came. -/
structure GInv (w3 : World) (hb cb b bm N : Nat) (T : List (Int × Int)) (v vr : Value) (LL : List (List B)) (t : Nat) (hs : List (Int × List B)) (V : Int → Value) (k0 : Int) (f : Nat → Bool) (W : World) : Prop where
  box : HeadBox W hb ⟨7, 1, k0, (N : Int), 5, T⟩ v
  grp : GrpAt W (hb + 1) b bm ⟨7, 1, 0, (N : Int), 5, T⟩ vr hs V
  came : CameB W cb N f
  src : ∀ p ∈ hs, p.2 = LL.getD p.1.toNat []
  len : hs.length ≤ t
  below : Below w3.heap.size w3 W
  hhb : hb = w3.heap.size
  hcb : hb < cb ∧ b < cb ∧ bm < cb ∧ (∀ k, vr.ownBlock = some k → k < cb)
section
variable {w3 W W' : World} {hb cb b bm N : Nat} {T : List (Int × Int)} {v vr : Value} {LL : List (List B)} {t : Nat} {hs : List (Int × List B)} {V V' : Int → Value} {k0 : Int} {f : Nat → Bool}
theorem GInv.size (h : GInv w3 hb cb b bm N T v vr LL t hs V k0 f W) : cb < W.heap.size := h.came.lt
theorem GInv.index (h : GInv w3 hb cb b bm N T v vr LL t hs V k0 f W) (k1 : Int) : GInv w3 hb cb b bm N T v vr LL t hs V k1 f (W.setCell ⟨hb, 2, none⟩ (.int .i64 k1)) := by
  have hk := Kept.set1 W hb 2 (.int .i64 k1)
  have hlo := h.grp.lo
  refine ⟨heap_set h.box _, h.grp.keptS hk (by omega) (by omega) (fun k e => by have := hlo.2.2 k e; omega) (fun p hp k e => by have := ((h.grp.vals p hp).blk k e).1; omega), h.came.kept hk (by have := h.hcb; omega), h.src, h.len, h.below.trans (hk.toBelow h.below.size (fun i e => by have := h.hhb; omega)), h.hhb, h.hcb⟩
/-- What a Take leaves. -/
theorem GInv.took (h : GInv w3 hb cb b bm N T v vr LL t hs V k0 f W) (hk : Kept (fun k => k = bm) W W') {hs' : List (Int × List B)} (hG : GrpAt W' (hb + 1) b bm ⟨7, 1, 0, (N : Int), 5, T⟩ vr hs' V') (hsrc : ∀ p ∈ hs', p.2 = LL.getD p.1.toNat []) {t' : Nat} (hl : hs'.length ≤ t') : GInv w3 hb cb b bm N T v vr LL t' hs' V' k0 f W' := by
  have hlo := h.grp.lo
  exact ⟨(hk.block hb h.box.lt (by omega)).trans h.box, hG, h.came.kept hk (by have := h.hcb; omega), hsrc, hl, h.below.trans (hk.toBelow h.below.size (fun i e => by have := h.hhb; omega)), h.hhb, h.hcb⟩
theorem GInv.mark (h : GInv w3 hb cb b bm N T v vr LL t hs V k0 f W) {a : Nat} (ha : a < N) : GInv w3 hb cb b bm N T v vr LL t hs V k0 (fun x => x == a || f x) (W.setCell ⟨cb, a, none⟩ (.bool true)) := by
  have hk := Kept.set1 W cb a (.bool true)
  have hc := h.hcb
  refine ⟨(hk.block hb h.box.lt (by omega)).trans h.box, h.grp.keptS hk (by omega) (by omega) (fun k e => by have := hc.2.2.2 k e; omega) (fun p hp k e => fun e2 => (h.grp.vals p hp).notB h.came (by rw [e, e2])), h.came.set ha, h.src, h.len, h.below.trans (hk.toBelow h.below.size (fun i e => by have := h.hhb; omega)), h.hhb, h.hcb⟩
theorem GInv.weaken (h : GInv w3 hb cb b bm N T v vr LL t hs V k0 f W) {t' : Nat} (ht : t ≤ t') : GInv w3 hb cb b bm N T v vr LL t' hs V k0 f W :=
  ⟨h.box, h.grp, h.came, h.src, Nat.le_trans h.len ht, h.below, h.hhb, h.hcb⟩
theorem GInv.drewN (h : GInv w3 hb cb b bm N T v vr LL t hs V k0 f W) (hB : Below W.heap.size W W') : GInv w3 hb cb b bm N T v vr LL t hs V k0 f W' :=
  ⟨h.box.below hB, h.grp.below hB, h.came.kept (Kept.below hB) (fun h => h), h.src, h.len, below_more h.below hB h.below.size, h.hhb, h.hcb⟩
end

/-- Held bodies of layers, each where its index says. -/
theorem src_hsOf {LL : List (List B)} : ∀ {hs : List (Int × List B)}, (∀ p ∈ hs, p.2 = LL.getD p.1.toNat []) → (∀ p ∈ hs, 0 ≤ p.1) → hs = hsOf LL (hs.map fun p => p.1.toNat)
  | [], _, _ => rfl
  | (k, x) :: r, h1, h2 => by
    have e1 := h1 (k, x) (by simp)
    have e2 := h2 (k, x) (by simp)
    have ih := src_hsOf (hs := r) (fun p hp => h1 p (by simp [hp])) (fun p hp => h2 p (by simp [hp]))
    dsimp only at e1 e2
    have hk : ((k.toNat : Nat) : Int) = k := by omega
    conv => lhs; rw [ih]
    simp only [hsOf, List.map_cons, hk]
    rw [← e1]
theorem src_ins {LL : List (List B)} {hs : List (Int × List B)} {k : Nat} (h : ∀ p ∈ hs, p.2 = LL.getD p.1.toNat []) : ∀ p ∈ insH (k : Int) (LL.getD k []) hs, p.2 = LL.getD p.1.toNat [] := fun p hp => by
  rcases insH_mem.1 hp with rfl | hp
  · rfl
  · exact h p hp
theorem ins_idx {hs : List (Int × List B)} {k : Int} {x : List B} {j : Int} : j ∈ (insH k x hs).map (·.1) ↔ j = k ∨ j ∈ hs.map (·.1) := by
  simp only [List.mem_map]
  constructor
  · rintro ⟨p, hp, rfl⟩
    rcases insH_mem.1 hp with rfl | hp
    · exact .inl rfl
    · exact .inr ⟨p, hp, rfl⟩
  · rintro (rfl | ⟨p, hp, rfl⟩)
    · exact ⟨_, insH_mem.2 (.inl rfl), rfl⟩
    · exact ⟨p, insH_mem.2 (.inr hp), rfl⟩
/-- The layers of what came: the first ones. -/
theorem layers_first {N : Nat} {ls : List (List B)} {ks : List Int} {hs : List (Int × List B)} (hl : ls.length = ks.length) (ht : TableOk N (tabL ls ks)) (hsrc : ∀ p ∈ hs, p.2 = (bodiesL N ls ks ks.length).getD p.1.toNat []) (hrng : ∀ p ∈ hs, 0 ≤ p.1 ∧ p.1 < N) (hr : Rises hs) :
    layersL (tabL ls ks) hs (readyT (tabL ls ks) (hs.length : Int)) = ls.take (readyT (tabL ls ks) (hs.length : Int)) := by
  have e := src_hsOf hsrc (fun p hp => (hrng p hp).1)
  obtain ⟨xs, hxs⟩ : ∃ x, (hs.map fun p => p.1.toNat) = x := ⟨_, rfl⟩
  have hlen : hs.length = xs.length := by rw [← hxs]; simp
  have hle := readyT_le (tabL ls ks) (hs.length : Int)
  rw [tabL_len] at hle
  have hx : xs.Nodup := by
    rw [← hxs]
    refine List.pairwise_map.2 (List.Pairwise.imp_of_mem (R := fun (a b : Int × List B) => a.1 < b.1) ?_ hr)
    intro a b ha hb hab e
    have := hrng a ha
    have := hrng b hb
    omega
  have hxr : ∀ x ∈ xs, x < N := fun x hx => by
    rw [← hxs] at hx
    obtain ⟨p, hp, rfl⟩ := List.mem_map.1 hx
    have := hrng p hp
    omega
  rw [hxs] at e
  apply List.ext_getElem
  · simp [layersL]; omega
  · intro i h1 h2
    have hi : i < readyT (tabL ls ks) (hs.length : Int) := by simpa [layersL] using h1
    have hik : i < ks.length := by omega
    have hrd := readyT_lt hi
    rw [tabL_get hik, hlen] at hrd
    simp only [layersL, List.getElem_map, List.getElem_range, List.getElem_take]
    conv => lhs; rw [e]
    rw [layer_is ht hik hx hxr hrd]
    simp [List.getD_eq_getElem?_getD, show i < ls.length by omega]
end -- GpP

section -- GpQ
open Go.RowKit Go.Maps
set_option linter.unusedVariables false
set_option linter.unusedSimpArgs false
set_option maxRecDepth 100000
set_option maxHeartbeats 4000000

theorem infoB17 : (Tryz.prog.info? 4).map (fun i => (i.zero, i.size, i.bytes)) = some (some (.bool false), 1, 1) := by kernel_rfl
theorem RowsAt.takeR {w : World} {p : Option Addr} {n c m : Nat} {l : List (List B)} (h : RowsAt w (.slice p n c) l) (hm : m ≤ l.length) : RowsAt w (.slice p m c) (l.take m) := by
  obtain ⟨p', c', e, hc⟩ := h
  simp only [Value.slice.injEq] at e
  obtain ⟨rfl, rfl, rfl⟩ := e
  refine ⟨_, _, by rw [List.length_take, Nat.min_eq_left hm], fun h0 => ?_⟩
  rw [List.length_take, Nat.min_eq_left hm] at h0 ⊢
  obtain ⟨g, off, rfl, hcc⟩ := hc (by omega)
  refine ⟨g, off, rfl, fun i hi => ?_⟩
  obtain ⟨u, h1, h2⟩ := hcc i (by omega)
  refine ⟨u, h1, ?_⟩
  have : (l.take m).getD i [] = l.getD i [] := by simp [List.getD_eq_getElem?_getD, List.getElem?_take, hi]
  rw [this]
  exact h2
theorem gnew_any (w : World) (h : HeadV) (v : Value) (hv : TableAt w v h.rows) :
    Calls Tryz.prog 8 #[headVal h v] w fun e w' => ∃ p e', e = .returned (.tuple #[.pointer p, .int .i64 e']) ∧ Below w.heap.size w w' := by
  by_cases hd : HeadOk h
  · exact (gnew_ok w h v hv hd).mono fun e w' ⟨b, bm, vr, h1, _, h3⟩ => ⟨_, _, h1, h3⟩
  · exact (gnew_bad w h v hv hd).mono fun e w' ⟨h1, h3⟩ => ⟨_, _, h1, h3⟩

theorem balD1 (w : World) : Below w.heap.size w w.drew := (Kept.refl (fun _ => False) w).drew.toBelow (Nat.le_refl _) (fun _ h => h.elim)
theorem gprefix_any (w : World) (n : Int) (pl : Option Addr) (ml cl : Nat) (vk vw : Value) (ls : List (List B)) (ks ws : List Int) (hl : RowsAt w (.slice pl ml cl) ls) (hk : IntsAt w vk ks) (hw : IntsAt w vw ws) (hcap : ml ≤ cl) (hll : ls.length ≤ 140737488355328) (hlr : ∀ i, i < ls.length → (ls.getD i []).length ≤ 140737488355328) (hkl : ks.length ≤ 140737488355328) :
    Calls Tryz.prog 3 #[.int .i64 n, .slice pl ml cl, vk, vw] w fun e w' => e = .returned (.bool true) ∧ Below w.heap.size w w' := by
  have HL := Lib.hid hl
  have HK := Lib.hid hk
  have HW := Lib.hid hw
  have HLR := Lib.hid hlr
  clear hl hk hw hlr
  obtain ⟨pk, ck, hv, hkc, hkh⟩ := HK.out
  subst hv
  obtain ⟨pw, cw, hv, hwc, hwh⟩ := HW.out
  subst hv
  have HKH := Lib.hid hkh
  have HWH := Lib.hid hwh
  obtain ⟨M, hM⟩ : ∃ M, ks.length = M := ⟨_, rfl⟩
  have HM := Lib.hid hM
  rw [hM] at HKH hkl hkc ⊢
  obtain ⟨X, hX⟩ : ∃ X, ws.length = X := ⟨_, rfl⟩
  rw [hX] at HWH hwc ⊢
  clear hkh hwh hM hX
  go_enter Tryz.func3, Tryz.ntmps3
  go_wp2_with fail
  refine (gawake_any w).mono ?_
  rintro e w1 ⟨rfl, hB1⟩
  have HB1 := Lib.hid hB1
  have HL1 := Lib.hid (HL.out.below hB1)
  have HK1 := Lib.hid (HK.out.below hB1)
  rw [HM.out] at HK1
  clear hB1
  go_wp2_with fail
  refine (size_any _ _ ls (by exact HL1.out) hll HLR.out).mono ?_
  rintro e w2' ⟨y, rfl, hy, hyb, rfl⟩
  have HY := Lib.hid hy
  clear hy
  by_cases hy : (2500 : Int) < (y : Int)
  · go_wp2
    go_ret
    exact ⟨rfl, HB1.out⟩
  by_cases hm9 : (9 : Int) < (M : Int)
  · go_wp2
    go_ret
    exact ⟨rfl, HB1.out⟩
  by_cases hn60 : (60 : Int) < n
  · go_wp2
    go_ret
    exact ⟨rfl, HB1.out⟩
  by_cases hx : (120 : Int) < (X : Int)
  · go_wp2
    go_ret
    exact ⟨rfl, HB1.out⟩
  obtain ⟨hls, hlw⟩ := HY.out (by omega)
  have HLW := Lib.hid hlw
  have hM9 : M ≤ 9 := by omega
  have hX3 : X ≤ 120 := by omega
  clear hlw
  go_wp2_with fail
  refine (bodies_any _ n _ _ ls ks HL1.out HK1.out (by rw [HM.out]; omega) (fun i hi => by have := HLW.out i hi; omega)).mono ?_
  rintro e w2 ⟨vb, rfl, hok, hno, hB2⟩
  have HB2 := Lib.hid (below_more HB1.out hB2 HB1.out.size)
  have HL2 := Lib.hid (HL1.out.below hB2)
  have HK2 := Lib.hid (HK1.out.below hB2)
  have HOK := Lib.hid hok
  clear hB2 hok hno
  go_wp2_with fail
  refine (header_any w2 n _ _ ls ks HL2.out HK2.out (by rw [HM.out]; omega)).mono ?_
  rintro e w3 ⟨v, rfl, hv3, hB3⟩
  have HV3 := Lib.hid hv3
  have HB23 := Lib.hid hB3
  have HB3 := Lib.hid (below_more HB2.out hB3 HB2.out.size)
  clear hv3 hB3
  obtain ⟨pv, rv, cv, rfl⟩ : ∃ p r c, v = .slice p r c := by
    obtain ⟨p, c, h⟩ := HV3.out.shape
    exact ⟨p, _, c, h⟩
  have HBX := Lib.hid (HeadBox.new w3 ⟨7, 1, 0, n, 5, tabL ls (ks.take ls.length)⟩ (.slice pv rv cv))
  have HBA4 := Lib.hid (balI w3 (.cells #[.int .i64 7, .int .i64 1, .int .i64 0, .int .i64 n, .int .i64 5, .slice pv rv cv] 31))
  have HS4 := Lib.hid (show (w3.alloc (.cells #[.int .i64 7, .int .i64 1, .int .i64 0, .int .i64 n, .int .i64 5, .slice pv rv cv] 31)).heap.size = w3.heap.size + 1 from by simp)
  have HV4 := Lib.hid (HV3.out.below HBA4.out)
  dsimp only at HBX
  have y0 := HBX.out.c0
  have y1 := HBX.out.c1
  have y2 := HBX.out.c2
  have y3 := HBX.out.c3
  have y4 := HBX.out.c4
  have y5 := HBX.out.c5
  dsimp only at y0 y1 y2 y3 y4
  go_wp2_with fail
  clear y0 y1 y2 y3 y4 y5
  generalize (w3.alloc (.cells #[.int .i64 7, .int .i64 1, .int .i64 0, .int .i64 n, .int .i64 5, .slice pv rv cv] 31)) = w4 at *
  have HB4 := Lib.hid (below_more HB3.out HBA4.out HB3.out.size)
  by_cases he : bodE n ls ks = 0
  rotate_left
  · have he2 : bodE n ls ks = 2 := by unfold bodE at he ⊢; split at he <;> simp_all
    refine (gnew_any w4 ⟨7, 1, 0, n, 5, tabL ls (ks.take ls.length)⟩ (.slice pv rv cv) HV4.out).mono ?_
    rintro e w5 ⟨p5, e5, rfl, hB5⟩
    have HB5 := Lib.hid (below_more HB4.out hB5 HB4.out.size)
    rw [he2]
    clear he he2 hB5
    go_wp2
    go_ret
    exact ⟨rfl, HB5.out⟩
  have hok' := HOK.out he
  have htb : ls.length = ks.length ∧ TableOk n (tabL ls ks) := by
    unfold bodE at he
    split at he
    · assumption
    · omega
  rw [he]
  clear HOK he
  obtain ⟨hlk, htab⟩ := htb
  have HLK := Lib.hid hlk
  have hks : ks.take ls.length = ks := by rw [hlk]; exact List.take_of_length_le (Nat.le_refl _)
  rw [hks] at HV3 HV4 HBX ⊢
  rw [HM.out] at hok' hlk
  obtain ⟨N, rfl⟩ : ∃ N : Nat, n = (N : Int) := ⟨n.toNat, by have := htab.1; omega⟩
  have hN1 : 1 ≤ N := by have := htab.1; omega
  have hN2 : N ≤ 60 := by omega
  have HTAB := Lib.hid htab
  have HTLEN := Lib.hid (show (tabL ls ks).length = M by rw [tabL_len, HM.out])
  have hM8 : M ≤ 8 := by have := htab.2.2.2.1; rw [HTLEN.out] at this; exact this
  have hM1 : 1 ≤ M := by have := htab.2.2.1; rw [HTLEN.out] at this; exact this
  rw [show (N : Int).toNat = N from Int.toNat_natCast N] at hok'
  have HLO := Lib.hid hok'
  have hrw := hok'.rows
  obtain ⟨LL, hLL⟩ : ∃ x, bodiesL N ls ks M = x := ⟨_, rfl⟩
  rw [hLL] at HLO hrw
  have HLLN := Lib.hid (show LL.length = N by rw [← hLL, bodiesL_len])
  have HLLG := Lib.hid (show ∀ i, i < N → LL.getD i [] = bodyL N ls ks i M from fun i hi => by rw [← hLL, bodiesL_get hi])
  have HLLW := Lib.hid (show ∀ i, i < N → (LL.getD i []).length = atT (tabL ls ks) (tabL ls ks).length from fun i hi => by rw [HLLG.out i hi, bodyL_length hi (by rw [HM.out]; exact Nat.le_refl _), HTLEN.out])
  have HLLE := Lib.hid hLL
  clear hok' htab hLL
  obtain ⟨pb, cb0, rfl, hbh⟩ := hrw
  rw [HLLN.out] at hbh HLO ⊢
  obtain ⟨gb, ob, rfl, hbc⟩ := hbh (by omega)
  have HBC := Lib.hid hbc
  have HLD := Lib.hid HLO.out.lt
  have HHD := Lib.hid (show ∀ k : Nat, k < N → HeadOk ⟨7, 1, (k : Int), (N : Int), 5, tabL ls ks⟩ from fun k hk => ⟨HTAB.out, (by dsimp only; omega), (by dsimp only; omega), (by dsimp only; omega), (by dsimp only; omega), (by dsimp only; omega), (by dsimp only; omega), (by dsimp only; omega), (by dsimp only; omega)⟩)
  clear hbh hbc
  refine (gnew_ok w4 ⟨7, 1, 0, (N : Int), 5, tabL ls ks⟩ (.slice pv rv cv) HV4.out (HHD.out 0 (by omega))).mono ?_
  rintro e w5 ⟨b, bm, vr, rfl, hG, hB5⟩
  have HG5 := Lib.hid hG
  have HB45 := Lib.hid hB5
  have HB5 := Lib.hid (below_more HB4.out hB5 HB4.out.size)
  have hmk := run_make_one (w := w5) 36 4 (.bool false) 1 Tryz.underlying36 infoB17 rfl (by omega) N (by omega)
  have HS := Lib.hid (show GInv w3 w3.heap.size w5.heap.size b bm N (tabL ls ks) (.slice pv rv cv) vr LL 0 [] (fun _ => undef) 0 (fun _ => false) (w5.alloc (.cells (Array.replicate N (.bool false)) 4)) from by
    have hA := balI w5 (.cells (Array.replicate N (.bool false)) 4)
    have hs4 := HS4.out
    have hs45 := HB45.out.size
    refine ⟨(HBX.out.below HB45.out).below hA, ?_, CameB.made w5 N, fun p hp => by simp at hp, Nat.le_refl _, ?_, rfl, ?_, ?_, ?_, ?_⟩
    · rw [← hs4]
      exact hG.below hA
    · exact below_more (below_more HBA4.out HB45.out HBA4.out.size) hA (by omega)
    · omega
    · exact hG.lt
    · exact hG.map.lt
    · intro k hk
      obtain ⟨p, c, e1, _, e2⟩ := hG.tab
      obtain ⟨g, off, rfl, e3⟩ := e2 (by have := HTAB.out.2.2.1; exact this)
      have e4 := blt (e3 0 (by have := HTAB.out.2.2.1; exact this)).1
      rw [e1] at hk
      have : g = k := by simpa [Value.ownBlock] using hk
      subst this
      exact e4)
  clear hB5 hG
  go_wp2
  clear hmk
  generalize hcb : w5.heap.size = cb at *
  generalize (w5.alloc (.cells (Array.replicate N (.bool false)) 4)) = w6 at *
  go_loopw [15, 16, 17, 18] (fun vm vi _ _ wr => ∃ (t : Nat) (hs : List (Int × List B)) (V : Int → Value) (k0 : Int) (f : Nat → Bool), t ≤ X ∧ vi = .int .i64 (t : Int) ∧ vm = .int .i64 (hs.length : Int) ∧ (∀ k, k < N → (f k = true ↔ (k : Int) ∈ hs.map (·.1))) ∧ GInv w3 w3.heap.size cb b bm N (tabL ls ks) (.slice pv rv cv) vr LL t hs V k0 f wr) (fun _ i _ _ _ => X - (intOf i).toNat)
  case atStart => exact ⟨0, [], _, _, _, Nat.zero_le _, rfl, rfl, fun k hk => by simp, HS.out⟩
  case round =>
    obtain ⟨t, hs, V, k0, f, ht, rfl, rfl, hff, hgi⟩ := hrel
    have HGI := Lib.hid hgi
    have HFF := Lib.hid hff
    have hhl := hgi.len
    have hcbs := hgi.size
    have hhc := hgi.hcb.1
    clear hgi hff
    obtain ⟨H, hH⟩ : ∃ x, hs.length = x := ⟨_, rfl⟩
    have HH := Lib.hid hH
    rw [hH] at hhl ⊢
    clear hH
    by_cases hlt : t < X
    · obtain ⟨gw, ow, rfl, hwd⟩ := HWH.out (by omega)
      have z1 := hwd t hlt
      have z2 := ((below_more HB3.out HGI.out.below HB3.out.size).cell (p := ⟨gw, ow + t, none⟩) (blt z1)).trans z1
      obtain ⟨x, hx⟩ : ∃ x, ws.getD t 0 = x := ⟨_, rfl⟩
      rw [hx] at z2
      clear hwd z1 hx
      have y2 := HGI.out.box.c2
      have q2 : wr.frozen? ⟨w3.heap.size, 2, none⟩ = false := fz_of HGI.out.box 2
      dsimp only at y2
      go_wp2_with fail
      refine (pick_any _ x N (by omega) (by omega)).mono ?_
      rintro e w7 ⟨⟨a, rfl, ha⟩, rfl⟩
      have HGX := Lib.hid (HGI.out.index (a : Int))
      go_wp2_with fail
      clear y2 q2 z2
      generalize (wr.setCell ⟨w3.heap.size, 2, none⟩ (.int .i64 (a : Int))) = wx at *
      have y0 := HGX.out.box.c0
      have y1 := HGX.out.box.c1
      have y2 := HGX.out.box.c2
      have y3 := HGX.out.box.c3
      have y4 := HGX.out.box.c4
      have y5 := HGX.out.box.c5
      dsimp only at y0 y1 y2 y3 y4
      obtain ⟨u, x1, x2⟩ := HBC.out a ha
      have HX2 := Lib.hid ((x2.below HB23.out).below HGX.out.below)
      obtain ⟨pu, cu, rfl⟩ := x2.shape
      have HLU := Lib.hid (HLLW.out a ha)
      rw [HLLW.out a ha] at x1
      have x3 := ((below_more HB23.out HGX.out.below HB23.out.size).cell (p := ⟨gb, ob + a, none⟩) (blt x1)).trans x1
      have HTK := Lib.hid (gtake_any (HGX.out.grp.below (balD1 wx)) (by have := HGX.out.size; have := HGX.out.hcb.1; show _ ≤ wx.heap.size; omega) ⟨7, 1, (a : Int), (N : Int), 5, tabL ls ks⟩ (.slice pv rv cv) _ (LL.getD a []) ((HV3.out.below HGX.out.below).below (balD1 wx)) (HX2.out.below (balD1 wx)) (HHD.out a ha) ⟨rfl, rfl, rfl, rfl, rfl⟩ HLU.out (by rw [HH.out]; omega))
      have hLL : (LL.getD a []).length = atT (tabL ls ks) (tabL ls ks).length := HLU.out
      rw [hLL] at HTK
      obtain ⟨long, hlong⟩ : ∃ x, atT (tabL ls ks) (tabL ls ks).length = x := ⟨_, rfl⟩
      rw [hlong] at x3 HTK
      clear x1 x2 hLL hlong
      go_wp2_with fail
      refine wp_still_tail 6 (by kernel_rfl) (by kernel_rfl) ?_
      simp only [List.take_succ_cons, List.take_zero, List.drop_succ_cons, List.drop_zero]
      repeat still_step
      refine wpStill_nil ?_
      clear y0 y1 y2 y3 y4 y5 x3
      by_cases hin : (a : Int) ∈ hs.map (·.1)
      · rw [if_pos hin, if_pos hin] at HTK
        go_wp2_with (go_at_call 10; refine HTK.out.mono ?_; rintro e w8 ⟨V', rfl, hG8, hK8⟩; have HG8 := Lib.hid ((HGX.out.drewN (balD1 wx)).took hK8 hG8 HGX.out.src (Nat.le_succ_of_le HGX.out.len)); have c1 := HG8.out.came.cell ha; have cf := HG8.out.came.fz a; rw [(HFF.out a ha).2 hin] at c1; clear hG8 hK8)
        go_roundw
        case rel => exact ⟨t + 1, hs, V', (a : Int), fun x => x == a || f x, by omega, by go_num, by rw [HH.out], fun k hk => by
          rw [Bool.or_eq_true, HFF.out k hk]
          constructor
          · rintro (e | e)
            · rw [eq_of_beq e]
              exact hin
            · exact e
          · exact .inr, HG8.out.mark ha⟩
        case measure => simp [intOf]; omega
      · rw [if_neg hin, if_neg hin] at HTK
        go_wp2_with (go_at_call 10; refine HTK.out.mono ?_; rintro e w8 ⟨V', rfl, hG8, hK8⟩; have HG8 := Lib.hid ((HGX.out.drewN (balD1 wx)).took hK8 hG8 (src_ins HGX.out.src) (by rw [insH_len]; exact Nat.succ_le_succ HGX.out.len)); have c1 := HG8.out.came.cell ha; have cf := HG8.out.came.fz a; rw [show f a = false from by
            cases hfa : f a with
            | false => rfl
            | true => exact absurd ((HFF.out a ha).1 hfa) hin] at c1; clear hG8 hK8)
        go_roundw
        case rel => exact ⟨t + 1, insH (a : Int) (LL.getD a []) hs, V', (a : Int), fun x => x == a || f x, by omega, by go_num, by rw [insH_len, HH.out]; go_num, fun k hk => by
          rw [Bool.or_eq_true, HFF.out k hk, ins_idx]
          constructor
          · rintro (e | e)
            · exact .inl (by rw [eq_of_beq e])
            · exact .inr e
          · rintro (e | e)
            · exact .inl (by simp; omega)
            · exact .inr e, HG8.out.mark ha⟩
        case measure => simp [intOf]; omega
    · obtain rfl : t = X := by omega
      have hlen := HH.out
      have HGR := Lib.hid HGI.out.grp
      have hrd := readyT_le (tabL ls ks) (H : Int)
      rw [HTLEN.out] at hrd
      obtain ⟨R, hR⟩ : ∃ x, readyT (tabL ls ks) (H : Int) = x := ⟨_, rfl⟩
      have HRR := Lib.hid hR
      rw [hR] at hrd
      have HIFF := Lib.hid (show ∀ i, i < M → (ks.getD i 0 ≤ (H : Int) ↔ i < R) from fun i hi => by
        have := readyT_iff HTAB.out.2.2.2.2 (H : Int) (i := i) (by rw [HTLEN.out]; exact hi)
        rw [tabL_get (by rw [HM.out]; exact hi), hR] at this
        exact this)
      have HBW := Lib.hid (below_more HB3.out HGI.out.below HB3.out.size)
      clear hR
      obtain ⟨gk, ok, rfl, hkc2⟩ := HKH.out (by omega)
      have HKC := Lib.hid hkc2
      clear hkc2
      obtain ⟨wy, hwy⟩ : ∃ x, x = wr := ⟨_, rfl⟩
      go_wp2_with fail
      go_loopw [19] (fun v wz => ∃ r : Nat, r ≤ R ∧ v = .int .i64 (r : Int) ∧ wy = wz) (fun v _ => M - (intOf v).toNat)
      case atStart => exact ⟨0, Nat.zero_le _, rfl, hwy⟩
      case round =>
        obtain ⟨r, hr, rfl, rfl⟩ := hrel
        by_cases hrR : r < R
        · have d0 := (HBW.out.cell (p := ⟨gk, ok + r, none⟩) (blt (HKC.out r (by omega)))).trans (HKC.out r (by omega))
          have hle := (HIFF.out r (by omega)).2 hrR
          obtain ⟨kk, hkk⟩ : ∃ x, ks.getD r 0 = x := ⟨_, rfl⟩
          rw [hkk] at d0 hle
          subst hwy
          clear hkk
          go_wp2
          go_roundw
          case rel => exact ⟨r + 1, by omega, by go_num, by first | rfl | trivial⟩
          case measure => simp [intOf]; omega
        · obtain rfl : r = R := by omega
          subst hwy
          obtain ⟨_, _, ev, hlx⟩ := HL.out
          obtain ⟨e1, -, e2⟩ := Value.slice.inj ev
          subst e1 e2
          obtain ⟨gl, ol, rfl, -⟩ := hlx (by omega)
          have hml : ml = M := by have := (Value.slice.inj ev).2.1; omega
          subst hml
          have HTR := Lib.hid (fun W (hB : Below wy.heap.size wy W) => (HL.out.takeR (m := r) (by omega)).below (below_more HBW.out hB HBW.out.size))
          have HDD := Lib.hid (balD1 wy)
          have HRD := Lib.hid (fun W (hB : Below wy.heap.size wy W) => show Calls Tryz.prog 12 #[.pointer (some ⟨b, 0, none⟩)] W fun e w' => e = .returned (.int .i64 ((r : Nat) : Int)) ∧ Below W.heap.size W w' from by
            have e1 : ((readyT (tabL ls ks) ((hs.length : Nat) : Int) : Nat) : Int) = (r : Int) := by rw [HH.out, HRR.out]
            exact (gready_any (HGR.out.below hB)).mono fun e w' ⟨h1, h2⟩ => ⟨h1.trans (congrArg (fun x => Ending.returned (Value.int .i64 x)) e1), h2⟩)
          have HCM := Lib.hid (fun W (hB : Below wy.heap.size wy W) => show Calls Tryz.prog 11 #[.pointer (some ⟨b, 0, none⟩)] W fun e w' => e = .returned (.int .i64 ((H : Nat) : Int)) ∧ W = w' from
            (gcame_any (HGR.out.below hB)).mono fun e w' ⟨h1, h2⟩ => ⟨h1.trans (congrArg (fun x : Nat => Ending.returned (Value.int .i64 (x : Int))) HH.out), h2⟩)
          have HLY := Lib.hid (fun W (hB : Below wy.heap.size wy W) => show Calls Tryz.prog 15 #[.pointer (some ⟨b, 0, none⟩)] W fun e w' => ∃ v, e = .returned v ∧ RowsCut w' W.heap.size v (ls.take r) ∧ Below W.heap.size W w' from by
            have e1 : layersL (tabL ls ks) hs (readyT (tabL ls ks) (hs.length : Int)) = ls.take r := by rw [layers_first HLK.out HTAB.out (fun p hp => by rw [HM.out, HLLE.out]; exact HGI.out.src p hp) (fun p hp => HGI.out.grp.rng p hp) HGI.out.grp.rises, HH.out, HRR.out]
            refine (glayers_any (HGR.out.below hB) (by rw [HH.out]; omega)).mono fun e w' ⟨v, h1, h2, h3⟩ => ⟨v, h1, ?_, h3⟩
            have h4 : RowsCut w' W.heap.size v (layersL (tabL ls ks) hs (readyT (tabL ls ks) (hs.length : Int))) := h2
            rw [e1] at h4
            exact h4)
          have hrc : (r : Int) ≤ (cl : Int) := by omega
          have hlw2 : ∀ i, i < (ls.take r).length → ((ls.take r).getD i []).length ≤ 1000000000000 := fun i hi => by
            have hi2 : i < r := by rw [List.length_take] at hi; omega
            have : (ls.take r).getD i [] = ls.getD i [] := by simp [List.getD_eq_getElem?_getD, List.getElem?_take, hi2]
            rw [this]
            have := HLW.out i (by omega)
            omega
          have HLW2 := Lib.hid hlw2
          clear hlw2 hlx ev
          by_cases hrM : r < ml
          · have hwo : decide (((tabL ls ks).getD ((tabL ls ks).length - 1) (0, 0)).1 ≤ (H : Int)) = false := by
              rw [HTLEN.out, tabL_get (by rw [HM.out]; omega)]
              have := HIFF.out (ml - 1) (by omega)
              simp only [decide_eq_false_iff_not]
              intro h
              have := this.1 h
              omega
            have HWL := Lib.hid (fun W (hB : Below wy.heap.size wy W) => show Calls Tryz.prog 13 #[.pointer (some ⟨b, 0, none⟩)] W fun e w' => e = .returned (.bool false) ∧ Below W.heap.size W w' from by
              have e1 : decide (((tabL ls ks).getD ((tabL ls ks).length - 1) (0, 0)).1 ≤ ((hs.length : Nat) : Int)) = false := by rw [HH.out]; exact hwo
              exact (gwhole_any (HGR.out.below hB) (by rw [HH.out]; omega)).mono fun e w' ⟨h1, h2⟩ => ⟨h1.trans (congrArg (fun x => Ending.returned (Value.bool x)) e1), h2⟩)
            have d0 := (HBW.out.cell (p := ⟨gk, ok + r, none⟩) (blt (HKC.out r (by omega)))).trans (HKC.out r (by omega))
            have hle : ¬ ks.getD r 0 ≤ (H : Int) := fun h => by have := (HIFF.out r (by omega)).1 h; omega
            have hrM2 : ¬ ((r : Int) = (ml : Int)) := by omega
            obtain ⟨kk, hkk⟩ : ∃ x, ks.getD r 0 = x := ⟨_, rfl⟩
            rw [hkk] at d0 hle
            clear hkk hwo
            go_wp2_with fail
            refine s_start 28 (fun W => Below wy.heap.size wy W) (by as_aux_lemma => kernel_rfl) (by as_aux_lemma => kernel_rfl) HDD.out ?_
            refine s_take 0 (by as_aux_lemma => kernel_rfl) (by as_aux_lemma => kernel_rfl) (by as_aux_lemma => kernel_rfl) (by as_aux_lemma => kernel_rfl) HDD.out (fun oi ho => ?_)
            simp only [List.getElem?_toArray, List.getElem?_cons_succ, List.getElem?_cons_zero, Option.some.injEq] at ho
            subst ho
            refine ⟨?_, Or.inl ⟨by rfl, fun w _ => ?_⟩, ?_⟩
            rotate_left
            · (go_simp <;> with_reducible rfl)
            try simp only [Act.put, List.setIfInBounds_toArray, List.set_cons_zero, List.set_cons_succ]
            refine s_take 2 (by as_aux_lemma => kernel_rfl) (by as_aux_lemma => kernel_rfl) (by as_aux_lemma => kernel_rfl) (by as_aux_lemma => kernel_rfl) HDD.out (fun oi ho => ?_)
            simp only [List.getElem?_toArray, List.getElem?_cons_succ, List.getElem?_cons_zero, Option.some.injEq] at ho
            subst ho
            refine ⟨?_, Or.inl ⟨by rfl, fun w _ => ?_⟩, ?_⟩
            rotate_left
            · (go_simp <;> with_reducible rfl)
            try simp only [Act.put, List.setIfInBounds_toArray, List.set_cons_zero, List.set_cons_succ]
            refine s_all (rs := [1]) (by as_aux_lemma => kernel_rfl) (by simp) ?_
            refine s_step 1 (by as_aux_lemma => kernel_rfl) (fun o ho K hK => ?_) AllReadyH.nil
            simp only [List.getElem?_toArray, List.getElem?_cons_succ, List.getElem?_cons_zero, Option.some.injEq] at ho
            subst ho
            go_simp
            refine (HCM.out _ HDD.out).mono ?_
            rintro e wc ⟨rfl, rfl⟩
            go_wp2_with fail
            refine hK.out _ _ HDD.out ?_
            clear hK K
            try simp only [Act.put, List.setIfInBounds_toArray, List.set_cons_zero, List.set_cons_succ]
            refine s_take 3 (by as_aux_lemma => kernel_rfl) (by as_aux_lemma => kernel_rfl) (by as_aux_lemma => kernel_rfl) (by as_aux_lemma => kernel_rfl) HDD.out (fun oi ho => ?_)
            simp only [List.getElem?_toArray, List.getElem?_cons_succ, List.getElem?_cons_zero, Option.some.injEq] at ho
            subst ho
            refine ⟨?_, Or.inl ⟨by rfl, fun w _ => ?_⟩, ?_⟩
            rotate_left
            · (go_simp <;> with_reducible rfl)
            try simp only [Act.put, List.setIfInBounds_toArray, List.set_cons_zero, List.set_cons_succ]
            refine s_take 4 (by as_aux_lemma => kernel_rfl) (by as_aux_lemma => kernel_rfl) (by as_aux_lemma => kernel_rfl) (by as_aux_lemma => kernel_rfl) HDD.out (fun oi ho => ?_)
            simp only [List.getElem?_toArray, List.getElem?_cons_succ, List.getElem?_cons_zero, Option.some.injEq] at ho
            subst ho
            refine ⟨?_, Or.inl ⟨by rfl, fun w _ => ?_⟩, ?_⟩
            rotate_left
            · (go_simp <;> with_reducible rfl)
            try simp only [Act.put, List.setIfInBounds_toArray, List.set_cons_zero, List.set_cons_succ]
            refine s_take 5 (by as_aux_lemma => kernel_rfl) (by as_aux_lemma => kernel_rfl) (by as_aux_lemma => kernel_rfl) (by as_aux_lemma => kernel_rfl) HDD.out (fun oi ho => ?_)
            simp only [List.getElem?_toArray, List.getElem?_cons_succ, List.getElem?_cons_zero, Option.some.injEq] at ho
            subst ho
            refine ⟨?_, Or.inl ⟨by rfl, fun w _ => ?_⟩, ?_⟩
            rotate_left
            · (go_simp <;> with_reducible rfl)
            try simp only [Act.put, List.setIfInBounds_toArray, List.set_cons_zero, List.set_cons_succ]
            refine s_take 7 (by as_aux_lemma => kernel_rfl) (by as_aux_lemma => kernel_rfl) (by as_aux_lemma => kernel_rfl) (by as_aux_lemma => kernel_rfl) HDD.out (fun oi ho => ?_)
            simp only [List.getElem?_toArray, List.getElem?_cons_succ, List.getElem?_cons_zero, Option.some.injEq] at ho
            subst ho
            refine ⟨?_, Or.inl ⟨by rfl, fun w _ => ?_⟩, ?_⟩
            rotate_left
            · (go_simp <;> with_reducible rfl)
            try simp only [Act.put, List.setIfInBounds_toArray, List.set_cons_zero, List.set_cons_succ]
            refine s_all (rs := [6]) (by as_aux_lemma => kernel_rfl) (by simp) ?_
            refine s_step 6 (by as_aux_lemma => kernel_rfl) (fun o ho K hK => ?_) AllReadyH.nil
            simp only [List.getElem?_toArray, List.getElem?_cons_succ, List.getElem?_cons_zero, Option.some.injEq] at ho
            subst ho
            go_simp
            refine (HRD.out _ HDD.out).mono ?_
            rintro e w9 ⟨rfl, hB9⟩
            have HB9 := Lib.hid (below_more HDD.out hB9 HDD.out.size)
            clear hB9
            go_wp2_with fail
            refine hK.out _ _ HB9.out ?_
            clear hK K
            try simp only [Act.put, List.setIfInBounds_toArray, List.set_cons_zero, List.set_cons_succ]
            refine s_take 8 (by as_aux_lemma => kernel_rfl) (by as_aux_lemma => kernel_rfl) (by as_aux_lemma => kernel_rfl) (by as_aux_lemma => kernel_rfl) HB9.out (fun oi ho => ?_)
            simp only [List.getElem?_toArray, List.getElem?_cons_succ, List.getElem?_cons_zero, Option.some.injEq] at ho
            subst ho
            refine ⟨?_, Or.inl ⟨by rfl, fun w _ => ?_⟩, ?_⟩
            rotate_left
            · (go_simp <;> with_reducible rfl)
            try simp only [Act.put, List.setIfInBounds_toArray, List.set_cons_zero, List.set_cons_succ]
            refine s_take 9 (by as_aux_lemma => kernel_rfl) (by as_aux_lemma => kernel_rfl) (by as_aux_lemma => kernel_rfl) (by as_aux_lemma => kernel_rfl) HB9.out (fun oi ho => ?_)
            simp only [List.getElem?_toArray, List.getElem?_cons_succ, List.getElem?_cons_zero, Option.some.injEq] at ho
            subst ho
            refine ⟨?_, Or.inl ⟨by rfl, fun w _ => ?_⟩, ?_⟩
            rotate_left
            · (go_simp <;> with_reducible rfl)
            try simp only [Act.put, List.setIfInBounds_toArray, List.set_cons_zero, List.set_cons_succ]
            refine s_take 10 (by as_aux_lemma => kernel_rfl) (by as_aux_lemma => kernel_rfl) (by as_aux_lemma => kernel_rfl) (by as_aux_lemma => kernel_rfl) HB9.out (fun oi ho => ?_)
            simp only [List.getElem?_toArray, List.getElem?_cons_succ, List.getElem?_cons_zero, Option.some.injEq] at ho
            subst ho
            refine ⟨?_, Or.inl ⟨by rfl, fun w _ => ?_⟩, ?_⟩
            rotate_left
            · (go_simp <;> with_reducible rfl)
            try simp only [Act.put, List.setIfInBounds_toArray, List.set_cons_zero, List.set_cons_succ]
            refine s_take 11 (by as_aux_lemma => kernel_rfl) (by as_aux_lemma => kernel_rfl) (by as_aux_lemma => kernel_rfl) (by as_aux_lemma => kernel_rfl) HB9.out (fun oi ho => ?_)
            simp only [List.getElem?_toArray, List.getElem?_cons_succ, List.getElem?_cons_zero, Option.some.injEq] at ho
            subst ho
            refine ⟨?_, Or.inl ⟨by rfl, fun w _ => ?_⟩, ?_⟩
            rotate_left
            · (go_simp <;> with_reducible rfl)
            try simp only [Act.put, List.setIfInBounds_toArray, List.set_cons_zero, List.set_cons_succ]
            refine s_take 13 (by as_aux_lemma => kernel_rfl) (by as_aux_lemma => kernel_rfl) (by as_aux_lemma => kernel_rfl) (by as_aux_lemma => kernel_rfl) HB9.out (fun oi ho => ?_)
            simp only [List.getElem?_toArray, List.getElem?_cons_succ, List.getElem?_cons_zero, Option.some.injEq] at ho
            subst ho
            refine ⟨?_, Or.inl ⟨by rfl, fun w _ => ?_⟩, ?_⟩
            rotate_left
            · (go_simp <;> with_reducible rfl)
            try simp only [Act.put, List.setIfInBounds_toArray, List.set_cons_zero, List.set_cons_succ]
            refine s_take 14 (by as_aux_lemma => kernel_rfl) (by as_aux_lemma => kernel_rfl) (by as_aux_lemma => kernel_rfl) (by as_aux_lemma => kernel_rfl) HB9.out (fun oi ho => ?_)
            simp only [List.getElem?_toArray, List.getElem?_cons_succ, List.getElem?_cons_zero, Option.some.injEq] at ho
            subst ho
            refine ⟨?_, Or.inl ⟨by rfl, fun w _ => ?_⟩, ?_⟩
            rotate_left
            · (go_simp <;> with_reducible rfl)
            try simp only [Act.put, List.setIfInBounds_toArray, List.set_cons_zero, List.set_cons_succ]
            refine s_take 15 (by as_aux_lemma => kernel_rfl) (by as_aux_lemma => kernel_rfl) (by as_aux_lemma => kernel_rfl) (by as_aux_lemma => kernel_rfl) HB9.out (fun oi ho => ?_)
            simp only [List.getElem?_toArray, List.getElem?_cons_succ, List.getElem?_cons_zero, Option.some.injEq] at ho
            subst ho
            refine ⟨?_, Or.inl ⟨by rfl, fun w _ => ?_⟩, ?_⟩
            rotate_left
            · (go_simp <;> with_reducible rfl)
            try simp only [Act.put, List.setIfInBounds_toArray, List.set_cons_zero, List.set_cons_succ]
            refine s_take 16 (by as_aux_lemma => kernel_rfl) (by as_aux_lemma => kernel_rfl) (by as_aux_lemma => kernel_rfl) (by as_aux_lemma => kernel_rfl) HB9.out (fun oi ho => ?_)
            simp only [List.getElem?_toArray, List.getElem?_cons_succ, List.getElem?_cons_zero, Option.some.injEq] at ho
            subst ho
            refine ⟨.bool false, Or.inl ⟨by rfl, fun w' hS' => ?_⟩, ?_⟩
            · clear d0
              (go_simp <;> first | with_reducible rfl | simp [hrM2])
            try simp only [Act.put, List.setIfInBounds_toArray, List.set_cons_zero, List.set_cons_succ]
            refine s_all (rs := [12]) (by as_aux_lemma => kernel_rfl) (by simp) ?_
            refine s_step 12 (by as_aux_lemma => kernel_rfl) (fun o ho K hK => ?_) AllReadyH.nil
            simp only [List.getElem?_toArray, List.getElem?_cons_succ, List.getElem?_cons_zero, Option.some.injEq] at ho
            subst ho
            go_simp
            refine (HWL.out _ HB9.out).mono ?_
            rintro e w10 ⟨rfl, hB10⟩
            have HB10 := Lib.hid (below_more HB9.out hB10 HB9.out.size)
            clear hB10
            go_wp2_with fail
            refine hK.out _ _ HB10.out ?_
            clear hK K
            try simp only [Act.put, List.setIfInBounds_toArray, List.set_cons_zero, List.set_cons_succ]
            refine s_take 17 (by as_aux_lemma => kernel_rfl) (by as_aux_lemma => kernel_rfl) (by as_aux_lemma => kernel_rfl) (by as_aux_lemma => kernel_rfl) HB10.out (fun oi ho => ?_)
            simp only [List.getElem?_toArray, List.getElem?_cons_succ, List.getElem?_cons_zero, Option.some.injEq] at ho
            subst ho
            refine ⟨?_, Or.inl ⟨by rfl, fun w _ => ?_⟩, ?_⟩
            rotate_left
            · (go_simp <;> with_reducible rfl)
            try simp only [Act.put, List.setIfInBounds_toArray, List.set_cons_zero, List.set_cons_succ]
            refine s_take 18 (by as_aux_lemma => kernel_rfl) (by as_aux_lemma => kernel_rfl) (by as_aux_lemma => kernel_rfl) (by as_aux_lemma => kernel_rfl) HB10.out (fun oi ho => ?_)
            simp only [List.getElem?_toArray, List.getElem?_cons_succ, List.getElem?_cons_zero, Option.some.injEq] at ho
            subst ho
            refine ⟨?_, Or.inl ⟨by rfl, fun w _ => ?_⟩, ?_⟩
            rotate_left
            · (go_simp <;> with_reducible rfl)
            try simp only [Act.put, List.setIfInBounds_toArray, List.set_cons_zero, List.set_cons_succ]
            refine s_take 19 (by as_aux_lemma => kernel_rfl) (by as_aux_lemma => kernel_rfl) (by as_aux_lemma => kernel_rfl) (by as_aux_lemma => kernel_rfl) HB10.out (fun oi ho => ?_)
            simp only [List.getElem?_toArray, List.getElem?_cons_succ, List.getElem?_cons_zero, Option.some.injEq] at ho
            subst ho
            refine ⟨?_, Or.inl ⟨by rfl, fun w _ => ?_⟩, ?_⟩
            rotate_left
            · (go_simp <;> with_reducible rfl)
            try simp only [Act.put, List.setIfInBounds_toArray, List.set_cons_zero, List.set_cons_succ]
            refine s_take 20 (by as_aux_lemma => kernel_rfl) (by as_aux_lemma => kernel_rfl) (by as_aux_lemma => kernel_rfl) (by as_aux_lemma => kernel_rfl) HB10.out (fun oi ho => ?_)
            simp only [List.getElem?_toArray, List.getElem?_cons_succ, List.getElem?_cons_zero, Option.some.injEq] at ho
            subst ho
            refine ⟨?_, Or.inl ⟨by rfl, fun w _ => ?_⟩, ?_⟩
            rotate_left
            · (go_simp <;> with_reducible rfl)
            try simp only [Act.put, List.setIfInBounds_toArray, List.set_cons_zero, List.set_cons_succ]
            refine s_take 22 (by as_aux_lemma => kernel_rfl) (by as_aux_lemma => kernel_rfl) (by as_aux_lemma => kernel_rfl) (by as_aux_lemma => kernel_rfl) HB10.out (fun oi ho => ?_)
            simp only [List.getElem?_toArray, List.getElem?_cons_succ, List.getElem?_cons_zero, Option.some.injEq] at ho
            subst ho
            refine ⟨?_, Or.inl ⟨by rfl, fun w _ => ?_⟩, ?_⟩
            rotate_left
            · (go_simp <;> with_reducible rfl)
            try simp only [Act.put, List.setIfInBounds_toArray, List.set_cons_zero, List.set_cons_succ]
            refine s_take 23 (by as_aux_lemma => kernel_rfl) (by as_aux_lemma => kernel_rfl) (by as_aux_lemma => kernel_rfl) (by as_aux_lemma => kernel_rfl) HB10.out (fun oi ho => ?_)
            simp only [List.getElem?_toArray, List.getElem?_cons_succ, List.getElem?_cons_zero, Option.some.injEq] at ho
            subst ho
            refine ⟨?_, Or.inl ⟨by rfl, fun w _ => ?_⟩, ?_⟩
            rotate_left
            · (go_simp <;> with_reducible rfl)
            try simp only [Act.put, List.setIfInBounds_toArray, List.set_cons_zero, List.set_cons_succ]
            refine s_take 24 (by as_aux_lemma => kernel_rfl) (by as_aux_lemma => kernel_rfl) (by as_aux_lemma => kernel_rfl) (by as_aux_lemma => kernel_rfl) HB10.out (fun oi ho => ?_)
            simp only [List.getElem?_toArray, List.getElem?_cons_succ, List.getElem?_cons_zero, Option.some.injEq] at ho
            subst ho
            refine ⟨?_, Or.inl ⟨by rfl, fun w _ => ?_⟩, ?_⟩
            rotate_left
            · (go_simp <;> with_reducible rfl)
            try simp only [Act.put, List.setIfInBounds_toArray, List.set_cons_zero, List.set_cons_succ]
            refine s_all (rs := [21]) (by as_aux_lemma => kernel_rfl) (by simp) ?_
            refine s_step 21 (by as_aux_lemma => kernel_rfl) (fun o ho K hK => ?_) AllReadyH.nil
            simp only [List.getElem?_toArray, List.getElem?_cons_succ, List.getElem?_cons_zero, Option.some.injEq] at ho
            subst ho
            go_simp
            refine (HLY.out _ HB10.out).mono ?_
            rintro e w11 ⟨va, rfl, hva, hB11⟩
            have HVA := Lib.hid hva.rows
            have HB11 := Lib.hid (below_more HB10.out hB11 HB10.out.size)
            clear hva hB11
            go_wp2_with fail
            refine hK.out _ _ HB11.out ?_
            clear hK K
            try simp only [Act.put, List.setIfInBounds_toArray, List.set_cons_zero, List.set_cons_succ]
            refine s_all (rs := [25]) (by as_aux_lemma => kernel_rfl) (by simp) ?_
            refine s_step 25 (by as_aux_lemma => kernel_rfl) (fun o ho K hK => ?_) AllReadyH.nil
            simp only [List.getElem?_toArray, List.getElem?_cons_succ, List.getElem?_cons_zero, Option.some.injEq] at ho
            subst ho
            go_simp
            refine (sameRows_any _ _ _ _ HVA.out (HTR.out _ HB11.out) (by rw [List.length_take]; omega) HLW2.out).mono ?_
            rintro e w12 ⟨rfl, q12, rfl⟩
            have HB12 := Lib.hid (below_more HB11.out ((Kept.refl (fun _ => False) w11).drewN q12 |>.toBelow (Nat.le_refl _) (fun _ h => h.elim)) HB11.out.size)
            go_wp2_with fail
            refine hK.out _ _ HB12.out ?_
            clear hK K
            try simp only [Act.put, List.setIfInBounds_toArray, List.set_cons_zero, List.set_cons_succ]
            refine s_take 26 (by as_aux_lemma => kernel_rfl) (by as_aux_lemma => kernel_rfl) (by as_aux_lemma => kernel_rfl) (by as_aux_lemma => kernel_rfl) HB12.out (fun oi ho => ?_)
            simp only [List.getElem?_toArray, List.getElem?_cons_succ, List.getElem?_cons_zero, Option.some.injEq] at ho
            subst ho
            refine ⟨?_, Or.inl ⟨by rfl, fun w _ => ?_⟩, ?_⟩
            rotate_left
            · (go_simp <;> with_reducible rfl)
            try simp only [Act.put, List.setIfInBounds_toArray, List.set_cons_zero, List.set_cons_succ]
            refine s_take 27 (by as_aux_lemma => kernel_rfl) (by as_aux_lemma => kernel_rfl) (by as_aux_lemma => kernel_rfl) (by as_aux_lemma => kernel_rfl) HB12.out (fun oi ho => ?_)
            simp only [List.getElem?_toArray, List.getElem?_cons_succ, List.getElem?_cons_zero, Option.some.injEq] at ho
            subst ho
            refine ⟨?_, Or.inl ⟨by rfl, fun w _ => ?_⟩, ?_⟩
            rotate_left
            · (go_simp <;> with_reducible rfl)
            try simp only [Act.put, List.setIfInBounds_toArray, List.set_cons_zero, List.set_cons_succ]
            refine s_done (by as_aux_lemma => kernel_rfl) ?_
            skip
            go_wp2
            go_ret
            exact ⟨rfl, below_more HBW.out HB12.out HBW.out.size⟩
          · obtain rfl : r = ml := by omega
            have hwo : decide (((tabL ls ks).getD ((tabL ls ks).length - 1) (0, 0)).1 ≤ (H : Int)) = true := by
              rw [HTLEN.out, tabL_get (by rw [HM.out]; omega)]
              exact decide_eq_true ((HIFF.out (r - 1) (by omega)).2 (by omega))
            have HWL := Lib.hid (fun W (hB : Below wy.heap.size wy W) => show Calls Tryz.prog 13 #[.pointer (some ⟨b, 0, none⟩)] W fun e w' => e = .returned (.bool true) ∧ Below W.heap.size W w' from by
              have e1 : decide (((tabL ls ks).getD ((tabL ls ks).length - 1) (0, 0)).1 ≤ ((hs.length : Nat) : Int)) = true := by rw [HH.out]; exact hwo
              exact (gwhole_any (HGR.out.below hB) (by rw [HH.out]; omega)).mono fun e w' ⟨h1, h2⟩ => ⟨h1.trans (congrArg (fun x => Ending.returned (Value.bool x)) e1), h2⟩)
            clear hwo
            go_wp2_with fail
            refine s_start 28 (fun W => Below wy.heap.size wy W) (by as_aux_lemma => kernel_rfl) (by as_aux_lemma => kernel_rfl) HDD.out ?_
            refine s_take 0 (by as_aux_lemma => kernel_rfl) (by as_aux_lemma => kernel_rfl) (by as_aux_lemma => kernel_rfl) (by as_aux_lemma => kernel_rfl) HDD.out (fun oi ho => ?_)
            simp only [List.getElem?_toArray, List.getElem?_cons_succ, List.getElem?_cons_zero, Option.some.injEq] at ho
            subst ho
            refine ⟨?_, Or.inl ⟨by rfl, fun w _ => ?_⟩, ?_⟩
            rotate_left
            · (go_simp <;> with_reducible rfl)
            try simp only [Act.put, List.setIfInBounds_toArray, List.set_cons_zero, List.set_cons_succ]
            refine s_take 2 (by as_aux_lemma => kernel_rfl) (by as_aux_lemma => kernel_rfl) (by as_aux_lemma => kernel_rfl) (by as_aux_lemma => kernel_rfl) HDD.out (fun oi ho => ?_)
            simp only [List.getElem?_toArray, List.getElem?_cons_succ, List.getElem?_cons_zero, Option.some.injEq] at ho
            subst ho
            refine ⟨?_, Or.inl ⟨by rfl, fun w _ => ?_⟩, ?_⟩
            rotate_left
            · (go_simp <;> with_reducible rfl)
            try simp only [Act.put, List.setIfInBounds_toArray, List.set_cons_zero, List.set_cons_succ]
            refine s_all (rs := [1]) (by as_aux_lemma => kernel_rfl) (by simp) ?_
            refine s_step 1 (by as_aux_lemma => kernel_rfl) (fun o ho K hK => ?_) AllReadyH.nil
            simp only [List.getElem?_toArray, List.getElem?_cons_succ, List.getElem?_cons_zero, Option.some.injEq] at ho
            subst ho
            go_simp
            refine (HCM.out _ HDD.out).mono ?_
            rintro e wc ⟨rfl, rfl⟩
            go_wp2_with fail
            refine hK.out _ _ HDD.out ?_
            clear hK K
            try simp only [Act.put, List.setIfInBounds_toArray, List.set_cons_zero, List.set_cons_succ]
            refine s_take 3 (by as_aux_lemma => kernel_rfl) (by as_aux_lemma => kernel_rfl) (by as_aux_lemma => kernel_rfl) (by as_aux_lemma => kernel_rfl) HDD.out (fun oi ho => ?_)
            simp only [List.getElem?_toArray, List.getElem?_cons_succ, List.getElem?_cons_zero, Option.some.injEq] at ho
            subst ho
            refine ⟨?_, Or.inl ⟨by rfl, fun w _ => ?_⟩, ?_⟩
            rotate_left
            · (go_simp <;> with_reducible rfl)
            try simp only [Act.put, List.setIfInBounds_toArray, List.set_cons_zero, List.set_cons_succ]
            refine s_take 4 (by as_aux_lemma => kernel_rfl) (by as_aux_lemma => kernel_rfl) (by as_aux_lemma => kernel_rfl) (by as_aux_lemma => kernel_rfl) HDD.out (fun oi ho => ?_)
            simp only [List.getElem?_toArray, List.getElem?_cons_succ, List.getElem?_cons_zero, Option.some.injEq] at ho
            subst ho
            refine ⟨?_, Or.inl ⟨by rfl, fun w _ => ?_⟩, ?_⟩
            rotate_left
            · (go_simp <;> with_reducible rfl)
            try simp only [Act.put, List.setIfInBounds_toArray, List.set_cons_zero, List.set_cons_succ]
            refine s_take 5 (by as_aux_lemma => kernel_rfl) (by as_aux_lemma => kernel_rfl) (by as_aux_lemma => kernel_rfl) (by as_aux_lemma => kernel_rfl) HDD.out (fun oi ho => ?_)
            simp only [List.getElem?_toArray, List.getElem?_cons_succ, List.getElem?_cons_zero, Option.some.injEq] at ho
            subst ho
            refine ⟨?_, Or.inl ⟨by rfl, fun w _ => ?_⟩, ?_⟩
            rotate_left
            · (go_simp <;> with_reducible rfl)
            try simp only [Act.put, List.setIfInBounds_toArray, List.set_cons_zero, List.set_cons_succ]
            refine s_take 7 (by as_aux_lemma => kernel_rfl) (by as_aux_lemma => kernel_rfl) (by as_aux_lemma => kernel_rfl) (by as_aux_lemma => kernel_rfl) HDD.out (fun oi ho => ?_)
            simp only [List.getElem?_toArray, List.getElem?_cons_succ, List.getElem?_cons_zero, Option.some.injEq] at ho
            subst ho
            refine ⟨?_, Or.inl ⟨by rfl, fun w _ => ?_⟩, ?_⟩
            rotate_left
            · (go_simp <;> with_reducible rfl)
            try simp only [Act.put, List.setIfInBounds_toArray, List.set_cons_zero, List.set_cons_succ]
            refine s_all (rs := [6]) (by as_aux_lemma => kernel_rfl) (by simp) ?_
            refine s_step 6 (by as_aux_lemma => kernel_rfl) (fun o ho K hK => ?_) AllReadyH.nil
            simp only [List.getElem?_toArray, List.getElem?_cons_succ, List.getElem?_cons_zero, Option.some.injEq] at ho
            subst ho
            go_simp
            refine (HRD.out _ HDD.out).mono ?_
            rintro e w9 ⟨rfl, hB9⟩
            have HB9 := Lib.hid (below_more HDD.out hB9 HDD.out.size)
            clear hB9
            go_wp2_with fail
            refine hK.out _ _ HB9.out ?_
            clear hK K
            try simp only [Act.put, List.setIfInBounds_toArray, List.set_cons_zero, List.set_cons_succ]
            refine s_take 8 (by as_aux_lemma => kernel_rfl) (by as_aux_lemma => kernel_rfl) (by as_aux_lemma => kernel_rfl) (by as_aux_lemma => kernel_rfl) HB9.out (fun oi ho => ?_)
            simp only [List.getElem?_toArray, List.getElem?_cons_succ, List.getElem?_cons_zero, Option.some.injEq] at ho
            subst ho
            refine ⟨?_, Or.inl ⟨by rfl, fun w _ => ?_⟩, ?_⟩
            rotate_left
            · (go_simp <;> with_reducible rfl)
            try simp only [Act.put, List.setIfInBounds_toArray, List.set_cons_zero, List.set_cons_succ]
            refine s_take 9 (by as_aux_lemma => kernel_rfl) (by as_aux_lemma => kernel_rfl) (by as_aux_lemma => kernel_rfl) (by as_aux_lemma => kernel_rfl) HB9.out (fun oi ho => ?_)
            simp only [List.getElem?_toArray, List.getElem?_cons_succ, List.getElem?_cons_zero, Option.some.injEq] at ho
            subst ho
            refine ⟨?_, Or.inl ⟨by rfl, fun w _ => ?_⟩, ?_⟩
            rotate_left
            · (go_simp <;> with_reducible rfl)
            try simp only [Act.put, List.setIfInBounds_toArray, List.set_cons_zero, List.set_cons_succ]
            refine s_take 10 (by as_aux_lemma => kernel_rfl) (by as_aux_lemma => kernel_rfl) (by as_aux_lemma => kernel_rfl) (by as_aux_lemma => kernel_rfl) HB9.out (fun oi ho => ?_)
            simp only [List.getElem?_toArray, List.getElem?_cons_succ, List.getElem?_cons_zero, Option.some.injEq] at ho
            subst ho
            refine ⟨?_, Or.inl ⟨by rfl, fun w _ => ?_⟩, ?_⟩
            rotate_left
            · (go_simp <;> with_reducible rfl)
            try simp only [Act.put, List.setIfInBounds_toArray, List.set_cons_zero, List.set_cons_succ]
            refine s_take 11 (by as_aux_lemma => kernel_rfl) (by as_aux_lemma => kernel_rfl) (by as_aux_lemma => kernel_rfl) (by as_aux_lemma => kernel_rfl) HB9.out (fun oi ho => ?_)
            simp only [List.getElem?_toArray, List.getElem?_cons_succ, List.getElem?_cons_zero, Option.some.injEq] at ho
            subst ho
            refine ⟨?_, Or.inl ⟨by rfl, fun w _ => ?_⟩, ?_⟩
            rotate_left
            · (go_simp <;> with_reducible rfl)
            try simp only [Act.put, List.setIfInBounds_toArray, List.set_cons_zero, List.set_cons_succ]
            refine s_take 13 (by as_aux_lemma => kernel_rfl) (by as_aux_lemma => kernel_rfl) (by as_aux_lemma => kernel_rfl) (by as_aux_lemma => kernel_rfl) HB9.out (fun oi ho => ?_)
            simp only [List.getElem?_toArray, List.getElem?_cons_succ, List.getElem?_cons_zero, Option.some.injEq] at ho
            subst ho
            refine ⟨?_, Or.inl ⟨by rfl, fun w _ => ?_⟩, ?_⟩
            rotate_left
            · (go_simp <;> with_reducible rfl)
            try simp only [Act.put, List.setIfInBounds_toArray, List.set_cons_zero, List.set_cons_succ]
            refine s_take 14 (by as_aux_lemma => kernel_rfl) (by as_aux_lemma => kernel_rfl) (by as_aux_lemma => kernel_rfl) (by as_aux_lemma => kernel_rfl) HB9.out (fun oi ho => ?_)
            simp only [List.getElem?_toArray, List.getElem?_cons_succ, List.getElem?_cons_zero, Option.some.injEq] at ho
            subst ho
            refine ⟨?_, Or.inl ⟨by rfl, fun w _ => ?_⟩, ?_⟩
            rotate_left
            · (go_simp <;> with_reducible rfl)
            try simp only [Act.put, List.setIfInBounds_toArray, List.set_cons_zero, List.set_cons_succ]
            refine s_take 15 (by as_aux_lemma => kernel_rfl) (by as_aux_lemma => kernel_rfl) (by as_aux_lemma => kernel_rfl) (by as_aux_lemma => kernel_rfl) HB9.out (fun oi ho => ?_)
            simp only [List.getElem?_toArray, List.getElem?_cons_succ, List.getElem?_cons_zero, Option.some.injEq] at ho
            subst ho
            refine ⟨?_, Or.inl ⟨by rfl, fun w _ => ?_⟩, ?_⟩
            rotate_left
            · (go_simp <;> with_reducible rfl)
            try simp only [Act.put, List.setIfInBounds_toArray, List.set_cons_zero, List.set_cons_succ]
            refine s_take 16 (by as_aux_lemma => kernel_rfl) (by as_aux_lemma => kernel_rfl) (by as_aux_lemma => kernel_rfl) (by as_aux_lemma => kernel_rfl) HB9.out (fun oi ho => ?_)
            simp only [List.getElem?_toArray, List.getElem?_cons_succ, List.getElem?_cons_zero, Option.some.injEq] at ho
            subst ho
            refine ⟨.bool true, Or.inl ⟨by rfl, fun w' hS' => ?_⟩, ?_⟩
            · (go_simp <;> first | with_reducible rfl | simp)
            try simp only [Act.put, List.setIfInBounds_toArray, List.set_cons_zero, List.set_cons_succ]
            refine s_all (rs := [12]) (by as_aux_lemma => kernel_rfl) (by simp) ?_
            refine s_step 12 (by as_aux_lemma => kernel_rfl) (fun o ho K hK => ?_) AllReadyH.nil
            simp only [List.getElem?_toArray, List.getElem?_cons_succ, List.getElem?_cons_zero, Option.some.injEq] at ho
            subst ho
            go_simp
            refine (HWL.out _ HB9.out).mono ?_
            rintro e w10 ⟨rfl, hB10⟩
            have HB10 := Lib.hid (below_more HB9.out hB10 HB9.out.size)
            clear hB10
            go_wp2_with fail
            refine hK.out _ _ HB10.out ?_
            clear hK K
            try simp only [Act.put, List.setIfInBounds_toArray, List.set_cons_zero, List.set_cons_succ]
            refine s_take 17 (by as_aux_lemma => kernel_rfl) (by as_aux_lemma => kernel_rfl) (by as_aux_lemma => kernel_rfl) (by as_aux_lemma => kernel_rfl) HB10.out (fun oi ho => ?_)
            simp only [List.getElem?_toArray, List.getElem?_cons_succ, List.getElem?_cons_zero, Option.some.injEq] at ho
            subst ho
            refine ⟨?_, Or.inl ⟨by rfl, fun w _ => ?_⟩, ?_⟩
            rotate_left
            · (go_simp <;> with_reducible rfl)
            try simp only [Act.put, List.setIfInBounds_toArray, List.set_cons_zero, List.set_cons_succ]
            refine s_take 18 (by as_aux_lemma => kernel_rfl) (by as_aux_lemma => kernel_rfl) (by as_aux_lemma => kernel_rfl) (by as_aux_lemma => kernel_rfl) HB10.out (fun oi ho => ?_)
            simp only [List.getElem?_toArray, List.getElem?_cons_succ, List.getElem?_cons_zero, Option.some.injEq] at ho
            subst ho
            refine ⟨?_, Or.inl ⟨by rfl, fun w _ => ?_⟩, ?_⟩
            rotate_left
            · (go_simp <;> with_reducible rfl)
            try simp only [Act.put, List.setIfInBounds_toArray, List.set_cons_zero, List.set_cons_succ]
            refine s_take 19 (by as_aux_lemma => kernel_rfl) (by as_aux_lemma => kernel_rfl) (by as_aux_lemma => kernel_rfl) (by as_aux_lemma => kernel_rfl) HB10.out (fun oi ho => ?_)
            simp only [List.getElem?_toArray, List.getElem?_cons_succ, List.getElem?_cons_zero, Option.some.injEq] at ho
            subst ho
            refine ⟨?_, Or.inl ⟨by rfl, fun w _ => ?_⟩, ?_⟩
            rotate_left
            · (go_simp <;> with_reducible rfl)
            try simp only [Act.put, List.setIfInBounds_toArray, List.set_cons_zero, List.set_cons_succ]
            refine s_take 20 (by as_aux_lemma => kernel_rfl) (by as_aux_lemma => kernel_rfl) (by as_aux_lemma => kernel_rfl) (by as_aux_lemma => kernel_rfl) HB10.out (fun oi ho => ?_)
            simp only [List.getElem?_toArray, List.getElem?_cons_succ, List.getElem?_cons_zero, Option.some.injEq] at ho
            subst ho
            refine ⟨?_, Or.inl ⟨by rfl, fun w _ => ?_⟩, ?_⟩
            rotate_left
            · (go_simp <;> with_reducible rfl)
            try simp only [Act.put, List.setIfInBounds_toArray, List.set_cons_zero, List.set_cons_succ]
            refine s_take 22 (by as_aux_lemma => kernel_rfl) (by as_aux_lemma => kernel_rfl) (by as_aux_lemma => kernel_rfl) (by as_aux_lemma => kernel_rfl) HB10.out (fun oi ho => ?_)
            simp only [List.getElem?_toArray, List.getElem?_cons_succ, List.getElem?_cons_zero, Option.some.injEq] at ho
            subst ho
            refine ⟨?_, Or.inl ⟨by rfl, fun w _ => ?_⟩, ?_⟩
            rotate_left
            · (go_simp <;> with_reducible rfl)
            try simp only [Act.put, List.setIfInBounds_toArray, List.set_cons_zero, List.set_cons_succ]
            refine s_take 23 (by as_aux_lemma => kernel_rfl) (by as_aux_lemma => kernel_rfl) (by as_aux_lemma => kernel_rfl) (by as_aux_lemma => kernel_rfl) HB10.out (fun oi ho => ?_)
            simp only [List.getElem?_toArray, List.getElem?_cons_succ, List.getElem?_cons_zero, Option.some.injEq] at ho
            subst ho
            refine ⟨?_, Or.inl ⟨by rfl, fun w _ => ?_⟩, ?_⟩
            rotate_left
            · (go_simp <;> with_reducible rfl)
            try simp only [Act.put, List.setIfInBounds_toArray, List.set_cons_zero, List.set_cons_succ]
            refine s_take 24 (by as_aux_lemma => kernel_rfl) (by as_aux_lemma => kernel_rfl) (by as_aux_lemma => kernel_rfl) (by as_aux_lemma => kernel_rfl) HB10.out (fun oi ho => ?_)
            simp only [List.getElem?_toArray, List.getElem?_cons_succ, List.getElem?_cons_zero, Option.some.injEq] at ho
            subst ho
            refine ⟨?_, Or.inl ⟨by rfl, fun w _ => ?_⟩, ?_⟩
            rotate_left
            · (go_simp <;> with_reducible rfl)
            try simp only [Act.put, List.setIfInBounds_toArray, List.set_cons_zero, List.set_cons_succ]
            refine s_all (rs := [21]) (by as_aux_lemma => kernel_rfl) (by simp) ?_
            refine s_step 21 (by as_aux_lemma => kernel_rfl) (fun o ho K hK => ?_) AllReadyH.nil
            simp only [List.getElem?_toArray, List.getElem?_cons_succ, List.getElem?_cons_zero, Option.some.injEq] at ho
            subst ho
            go_simp
            refine (HLY.out _ HB10.out).mono ?_
            rintro e w11 ⟨va, rfl, hva, hB11⟩
            have HVA := Lib.hid hva.rows
            have HB11 := Lib.hid (below_more HB10.out hB11 HB10.out.size)
            clear hva hB11
            go_wp2_with fail
            refine hK.out _ _ HB11.out ?_
            clear hK K
            try simp only [Act.put, List.setIfInBounds_toArray, List.set_cons_zero, List.set_cons_succ]
            refine s_all (rs := [25]) (by as_aux_lemma => kernel_rfl) (by simp) ?_
            refine s_step 25 (by as_aux_lemma => kernel_rfl) (fun o ho K hK => ?_) AllReadyH.nil
            simp only [List.getElem?_toArray, List.getElem?_cons_succ, List.getElem?_cons_zero, Option.some.injEq] at ho
            subst ho
            go_simp
            refine (sameRows_any _ _ _ _ HVA.out (HTR.out _ HB11.out) (by rw [List.length_take]; omega) HLW2.out).mono ?_
            rintro e w12 ⟨rfl, q12, rfl⟩
            have HB12 := Lib.hid (below_more HB11.out ((Kept.refl (fun _ => False) w11).drewN q12 |>.toBelow (Nat.le_refl _) (fun _ h => h.elim)) HB11.out.size)
            go_wp2_with fail
            refine hK.out _ _ HB12.out ?_
            clear hK K
            try simp only [Act.put, List.setIfInBounds_toArray, List.set_cons_zero, List.set_cons_succ]
            refine s_take 26 (by as_aux_lemma => kernel_rfl) (by as_aux_lemma => kernel_rfl) (by as_aux_lemma => kernel_rfl) (by as_aux_lemma => kernel_rfl) HB12.out (fun oi ho => ?_)
            simp only [List.getElem?_toArray, List.getElem?_cons_succ, List.getElem?_cons_zero, Option.some.injEq] at ho
            subst ho
            refine ⟨?_, Or.inl ⟨by rfl, fun w _ => ?_⟩, ?_⟩
            rotate_left
            · (go_simp <;> with_reducible rfl)
            try simp only [Act.put, List.setIfInBounds_toArray, List.set_cons_zero, List.set_cons_succ]
            refine s_take 27 (by as_aux_lemma => kernel_rfl) (by as_aux_lemma => kernel_rfl) (by as_aux_lemma => kernel_rfl) (by as_aux_lemma => kernel_rfl) HB12.out (fun oi ho => ?_)
            simp only [List.getElem?_toArray, List.getElem?_cons_succ, List.getElem?_cons_zero, Option.some.injEq] at ho
            subst ho
            refine ⟨?_, Or.inl ⟨by rfl, fun w _ => ?_⟩, ?_⟩
            rotate_left
            · (go_simp <;> with_reducible rfl)
            try simp only [Act.put, List.setIfInBounds_toArray, List.set_cons_zero, List.set_cons_succ]
            refine s_done (by as_aux_lemma => kernel_rfl) ?_
            skip
            go_wp2
            go_ret
            exact ⟨rfl, below_more HBW.out HB12.out HBW.out.size⟩
end -- GpQ

end Go.Proofs.YtojbbmfndlcgkaaGreat
