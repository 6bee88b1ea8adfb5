/-
  TbI: Layer 18: a table of groups; its bytes, its frames; a frame's group.
  TbJ: Layer 18: the frames of a table; a frame's group.
  TbK: Layer 18: why a body may not be put.
-/
import Derived.Test.YtibelpamolcmcaaMxaz
import Derived.Test.YtibelpamolcmcaaMxba
namespace Go.Proofs.Ytibelpamolcmcaa

section -- TbI
open Go.RowKit Go.Maps
set_option linter.unusedVariables false
set_option linter.unusedSimpArgs false
set_option maxRecDepth 100000
set_option maxHeartbeats 4000000

/-- A group: where it lies, what it holds. -/
structure GD where
  blk : Nat
  bm : Nat
  vr : Value
  H : HeadV
  hs : List (Int × List B)
  V : Int → Value
instance : Inhabited GD := ⟨⟨0, 0, .slice none 0 0, ⟨0, 0, 0, 0, 0, []⟩, [], fun _ => undef⟩⟩
def GDAt (w : World) (base : Nat) (g : GD) : Prop := GrpAt w base g.blk g.bm g.H g.vr g.hs g.V
def entG (g : GD) : Ent := (g.blk, g.H.frame, g.H.deadline)
def bytesG (g : GD) : Nat := g.hs.length * atT g.H.rows g.H.rows.length
def totalG (gs : List GD) : Nat := (gs.map bytesG).sum
theorem GDAt.bound {w : World} {base : Nat} {g : GD} (h : GDAt w base g) : bytesG g ≤ 255 * 524280 := by
  have h1 := GrpAt.few h
  have h2 := atT_low h.ok.2.2.2.2 (i := g.H.rows.length) (Nat.le_refl _)
  have h3 := h.ok.2.2.2.1
  exact Nat.mul_le_mul h1 (by omega)
theorem totalG_nil : totalG [] = 0 := rfl
theorem totalG_cons (g : GD) (l : List GD) : totalG (g :: l) = bytesG g + totalG l := by simp [totalG]
theorem totalG_app (l m : List GD) : totalG (l ++ m) = totalG l + totalG m := by simp [totalG]
theorem totalG_le {w : World} {base : Nat} : ∀ {gs : List GD}, (∀ g ∈ gs, GDAt w base g) → totalG gs ≤ gs.length * (255 * 524280)
  | [], _ => by simp [totalG]
  | g :: r, h => by
    have h1 := (h g (by simp)).bound
    have h2 := totalG_le (gs := r) (fun x hx => h x (by simp [hx]))
    rw [totalG_cons, List.length_cons, Nat.add_mul, Nat.one_mul]
    omega

/-- A table. -/
structure TabS (w : World) (base tb : Nat) (gn cn : Int) (v : Value) (gs : List GD) : Prop where
  row : RowAt w base tb gn cn v (gs.map entG)
  grp : ∀ g ∈ gs, GDAt w base g
  far : ∀ g ∈ gs, ∀ k, g.vr.ownBlock = some k → ¬ RowS tb v k
  maps : (gs.map (·.bm)).Nodup

section
variable {w w' : World} {base b bm : Nat} {H : HeadV} {vr : Value} {hs : List (Int × List B)} {V : Int → Value}
theorem MapI.heap {w : World} {b : Nat} {es : List (Int × Value)} (h : MapI w b es) : ∃ m c, w.heap[b]? = some (.map m c) := by
  obtain ⟨D, ⟨m, c, h1, _⟩, _⟩ := h
  exact ⟨m, c, h1⟩
theorem GrpAt.keptZ {S : Nat → Prop} (h : GrpAt w base b bm H vr hs V) (hk : Kept S w w') (h1 : ¬ S b) (h2 : ¬ S bm) (h3 : ∀ k, vr.ownBlock = some k → ¬ S k) (h4 : ∀ p ∈ hs, ∀ k, (V p.1).ownBlock = some k → ¬ S k) : GrpAt w' base b bm H vr hs V :=
  ⟨(hk.block b h.lt h1).trans h.blk, h.ok, h.tab.keptB hk h3, h.map.kept hk h2, h.rises, h.rng, h.wide, fun p hp => (h.vals p hp).kept hk (h4 p hp), h.nb, h.nr, h.nv, h.lo⟩
theorem GrpAt.vlt (h : GrpAt w base b bm H vr hs V) : ∀ k, vr.ownBlock = some k → ∃ u o, w.cell? ⟨k, o, none⟩ = some u := by
  intro k hk
  obtain ⟨p, c, e1, _, e2⟩ := h.tab
  obtain ⟨g, off, rfl, e3⟩ := e2 (by have := h.ok.2.2.1; exact this)
  rw [e1] at hk
  have : g = k := by simpa [Value.ownBlock] using hk
  subst this
  exact ⟨_, _, (e3 0 (by have := h.ok.2.2.1; exact this)).1⟩
/-- Blocks of other kinds turn: a group stays. -/
theorem GrpAt.keptT {S : Nat → Prop} (h : GrpAt w base b bm H vr hs V) (hk : Kept S w w') (hS : ∀ k, k < w.heap.size → S k → (∃ C t, w.heap[k]? = some (.cells C t (0, 0)) ∧ t ≠ 77 ∧ t ≠ 5) ∨ (∃ es, MapI w k es ∧ k ≠ bm)) (hv : ∀ k, vr.ownBlock = some k → ¬ S k) : GrpAt w' base b bm H vr hs V := by
  refine h.keptZ hk (fun hs2 => ?_) (fun hs2 => ?_) hv (fun p hp k e hs2 => ?_)
  · rcases hS b h.lt hs2 with ⟨C, t, h1, h2, _⟩ | ⟨es, h1, _⟩
    · rw [h.blk] at h1
      simp only [Option.some.injEq, Obj.cells.injEq] at h1
      exact h2 h1.2.1.symm
    · obtain ⟨Cm, k2, h3⟩ := h1.heap
      rw [h.blk] at h3
      cases h3
  · rcases hS bm h.map.lt hs2 with ⟨C, t, h1, _, _⟩ | ⟨es, h1, h2⟩
    · obtain ⟨Cm, k2, h3⟩ := h.map.heap
      rw [h3] at h1
      cases h1
    · exact h2 rfl
  · have ho := h.vals p hp
    rcases ho.2 with ⟨e2, _⟩ | ⟨g, cap, cur, e2, _, hg, _⟩
    · rw [e2] at e
      cases e
    · rw [e2] at e
      have : g = k := by simpa [Value.ownBlock] using e
      subst this
      rcases hS g (Array.getElem?_eq_some_iff.1 hg).1 hs2 with ⟨C, t, h1, _, h2⟩ | ⟨es, h1, _⟩
      · rw [hg] at h1
        simp only [Option.some.injEq, Obj.cells.injEq] at h1
        exact h2 h1.2.1.symm
      · obtain ⟨Cm, k2, h3⟩ := h1.heap
        rw [hg] at h3
        cases h3
end

section
variable {w w' : World} {base tb : Nat} {gn cn : Int} {v : Value} {gs : List GD}
theorem TabS.below (h : TabS w base tb gn cn v gs) (hB : Below w.heap.size w w') : TabS w' base tb gn cn v gs :=
  ⟨h.row.below hB, fun g hg => GrpAt.below (h.grp g hg) hB, h.far, h.maps⟩
theorem getD_ent {gs : List GD} {k : Nat} (hk : k < gs.length) : (gs.map entG).getD k (0, 0, 0) = entG (gs.getD k default) := by
  simp [List.getD_eq_getElem?_getD, hk]
theorem getD_mem {gs : List GD} {k : Nat} (hk : k < gs.length) : gs.getD k default ∈ gs := by
  simp [List.getD_eq_getElem?_getD, hk]
theorem take_snoc {gs : List GD} {k : Nat} (hk : k < gs.length) : gs.take (k + 1) = gs.take k ++ [gs.getD k default] := by
  rw [List.take_succ_eq_append_getElem hk]
  simp [List.getD_eq_getElem?_getD, hk]
/-- All bytes. -/
theorem tbytes_any (h : TabS w base tb gn cn v gs) :
    Calls Try.prog 11 #[.pointer (some ⟨tb, 0, none⟩)] w fun e w' => e = .returned (.int .i64 ((totalG gs : Nat) : Int)) ∧ Below w.heap.size w w' := by
  have HT := Lib.hid h
  have HM := Lib.hid (made_any h.row)
  have c0 := h.row.c0
  obtain ⟨p, c, hv, hlc⟩ := h.row.ents.shape
  have hlen := h.row.len
  rw [List.length_map] at hlen hv hlc
  subst hv
  obtain ⟨M, hM⟩ : ∃ M, gs.length = M := ⟨_, rfl⟩
  have HL := Lib.hid hM
  rw [hM] at c0 HT hlen hlc
  clear h hM
  go_enter Try.func11, Try.ntmps11
  go_wp2_with fail
  refine HM.out.mono ?_
  rintro e w1 ⟨rfl, rfl⟩
  go_wp2_with fail
  go_loopw [2, 4, 14] (fun n _ i wr => ∃ k : Nat, k ≤ M ∧ i = .int .i64 (k : Int) ∧ n = .int .i64 ((totalG (gs.take k) : Nat) : Int) ∧ Below w.heap.size w wr) (fun _ _ i _ => M - (intOf i).toNat)
  case atStart => exact ⟨0, Nat.zero_le _, rfl, rfl, Below.refl _ _⟩
  case round =>
    obtain ⟨wo, rfl⟩ : ∃ wo, wo = wr := ⟨_, rfl⟩
    obtain ⟨k, hk, rfl, rfl, hB⟩ := hrel
    have HB := Lib.hid hB
    by_cases hlt : k < M
    · have hT := HT.out.below hB
      obtain ⟨g, c', ev, d0, d1, d2⟩ := hT.row.ents.cell (j := k) (by rw [List.length_map, HL.out]; exact hlt)
      rw [getD_ent (by rw [HL.out]; exact hlt)] at d0 d1 d2
      obtain ⟨rfl, -, -⟩ := Value.slice.inj ev
      have HTS := Lib.hid (take_snoc (gs := gs) (k := k) (by rw [HL.out]; exact hlt))
      have hgm := getD_mem (gs := gs) (k := k) (by rw [HL.out]; exact hlt)
      have htl := totalG_le (gs := gs.take k) (w := w) (base := base) (fun g hg => HT.out.grp g (List.mem_of_mem_take hg))
      rw [List.length_take, HL.out, Nat.min_eq_left hk] at htl
      obtain ⟨G, hG⟩ : ∃ G, gs.getD k default = G := ⟨_, rfl⟩
      rw [hG] at d0 d1 d2 HTS hgm
      have HGB := Lib.hid (fun W (hW : Below wo.heap.size wo W) => gbytes_any (GrpAt.below (hT.grp G hgm) hW))
      have hgb := (hT.grp G hgm).bound
      have HTN := Lib.hid (show totalG (gs.take (k + 1)) = totalG (gs.take k) + bytesG G from by rw [HTS.out, totalG_app, totalG_cons, totalG_nil]; rfl)
      obtain ⟨T, hTt⟩ : ∃ T, totalG (gs.take k) = T := ⟨_, rfl⟩
      rw [hTt] at HTN htl ⊢
      obtain ⟨bb, hbb⟩ : ∃ x, bytesG G = x := ⟨_, rfl⟩
      rw [hbb] at HTN hgb
      have HBB := Lib.hid (show G.hs.length * atT G.H.rows G.H.rows.length = bb from hbb)
      rw [HBB.out] at HGB
      have HA := Lib.hid (balT wo (.cells #[.pointer (some ⟨G.blk, 0, none⟩), .int .i64 G.H.frame, .int .i64 G.H.deadline] 65))
      have HBA := Lib.hid (below_more HB.out HA.out HB.out.size)
      have hsum : T + bb ≤ 1001 * (255 * 524280) := by
        have : k ≤ 1000 := by omega
        have := Nat.mul_le_mul_right (255 * 524280) this
        omega
      simp only [entG] at d0 d1 d2
      rw [Nat.zero_add] at d0 d1 d2
      obtain ⟨gb, hgbk⟩ : ∃ x, G.blk = x := ⟨_, rfl⟩
      obtain ⟨gf, hgf⟩ : ∃ x, G.H.frame = x := ⟨_, rfl⟩
      obtain ⟨gd, hgd⟩ : ∃ x, G.H.deadline = x := ⟨_, rfl⟩
      rw [hgbk] at d0 HGB HA HBA
      rw [hgf] at d1 HA HBA
      rw [hgd] at d2 HA HBA
      clear hbb hTt hG hgm hT hB hgbk hgf hgd htl hgb ev
      go_wp2_with fail
      refine (HGB.out _ HA.out).mono ?_
      rintro e w3 ⟨rfl, hB3⟩
      have HB3 := Lib.hid (below_more HBA.out hB3 HBA.out.size)
      clear hB3 d0 d1 d2
      go_wp2
      go_roundw
      case rel => exact ⟨k + 1, by omega, by go_num, by rw [HTN.out]; go_num, HB3.out⟩
      case measure => simp [intOf]; omega
    · obtain rfl : k = M := by omega
      have HTN := Lib.hid (show gs.take k = gs from List.take_of_length_le (by rw [HL.out]; exact Nat.le_refl _))
      go_wp2
      go_ret
      exact ⟨by rw [HTN.out]; rfl, HB.out⟩
end
end -- TbI

section -- TbJ
open Go.RowKit Go.Maps
set_option linter.unusedVariables false
set_option linter.unusedSimpArgs false
set_option maxRecDepth 100000
set_option maxHeartbeats 4000000

section
variable {w w' : World} {base tb : Nat} {gn cn : Int} {v : Value} {gs : List GD}
def framesG (gs : List GD) : List Int := gs.map (·.H.frame)
/-- All frames, in order. -/
theorem tframes_any (h : TabS w base tb gn cn v gs) :
    Calls Try.prog 10 #[.pointer (some ⟨tb, 0, none⟩)] w fun e w' => ∃ vf, e = .returned vf ∧ IntsAt w' vf (framesG gs) ∧ Below w.heap.size w w' := by
  have HT := Lib.hid h
  have HM := Lib.hid (made_any h.row)
  have c0 := h.row.c0
  obtain ⟨p, c, hv, hlc⟩ := h.row.ents.shape
  have hlen := h.row.len
  rw [List.length_map] at hlen hv hlc
  subst hv
  obtain ⟨M, hM⟩ : ∃ M, gs.length = M := ⟨_, rfl⟩
  have HL := Lib.hid hM
  rw [hM] at c0 HT hlen hlc
  clear h hM
  go_enter Try.func10, Try.ntmps10
  go_wp2_with fail
  refine HM.out.mono ?_
  rintro e w1 ⟨rfl, rfl⟩
  go_wp2_with fail
  go_loopw [2, 4, 14] (fun n _ i wr => ∃ k : Nat, k ≤ M ∧ i = .int .i64 (k : Int) ∧ wr.ownsRow w.heap.size 3 1 n k ((framesG (gs.take k)).map (Value.int .i64)) ∧ Below w.heap.size w wr) (fun _ _ i _ => M - (intOf i).toNat)
  case atStart => exact ⟨0, Nat.zero_le _, rfl, World.ownsRow_nil _ _ _ _, Below.refl _ _⟩
  case round =>
    obtain ⟨wo, rfl⟩ : ∃ wo, wo = wr := ⟨_, rfl⟩
    obtain ⟨k, hk, rfl, how, hB⟩ := hrel
    have HB := Lib.hid hB
    have HOW := Lib.hid how
    by_cases hlt : k < M
    · have hT := HT.out.below hB
      obtain ⟨g, c', ev, d0, d1, d2⟩ := hT.row.ents.cell (j := k) (by rw [List.length_map, HL.out]; exact hlt)
      rw [getD_ent (by rw [HL.out]; exact hlt)] at d0 d1 d2
      obtain ⟨rfl, -, -⟩ := Value.slice.inj ev
      have HTS := Lib.hid (take_snoc (gs := gs) (k := k) (by rw [HL.out]; exact hlt))
      obtain ⟨G, hG⟩ : ∃ G, gs.getD k default = G := ⟨_, rfl⟩
      rw [hG] at d0 d1 d2 HTS
      have HFS := Lib.hid (show (framesG (gs.take (k + 1))).map (Value.int .i64) = (framesG (gs.take k)).map (Value.int .i64) ++ [.int .i64 G.H.frame] from by rw [HTS.out]; simp [framesG])
      have HA := Lib.hid (balT wo (.cells #[.pointer (some ⟨G.blk, 0, none⟩), .int .i64 G.H.frame, .int .i64 G.H.deadline] 65))
      have HBA := Lib.hid (below_more HB.out HA.out HB.out.size)
      simp only [entG] at d0 d1 d2
      rw [Nat.zero_add] at d0 d1 d2
      obtain ⟨gb, hgbk⟩ : ∃ x, G.blk = x := ⟨_, rfl⟩
      obtain ⟨gf, hgf⟩ : ∃ x, G.H.frame = x := ⟨_, rfl⟩
      obtain ⟨gd, hgd⟩ : ∃ x, G.H.deadline = x := ⟨_, rfl⟩
      rw [hgbk] at d0 HA HBA
      rw [hgf] at d1 HA HBA HFS
      rw [hgd] at d2 HA HBA
      have HO1 := Lib.hid (show ((wo.alloc (.cells #[.pointer (some ⟨gb, 0, none⟩), .int .i64 gf, .int .i64 gd] 65)).alloc (.cells #[.int .i64 gf] 3)).ownsRow w.heap.size 3 1 _ k _ from (how.alloc _).alloc _)
      have HA2 := Lib.hid (below_more HBA.out (balT (wo.alloc (.cells #[.pointer (some ⟨gb, 0, none⟩), .int .i64 gf, .int .i64 gd] 65)) (.cells #[.int .i64 gf] 3)) HBA.out.size)
      have hbw := HA2.out.size
      have hwl := HOW.out.lt
      have HWL := Lib.hid hwl
      clear hwl hG hT hB hgbk hgf hgd ev how
      go_wp2_with (at_builtin; refine app_el 38 3 1 8 (.int .i64 0) Try.underlying38 infoI18 rfl (by decide) rfl _ _ rfl w.heap.size k _ _ rfl (HOW.out.alloc _) [.int .i64 gf] rfl (by simp [Value.oneCell']) (by rw [World.size_alloc]; rfl) (by omega) (by have := HBA.out.size; exact this) ?_; intro g1 c1 w8 oA kA sA gA)
      have hb8 : Below w.heap.size w w8 := HBA.out.trans (kA.toBelow HBA.out.size (fun j e => (HWL.out j e).1))
      go_roundw
      case rel => exact ⟨k + 1, by omega, by go_num, by rw [HFS.out]; exact oA, hb8⟩
      case measure => simp [intOf]; omega
    · obtain rfl : k = M := by omega
      have HTN := Lib.hid (show gs.take k = gs from List.take_of_length_le (by rw [HL.out]; exact Nat.le_refl _))
      have HFL := Lib.hid (show (framesG gs).length = k from by simp [framesG, HL.out])
      clear hB how
      go_wp2
      go_ret
      refine ⟨_, rfl, ints_own (base := w.heap.size) ?_, HB.out⟩
      rw [HFL.out]
      have := HOW.out
      rw [HTN.out] at this
      exact this

/-- Where a frame's group stands. -/
def posG (f : Int) (gs : List GD) : Nat := gs.findIdx fun g => decide (g.H.frame = f)
theorem idx_posG (f : Int) (gs : List GD) : idxO (fun x => decide (x.2.1 = f)) (gs.map entG) = if posG f gs < gs.length then ((posG f gs : Nat) : Int) else -1 := by
  unfold idxO posG
  rw [List.findIdx_map, List.length_map]
  rfl
theorem posG_hit {f : Int} {gs : List GD} (h : posG f gs < gs.length) : (gs.getD (posG f gs) default).H.frame = f := by
  have := List.findIdx_getElem (w := h)
  have e : gs.getD (posG f gs) default = gs[posG f gs] := by simp [List.getD_eq_getElem?_getD, h]
  rw [e]
  exact of_decide_eq_true this
theorem posG_none {f : Int} {gs : List GD} (h : ¬ posG f gs < gs.length) : ∀ g ∈ gs, g.H.frame ≠ f := fun g hg e => by
  have : posG f gs < gs.length := List.findIdx_lt_length.2 ⟨g, hg, by simp [e]⟩
  exact h this
theorem posG_mem {f : Int} {gs : List GD} : posG f gs < gs.length ↔ f ∈ framesG gs := by
  unfold posG framesG
  rw [List.findIdx_lt_length]
  simp
theorem of_any (w : World) (f : Int) :
    Calls Try.prog 38 #[.int .i64 f] w fun e w' => e = .returned (.func (.func 54) #[] #[.pointer (some ⟨w.heap.size, 0, none⟩)]) ∧ w.alloc (.cells #[.int .i64 f] 3) = w' := by
  go_enter Try.func38, Try.ntmps38
  go_wp2
  go_ret
  exact ⟨rfl, rfl⟩
theorem but_any (w : World) (f : Int) :
    Calls Try.prog 32 #[.int .i64 f] w fun e w' => e = .returned (.func (.func 50) #[] #[.pointer (some ⟨w.heap.size, 0, none⟩)]) ∧ w.alloc (.cells #[.int .i64 f] 3) = w' := by
  go_enter Try.func32, Try.ntmps32
  go_wp2
  go_ret
  exact ⟨rfl, rfl⟩
theorem box_cell (w : World) (f : Int) : (w.alloc (.cells #[.int .i64 f] 3)).cell? ⟨w.heap.size, 0, none⟩ = some (.int .i64 f) := (World.cell?_alloc_new w _ _ 0).trans rfl
theorem eg_of : ∀ args w, (callFunc 54 args).run Try.prog w = .ok (.enter 54 args) w := enters_of Try.func54 (by kernel_rfl) rfl
theorem eg_but : ∀ args w, (callFunc 50 args).run Try.prog w = .ok (.enter 50 args) w := enters_of Try.func50 (by kernel_rfl) rfl
theorem eg_exp : ∀ args w, (callFunc 27 args).run Try.prog w = .ok (.enter 27 args) w := enters_of Try.func27 (by kernel_rfl) rfl
/-- What Find tells. -/
def findV (f : Int) (gs : List GD) : Value := if posG f gs < gs.length then .tuple #[.pointer (some ⟨(gs.getD (posG f gs) default).blk, 0, none⟩), .bool true] else .tuple #[.pointer none, .bool false]
theorem tfind_any (h : TabS w base tb gn cn v gs) (f : Int) :
    Calls Try.prog 19 #[.pointer (some ⟨tb, 0, none⟩), .int .i64 f] w fun e w' => e = .returned (findV f gs) ∧ Below w.heap.size w w' := by
  have HT := Lib.hid h
  have HM := Lib.hid (made_any h.row)
  have HD := Lib.hid (show Below w.heap.size w w.drew from (Kept.refl (fun _ => False) w).drew.toBelow (Nat.le_refl _) (fun _ h => h.elim))
  have HDA := Lib.hid (HD.out.alloc (Nat.le_refl _) (.cells #[.int .i64 f] 3))
  have HOF := Lib.hid (of_any w.drew f)
  have hfd := find_any (h.row.below HDA.out) (fun x => decide (x.2.1 = f)) _ _ eg_of (of1_tells _ w.drew.heap.size f (box_cell w.drew f))
  rw [idx_posG] at hfd
  have HFD := Lib.hid hfd
  clear hfd
  obtain ⟨p, c, hv, hlc⟩ := h.row.ents.shape
  have hlen := h.row.len
  rw [List.length_map] at hlen hv hlc
  subst hv
  have HPH := Lib.hid (fun hp => posG_hit (f := f) (gs := gs) hp)
  obtain ⟨P, hP⟩ : ∃ P, posG f gs = P := ⟨_, rfl⟩
  have HV := Lib.hid (show findV f gs = if P < gs.length then .tuple #[.pointer (some ⟨(gs.getD P default).blk, 0, none⟩), .bool true] else .tuple #[.pointer none, .bool false] from by unfold findV; rw [hP])
  rw [hP] at HFD
  obtain ⟨M, hM⟩ : ∃ M, gs.length = M := ⟨_, rfl⟩
  have HL := Lib.hid hM
  rw [hM] at HT hlen hlc HFD HV
  rw [HV.out]
  clear h hM hP
  by_cases hPM : P < M
  · rw [if_pos hPM] at HFD ⊢
    have HX := Lib.hid (fun W (hB : Below w.heap.size w W) => (HT.out.below hB).row.ents.cell (j := P) (by rw [List.length_map, HL.out]; exact hPM))
    have HC := Lib.hid (fun W (hB : Below w.heap.size w W) => (HT.out.below hB).row.c0)
    have hneg : ¬ (P : Int) < 0 := by omega
    go_enter Try.func19, Try.ntmps19
    go_wp2_with fail
    refine HM.out.mono ?_
    rintro e w1 ⟨rfl, rfl⟩
    go_wp2_with fail
    refine s_start 7 (fun W => Below w.heap.size w W) (by as_aux_lemma => kernel_rfl) (by as_aux_lemma => kernel_rfl) HD.out ?_
    refine s_take 0 (by as_aux_lemma => kernel_rfl) (by as_aux_lemma => kernel_rfl) (by as_aux_lemma => kernel_rfl) (by as_aux_lemma => kernel_rfl) HD.out (fun oi ho => ?_)
    simp only [List.getElem?_toArray, List.getElem?_cons_succ, List.getElem?_cons_zero, Option.some.injEq] at ho
    subst ho
    refine ⟨?_, Or.inl ⟨by rfl, fun w _ => ?_⟩, ?_⟩
    rotate_left
    · (go_simp <;> with_reducible rfl)
    try simp only [Act.put, List.setIfInBounds_toArray, List.set_cons_zero, List.set_cons_succ]
    refine s_take 1 (by as_aux_lemma => kernel_rfl) (by as_aux_lemma => kernel_rfl) (by as_aux_lemma => kernel_rfl) (by as_aux_lemma => kernel_rfl) HD.out (fun oi ho => ?_)
    simp only [List.getElem?_toArray, List.getElem?_cons_succ, List.getElem?_cons_zero, Option.some.injEq] at ho
    subst ho
    refine ⟨?_, Or.inl ⟨by rfl, fun w _ => ?_⟩, ?_⟩
    rotate_left
    · (go_simp <;> with_reducible rfl)
    try simp only [Act.put, List.setIfInBounds_toArray, List.set_cons_zero, List.set_cons_succ]
    refine s_take 2 (by as_aux_lemma => kernel_rfl) (by as_aux_lemma => kernel_rfl) (by as_aux_lemma => kernel_rfl) (by as_aux_lemma => kernel_rfl) HD.out (fun oi ho => ?_)
    simp only [List.getElem?_toArray, List.getElem?_cons_succ, List.getElem?_cons_zero, Option.some.injEq] at ho
    subst ho
    refine ⟨?_, Or.inl ⟨by rfl, fun w _ => ?_⟩, ?_⟩
    rotate_left
    · (go_simp <;> with_reducible rfl)
    try simp only [Act.put, List.setIfInBounds_toArray, List.set_cons_zero, List.set_cons_succ]
    refine s_take 3 (by as_aux_lemma => kernel_rfl) (by as_aux_lemma => kernel_rfl) (by as_aux_lemma => kernel_rfl) (by as_aux_lemma => kernel_rfl) HD.out (fun oi ho => ?_)
    simp only [List.getElem?_toArray, List.getElem?_cons_succ, List.getElem?_cons_zero, Option.some.injEq] at ho
    subst ho
    refine ⟨?_, Or.inl ⟨by rfl, fun w _ => ?_⟩, ?_⟩
    rotate_left
    · (go_simp <;> with_reducible rfl)
    try simp only [Act.put, List.setIfInBounds_toArray, List.set_cons_zero, List.set_cons_succ]
    refine s_all (rs := [4]) (by as_aux_lemma => kernel_rfl) (by simp) ?_
    refine s_step 4 (by as_aux_lemma => kernel_rfl) (fun o ho K hK => ?_) AllReadyH.nil
    simp only [List.getElem?_toArray, List.getElem?_cons_succ, List.getElem?_cons_zero, Option.some.injEq] at ho
    subst ho
    go_simp
    refine HOF.out.mono ?_
    rintro e wc ⟨rfl, rfl⟩
    go_wp2_with fail
    refine hK.out _ _ HDA.out ?_
    clear hK K
    try simp only [Act.put, List.setIfInBounds_toArray, List.set_cons_zero, List.set_cons_succ]
    refine s_all (rs := [5]) (by as_aux_lemma => kernel_rfl) (by simp) ?_
    refine s_step 5 (by as_aux_lemma => kernel_rfl) (fun o ho K hK => ?_) AllReadyH.nil
    simp only [List.getElem?_toArray, List.getElem?_cons_succ, List.getElem?_cons_zero, Option.some.injEq] at ho
    subst ho
    go_simp
    refine HFD.out.mono ?_
    rintro e w3 ⟨rfl, hB3⟩
    have HB3 := Lib.hid (below_more HDA.out hB3 HDA.out.size)
    clear hB3
    go_wp2_with fail
    refine hK.out _ _ HB3.out ?_
    clear hK K
    try simp only [Act.put, List.setIfInBounds_toArray, List.set_cons_zero, List.set_cons_succ]
    refine s_take 6 (by as_aux_lemma => kernel_rfl) (by as_aux_lemma => kernel_rfl) (by as_aux_lemma => kernel_rfl) (by as_aux_lemma => kernel_rfl) HB3.out (fun oi ho => ?_)
    simp only [List.getElem?_toArray, List.getElem?_cons_succ, List.getElem?_cons_zero, Option.some.injEq] at ho
    subst ho
    refine ⟨?_, Or.inl ⟨by rfl, fun w _ => ?_⟩, ?_⟩
    rotate_left
    · (go_simp <;> with_reducible rfl)
    try simp only [Act.put, List.setIfInBounds_toArray, List.set_cons_zero, List.set_cons_succ]
    refine s_done (by as_aux_lemma => kernel_rfl) ?_
    skip
    have c0 := HC.out _ HB3.out
    obtain ⟨g, c', ev, d0, -, -⟩ := HX.out _ HB3.out
    rw [getD_ent (by rw [HL.out]; exact hPM)] at d0
    rw [List.length_map, HL.out] at ev
    obtain ⟨rfl, -, rfl⟩ := Value.slice.inj ev
    simp only [entG] at d0
    rw [Nat.zero_add] at d0
    clear ev
    go_wp2
    go_ret2
    exact ⟨rfl, HB3.out⟩
  · rw [if_neg hPM] at HFD ⊢
    go_enter Try.func19, Try.ntmps19
    go_wp2_with fail
    refine HM.out.mono ?_
    rintro e w1 ⟨rfl, rfl⟩
    go_wp2_with fail
    refine s_start 7 (fun W => Below w.heap.size w W) (by as_aux_lemma => kernel_rfl) (by as_aux_lemma => kernel_rfl) HD.out ?_
    refine s_take 0 (by as_aux_lemma => kernel_rfl) (by as_aux_lemma => kernel_rfl) (by as_aux_lemma => kernel_rfl) (by as_aux_lemma => kernel_rfl) HD.out (fun oi ho => ?_)
    simp only [List.getElem?_toArray, List.getElem?_cons_succ, List.getElem?_cons_zero, Option.some.injEq] at ho
    subst ho
    refine ⟨?_, Or.inl ⟨by rfl, fun w _ => ?_⟩, ?_⟩
    rotate_left
    · (go_simp <;> with_reducible rfl)
    try simp only [Act.put, List.setIfInBounds_toArray, List.set_cons_zero, List.set_cons_succ]
    refine s_take 1 (by as_aux_lemma => kernel_rfl) (by as_aux_lemma => kernel_rfl) (by as_aux_lemma => kernel_rfl) (by as_aux_lemma => kernel_rfl) HD.out (fun oi ho => ?_)
    simp only [List.getElem?_toArray, List.getElem?_cons_succ, List.getElem?_cons_zero, Option.some.injEq] at ho
    subst ho
    refine ⟨?_, Or.inl ⟨by rfl, fun w _ => ?_⟩, ?_⟩
    rotate_left
    · (go_simp <;> with_reducible rfl)
    try simp only [Act.put, List.setIfInBounds_toArray, List.set_cons_zero, List.set_cons_succ]
    refine s_take 2 (by as_aux_lemma => kernel_rfl) (by as_aux_lemma => kernel_rfl) (by as_aux_lemma => kernel_rfl) (by as_aux_lemma => kernel_rfl) HD.out (fun oi ho => ?_)
    simp only [List.getElem?_toArray, List.getElem?_cons_succ, List.getElem?_cons_zero, Option.some.injEq] at ho
    subst ho
    refine ⟨?_, Or.inl ⟨by rfl, fun w _ => ?_⟩, ?_⟩
    rotate_left
    · (go_simp <;> with_reducible rfl)
    try simp only [Act.put, List.setIfInBounds_toArray, List.set_cons_zero, List.set_cons_succ]
    refine s_take 3 (by as_aux_lemma => kernel_rfl) (by as_aux_lemma => kernel_rfl) (by as_aux_lemma => kernel_rfl) (by as_aux_lemma => kernel_rfl) HD.out (fun oi ho => ?_)
    simp only [List.getElem?_toArray, List.getElem?_cons_succ, List.getElem?_cons_zero, Option.some.injEq] at ho
    subst ho
    refine ⟨?_, Or.inl ⟨by rfl, fun w _ => ?_⟩, ?_⟩
    rotate_left
    · (go_simp <;> with_reducible rfl)
    try simp only [Act.put, List.setIfInBounds_toArray, List.set_cons_zero, List.set_cons_succ]
    refine s_all (rs := [4]) (by as_aux_lemma => kernel_rfl) (by simp) ?_
    refine s_step 4 (by as_aux_lemma => kernel_rfl) (fun o ho K hK => ?_) AllReadyH.nil
    simp only [List.getElem?_toArray, List.getElem?_cons_succ, List.getElem?_cons_zero, Option.some.injEq] at ho
    subst ho
    go_simp
    refine HOF.out.mono ?_
    rintro e wc ⟨rfl, rfl⟩
    go_wp2_with fail
    refine hK.out _ _ HDA.out ?_
    clear hK K
    try simp only [Act.put, List.setIfInBounds_toArray, List.set_cons_zero, List.set_cons_succ]
    refine s_all (rs := [5]) (by as_aux_lemma => kernel_rfl) (by simp) ?_
    refine s_step 5 (by as_aux_lemma => kernel_rfl) (fun o ho K hK => ?_) AllReadyH.nil
    simp only [List.getElem?_toArray, List.getElem?_cons_succ, List.getElem?_cons_zero, Option.some.injEq] at ho
    subst ho
    go_simp
    refine HFD.out.mono ?_
    rintro e w3 ⟨rfl, hB3⟩
    have HB3 := Lib.hid (below_more HDA.out hB3 HDA.out.size)
    clear hB3
    go_wp2_with fail
    refine hK.out _ _ HB3.out ?_
    clear hK K
    try simp only [Act.put, List.setIfInBounds_toArray, List.set_cons_zero, List.set_cons_succ]
    refine s_take 6 (by as_aux_lemma => kernel_rfl) (by as_aux_lemma => kernel_rfl) (by as_aux_lemma => kernel_rfl) (by as_aux_lemma => kernel_rfl) HB3.out (fun oi ho => ?_)
    simp only [List.getElem?_toArray, List.getElem?_cons_succ, List.getElem?_cons_zero, Option.some.injEq] at ho
    subst ho
    refine ⟨?_, Or.inl ⟨by rfl, fun w _ => ?_⟩, ?_⟩
    rotate_left
    · (go_simp <;> with_reducible rfl)
    try simp only [Act.put, List.setIfInBounds_toArray, List.set_cons_zero, List.set_cons_succ]
    refine s_done (by as_aux_lemma => kernel_rfl) ?_
    skip
    go_wp2
    go_ret2
    exact ⟨rfl, HB3.out⟩
end
end -- TbJ

section -- TbK
open Go.RowKit Go.Maps
set_option linter.unusedVariables false
set_option linter.unusedSimpArgs false
set_option maxRecDepth 100000
set_option maxHeartbeats 4000000

theorem contains_any (w : World) (v : Value) (xs : List Int) (x : Int) (hx : IntsAt w v xs) (hl : xs.length ≤ 1000000) :
    Calls Try.prog 46 #[v, .int .i64 x] w fun e w' => e = .returned (.bool (decide (x ∈ xs))) ∧ w' = w := by
  obtain ⟨p, c, rfl, hc, hh⟩ := hx
  by_cases h0 : xs.length = 0
  · have e : xs = [] := List.eq_nil_of_length_eq_zero h0
    subst e
    exact Try.slices_Contains_int_empty p c x w
  · obtain ⟨g, off, rfl, hcc⟩ := hh (by omega)
    have h := Try.slices_Contains_int g off xs.length c xs x w (Nat.le_refl _) (by omega) hcc
    rw [List.take_of_length_le (Nat.le_refl _)] at h
    refine h.mono fun e w' ⟨h1, h2⟩ => ⟨?_, h2⟩
    rw [h1]
    congr 2
    rw [Bool.eq_iff_iff]
    simp [List.contains_iff_mem]

/-- Is a body as long as it must be? -/
theorem fits_any (w : World) (h : HeadV) (v : Value) (hv : TableAt w v h.rows) (hd : HeadOk h) (pb : Option Addr) (n c : Nat) (hn : n ≤ 140737488355328) :
    Calls Try.prog 47 #[headVal h v, .slice pb n c] w fun e w' => e = .returned (.bool (decide (n = atT h.rows h.rows.length))) ∧ Below w.heap.size w w' := by
  have HV := Lib.hid hv
  have HDT := Lib.hid hd.1
  obtain ⟨hS, hF, hI, hN, hD, rows⟩ := h
  have HBX := Lib.hid (HeadBox.new w ⟨hS, hF, hI, hN, hD, rows⟩ v)
  have HA := Lib.hid (balT w (.cells #[.int .i64 hS, .int .i64 hF, .int .i64 hI, .int .i64 hN, .int .i64 hD, v] 31))
  dsimp only at HBX HV HDT ⊢
  have y3 := HBX.out.c3
  have y5 := HBX.out.c5
  obtain ⟨L, hL⟩ : ∃ L, atT rows rows.length = L := ⟨_, rfl⟩
  have HLG := Lib.hid (show Calls Try.prog 51 #[.int .i64 hN, v] (w.alloc (.cells #[.int .i64 hS, .int .i64 hF, .int .i64 hI, .int .i64 hN, .int .i64 hD, v] 31)) fun e w' => e = .returned (.tuple #[.int .i64 (L : Int), .int .i64 0]) ∧ Below (w.alloc (.cells #[.int .i64 hS, .int .i64 hF, .int .i64 hI, .int .i64 hN, .int .i64 hD, v] 31)).heap.size (w.alloc (.cells #[.int .i64 hS, .int .i64 hF, .int .i64 hI, .int .i64 hN, .int .i64 hD, v] 31)) w' from by
    have := long_ok (w.alloc (.cells #[.int .i64 hS, .int .i64 hF, .int .i64 hI, .int .i64 hN, .int .i64 hD, v] 31)) hN v rows (HV.out.below HA.out) HDT.out
    rw [hL] at this
    exact this)
  obtain ⟨pv, cv, hvv⟩ := hv.shape
  subst hvv
  rw [hL]
  clear hL hv hd
  dsimp only at y3
  by_cases e : n = L
  · subst e
    go_enter Try.func47, Try.ntmps47
    go_wp2_with fail
    refine HLG.out.mono ?_
    rintro e w3 ⟨rfl, hB3⟩
    have HB3 := Lib.hid (below_more HA.out hB3 HA.out.size)
    clear hB3 y3 y5
    go_wp2
    go_ret
    exact ⟨by simp, HB3.out⟩
  · have e1 : ((n : Int) == (L : Int)) = false := by simp; omega
    go_enter Try.func47, Try.ntmps47
    go_wp2_with fail
    refine HLG.out.mono ?_
    rintro e w3 ⟨rfl, hB3⟩
    have HB3 := Lib.hid (below_more HA.out hB3 HA.out.size)
    clear hB3 y3 y5
    go_wp2
    go_ret
    exact ⟨by simp [e], HB3.out⟩

/-- What Put tells ahead of all: 0: it may be put. -/
def refE (gs : List GD) (h : HeadV) (n : Nat) (cn : Int) : Int :=
  if ¬ HeadOk h then 2
  else if posG h.frame gs < gs.length then
    if ¬ LikeH h (gs.getD (posG h.frame gs) default).H then 13
    else if h.index ∈ (gs.getD (posG h.frame gs) default).hs.map (·.1) ∧ n = atT h.rows h.rows.length then 9
    else if n ≠ atT h.rows h.rows.length then 2
    else if cn < (bytesG (gs.getD (posG h.frame gs) default) : Int) + (n : Int) then 16 else 0
  else if n ≠ atT h.rows h.rows.length then 2
  else if cn < (n : Int) then 16 else 0
section
variable {w w' : World} {base tb : Nat} {gn cn : Int} {v : Value} {gs : List GD}
theorem refuses_any (ht : TabS w base tb gn cn v gs) (h : HeadV) (vh : Value) (hv : TableAt w vh h.rows) (pb : Option Addr) (n c : Nat) (hn : n ≤ 140737488355328) :
    Calls Try.prog 29 #[.pointer (some ⟨tb, 0, none⟩), headVal h vh, .slice pb n c] w fun e w' => e = .returned (.int .i64 (refE gs h n cn)) ∧ Below w.heap.size w w' := by
  obtain ⟨pv, cv, hvv⟩ := hv.shape
  subst hvv
  obtain ⟨hS, hF, hI, hN, hD, rows⟩ := h
  dsimp only at hv ⊢
  obtain ⟨M, hM⟩ : ∃ M, rows.length = M := ⟨_, rfl⟩
  rw [hM] at hv
  have HT := Lib.hid ht
  have HVT := Lib.hid hv
  have HX := Lib.hid (fun (W0 W : World) (hA : Below w.heap.size w W0) (hB : Below W0.heap.size W0 W) => below_more hA hB hA.size)
  obtain ⟨w0, hw0⟩ : ∃ w0, w.alloc (.cells #[.int .i64 hS, .int .i64 hF, .int .i64 hI, .int .i64 hN, .int .i64 hD, .slice pv M cv] 31) = w0 := ⟨_, rfl⟩
  have HBX := HeadBox.new w ⟨hS, hF, hI, hN, hD, rows⟩ (.slice pv M cv)
  have HA := balT w (.cells #[.int .i64 hS, .int .i64 hF, .int .i64 hI, .int .i64 hN, .int .i64 hD, .slice pv M cv] 31)
  dsimp only at HBX
  rw [hw0] at HBX HA
  have HA := Lib.hid HA
  have HY := Lib.hid (fun W (hB : Below w0.heap.size w0 W) => HBX.below hB)
  have HR := Lib.hid (fun W (hB : Below w0.heap.size w0 W) => show Calls Try.prog 45 #[.agg #[.int .i64 hS, .int .i64 hF, .int .i64 hI, .int .i64 hN, .int .i64 hD, .slice pv M cv]] W fun e w' => e = .returned (.bool (decide (HeadOk ⟨hS, hF, hI, hN, hD, rows⟩))) ∧ Below W.heap.size W w' from hright_any W ⟨hS, hF, hI, hN, hD, rows⟩ (.slice pv M cv) (hv.below (below_more HA.out hB HA.out.size)))
  have HF := Lib.hid (fun W (hB : Below w0.heap.size w0 W) => tfind_any (ht.below (below_more HA.out hB HA.out.size)) hF)
  have HC := Lib.hid (fun W (hB : Below w0.heap.size w0 W) => (ht.below (below_more HA.out hB HA.out.size)).row.c3)
  clear HBX
  by_cases hd : HeadOk ⟨hS, hF, hI, hN, hD, rows⟩
  · rw [decide_eq_true hd] at HR
    obtain ⟨ln, hln⟩ : ∃ x, atT rows rows.length = x := ⟨_, rfl⟩
    have HFT := Lib.hid (fun W (hB : Below w0.heap.size w0 W) => show Calls Try.prog 47 #[.agg #[.int .i64 hS, .int .i64 hF, .int .i64 hI, .int .i64 hN, .int .i64 hD, .slice pv M cv], .slice pb n c] W fun e w' => e = .returned (.bool (decide (n = ln))) ∧ Below W.heap.size W w' from by
      have := fits_any W ⟨hS, hF, hI, hN, hD, rows⟩ (.slice pv M cv) (hv.below (below_more HA.out hB HA.out.size)) hd pb n c hn
      dsimp only at this
      rw [hln] at this
      exact this)
    by_cases hp : posG hF gs < gs.length
    · have hV : findV hF gs = .tuple #[.pointer (some ⟨(gs.getD (posG hF gs) default).blk, 0, none⟩), .bool true] := by unfold findV; rw [if_pos hp]
      rw [hV] at HF
      have hgm := getD_mem hp
      have HE := Lib.hid (show refE gs ⟨hS, hF, hI, hN, hD, rows⟩ n cn = if ¬ LikeH ⟨hS, hF, hI, hN, hD, rows⟩ (gs.getD (posG hF gs) default).H then 13 else if hI ∈ (gs.getD (posG hF gs) default).hs.map (·.1) ∧ n = ln then 9 else if n ≠ ln then 2 else if cn < (bytesG (gs.getD (posG hF gs) default) : Int) + (n : Int) then 16 else 0 from by
        unfold refE
        rw [if_neg (by simp [hd])]
        dsimp only
        rw [if_pos hp, hln])
      obtain ⟨G, hG⟩ : ∃ G, gs.getD (posG hF gs) default = G := ⟨_, rfl⟩
      rw [hG] at hgm HE HF
      have hGA := ht.grp G hgm
      have HGB := Lib.hid (fun W (hB : Below w0.heap.size w0 W) => gbytes_any (GrpAt.below hGA (below_more HA.out hB HA.out.size)))
      have HGH := Lib.hid (fun W (hB : Below w0.heap.size w0 W) => ghead_any (GrpAt.below hGA (below_more HA.out hB HA.out.size)))
      have HGI := Lib.hid (fun W (hB : Below w0.heap.size w0 W) => gidx_any (GrpAt.below hGA (below_more HA.out hB HA.out.size)) (by have := GrpAt.few hGA; omega))
      have HLK := Lib.hid (fun W (hB : Below w0.heap.size w0 W) (v2 : Value) (h2 : TableAt W v2 G.H.rows) => show Calls Try.prog 21 #[.agg #[.int .i64 hS, .int .i64 hF, .int .i64 hI, .int .i64 hN, .int .i64 hD, .slice pv M cv], headVal ⟨G.H.stream, G.H.frame, 0, G.H.n, G.H.deadline, G.H.rows⟩ v2] W fun e w' => e = .returned (.bool (decide (LikeH ⟨hS, hF, hI, hN, hD, rows⟩ G.H))) ∧ Below W.heap.size W w' from
        like_any W ⟨hS, hF, hI, hN, hD, rows⟩ ⟨G.H.stream, G.H.frame, 0, G.H.n, G.H.deadline, G.H.rows⟩ (.slice pv M cv) v2 (hv.below (below_more HA.out hB HA.out.size)) h2 (by have := hd.1.2.2.2.1; dsimp only at this ⊢; omega))
      have hbd := hGA.bound
      have HBG := Lib.hid (show G.hs.length * atT G.H.rows G.H.rows.length = bytesG G from rfl)
      rw [HBG.out] at HGB
      have HFW := Lib.hid (show G.hs.length ≤ 255 from GrpAt.few hGA)
      obtain ⟨bb, hbb⟩ : ∃ x, bytesG G = x := ⟨_, rfl⟩
      rw [hbb] at HGB hbd HE
      obtain ⟨gb, hgb⟩ : ∃ x, G.blk = x := ⟨_, rfl⟩
      rw [hgb] at HGB HGH HGI HF
      rw [HE.out]
      clear hG hgm hGA hbb hgb hV hp HE hln hv ht
      by_cases hl : LikeH ⟨hS, hF, hI, hN, hD, rows⟩ G.H
      · rw [if_neg (by simp [hl])]
        rw [decide_eq_true hl] at HLK
        have hidl : (G.hs.map (·.1)).length ≤ 1000000 := by rw [List.length_map]; have := HFW.out; omega
        by_cases hx : hI ∈ G.hs.map (·.1)
        · have HCN := Lib.hid (fun W v6 (h6 : IntsAt W v6 (G.hs.map (·.1))) => show Calls Try.prog 46 #[v6, .int .i64 hI] W fun e w' => e = .returned (.bool true) ∧ w' = W from by
            have := contains_any W v6 _ hI h6 hidl
            rwa [decide_eq_true hx] at this)
          by_cases hnl : n = ln
          · rw [if_pos ⟨hx, hnl⟩]
            rw [decide_eq_true hnl] at HFT
            clear hl hx hidl hnl hd
            go_enter Try.func29, Try.ntmps29
            have y0 := (HY.out w0 (Below.refl _ w0)).c0
            have y1 := (HY.out w0 (Below.refl _ w0)).c1
            have y2 := (HY.out w0 (Below.refl _ w0)).c2
            have y3 := (HY.out w0 (Below.refl _ w0)).c3
            have y4 := (HY.out w0 (Below.refl _ w0)).c4
            have y5 := (HY.out w0 (Below.refl _ w0)).c5
            dsimp only at y0 y1 y2 y3 y4
            go_wp2_with fail
            refine (HR.out _ (Below.refl _ w0)).mono ?_
            rintro e w1 ⟨rfl, hB1⟩
            have HB1 := Lib.hid hB1
            clear y0 y1 y2 y3 y4 y5 hB1
            have y0 := (HY.out w1 HB1.out).c0
            have y1 := (HY.out w1 HB1.out).c1
            have y2 := (HY.out w1 HB1.out).c2
            have y3 := (HY.out w1 HB1.out).c3
            have y4 := (HY.out w1 HB1.out).c4
            have y5 := (HY.out w1 HB1.out).c5
            dsimp only at y0 y1 y2 y3 y4
            go_wp2_with fail
            refine (HF.out _ HB1.out).mono ?_
            rintro e w2 ⟨rfl, hB2⟩
            have HB2 := Lib.hid (below_more HB1.out hB2 HB1.out.size)
            clear y0 y1 y2 y3 y4 y5 hB2
            go_wp2_with fail
            refine (HGB.out _ HB2.out).mono ?_
            rintro e w3 ⟨rfl, hB3⟩
            have HB3 := Lib.hid (below_more HB2.out hB3 HB2.out.size)
            have HD3 := Lib.hid (show Below w0.heap.size w0 w3.drew from below_more HB3.out ((Kept.refl (fun _ => False) w3).drew.toBelow (Nat.le_refl _) (fun _ h => h.elim)) HB3.out.size)
            clear hB3
            go_wp2_with fail
            refine s_start 6 (fun W => Below w0.heap.size w0 W) (by as_aux_lemma => kernel_rfl) (by as_aux_lemma => kernel_rfl) HD3.out ?_
            refine s_take 0 (by as_aux_lemma => kernel_rfl) (by as_aux_lemma => kernel_rfl) (by as_aux_lemma => kernel_rfl) (by as_aux_lemma => kernel_rfl) HD3.out (fun oi ho => ?_)
            simp only [List.getElem?_toArray, List.getElem?_cons_succ, List.getElem?_cons_zero, Option.some.injEq] at ho
            subst ho
            refine ⟨.agg #[.int .i64 hS, .int .i64 hF, .int .i64 hI, .int .i64 hN, .int .i64 hD, .slice pv M cv], Or.inl ⟨by rfl, fun w' hS' => ?_⟩, ?_⟩
            · have z0 := (HY.out _ hS').c0
              have z1 := (HY.out _ hS').c1
              have z2 := (HY.out _ hS').c2
              have z3 := (HY.out _ hS').c3
              have z4 := (HY.out _ hS').c4
              have z5 := (HY.out _ hS').c5
              dsimp only at z0 z1 z2 z3 z4
              (go_simp <;> with_reducible rfl)
            try simp only [Act.put, List.setIfInBounds_toArray, List.set_cons_zero, List.set_cons_succ]
            refine s_take 1 (by as_aux_lemma => kernel_rfl) (by as_aux_lemma => kernel_rfl) (by as_aux_lemma => kernel_rfl) (by as_aux_lemma => kernel_rfl) HD3.out (fun oi ho => ?_)
            simp only [List.getElem?_toArray, List.getElem?_cons_succ, List.getElem?_cons_zero, Option.some.injEq] at ho
            subst ho
            refine ⟨?_, Or.inl ⟨by rfl, fun w _ => ?_⟩, ?_⟩
            rotate_left
            · (go_simp <;> with_reducible rfl)
            try simp only [Act.put, List.setIfInBounds_toArray, List.set_cons_zero, List.set_cons_succ]
            refine s_all (rs := [2]) (by as_aux_lemma => kernel_rfl) (by simp) ?_
            refine s_step 2 (by as_aux_lemma => kernel_rfl) (fun o ho K hK => ?_) AllReadyH.nil
            simp only [List.getElem?_toArray, List.getElem?_cons_succ, List.getElem?_cons_zero, Option.some.injEq] at ho
            subst ho
            go_simp
            refine (HGH.out _ HD3.out).mono ?_
            rintro e w4 ⟨v4, rfl, ht4, hB4⟩
            have HT4 := Lib.hid ht4
            have HB4 := Lib.hid (below_more HD3.out hB4 HD3.out.size)
            clear ht4 hB4
            go_wp2_with fail
            refine hK.out _ _ HB4.out ?_
            clear hK K
            try simp only [Act.put, List.setIfInBounds_toArray, List.set_cons_zero, List.set_cons_succ]
            refine s_all (rs := [3]) (by as_aux_lemma => kernel_rfl) (by simp) ?_
            refine s_step 3 (by as_aux_lemma => kernel_rfl) (fun o ho K hK => ?_) AllReadyH.nil
            simp only [List.getElem?_toArray, List.getElem?_cons_succ, List.getElem?_cons_zero, Option.some.injEq] at ho
            subst ho
            go_simp
            refine (HLK.out _ HB4.out v4 HT4.out).mono ?_
            rintro e w5 ⟨rfl, hB5⟩
            have HB5 := Lib.hid (below_more HB4.out hB5 HB4.out.size)
            clear hB5
            go_wp2_with fail
            refine hK.out _ _ HB5.out ?_
            clear hK K
            try simp only [Act.put, List.setIfInBounds_toArray, List.set_cons_zero, List.set_cons_succ]
            refine s_take 4 (by as_aux_lemma => kernel_rfl) (by as_aux_lemma => kernel_rfl) (by as_aux_lemma => kernel_rfl) (by as_aux_lemma => kernel_rfl) HB5.out (fun oi ho => ?_)
            simp only [List.getElem?_toArray, List.getElem?_cons_succ, List.getElem?_cons_zero, Option.some.injEq] at ho
            subst ho
            refine ⟨?_, Or.inl ⟨by rfl, fun w _ => ?_⟩, ?_⟩
            rotate_left
            · (go_simp <;> with_reducible rfl)
            try simp only [Act.put, List.setIfInBounds_toArray, List.set_cons_zero, List.set_cons_succ]
            refine s_take 5 (by as_aux_lemma => kernel_rfl) (by as_aux_lemma => kernel_rfl) (by as_aux_lemma => kernel_rfl) (by as_aux_lemma => kernel_rfl) HB5.out (fun oi ho => ?_)
            simp only [List.getElem?_toArray, List.getElem?_cons_succ, List.getElem?_cons_zero, Option.some.injEq] at ho
            subst ho
            refine ⟨?_, Or.inl ⟨by rfl, fun w _ => ?_⟩, ?_⟩
            rotate_left
            · (go_simp <;> with_reducible rfl)
            try simp only [Act.put, List.setIfInBounds_toArray, List.set_cons_zero, List.set_cons_succ]
            refine s_done (by as_aux_lemma => kernel_rfl) ?_
            skip
            have HD5 := Lib.hid (show Below w0.heap.size w0 w5.drew from below_more HB5.out ((Kept.refl (fun _ => False) w5).drew.toBelow (Nat.le_refl _) (fun _ h => h.elim)) HB5.out.size)
            go_wp2_with fail
            refine s_start 11 (fun W => Below w0.heap.size w0 W) (by as_aux_lemma => kernel_rfl) (by as_aux_lemma => kernel_rfl) HD5.out ?_
            refine s_take 0 (by as_aux_lemma => kernel_rfl) (by as_aux_lemma => kernel_rfl) (by as_aux_lemma => kernel_rfl) (by as_aux_lemma => kernel_rfl) HD5.out (fun oi ho => ?_)
            simp only [List.getElem?_toArray, List.getElem?_cons_succ, List.getElem?_cons_zero, Option.some.injEq] at ho
            subst ho
            refine ⟨?_, Or.inl ⟨by rfl, fun w _ => ?_⟩, ?_⟩
            rotate_left
            · (go_simp <;> with_reducible rfl)
            try simp only [Act.put, List.setIfInBounds_toArray, List.set_cons_zero, List.set_cons_succ]
            refine s_take 2 (by as_aux_lemma => kernel_rfl) (by as_aux_lemma => kernel_rfl) (by as_aux_lemma => kernel_rfl) (by as_aux_lemma => kernel_rfl) HD5.out (fun oi ho => ?_)
            simp only [List.getElem?_toArray, List.getElem?_cons_succ, List.getElem?_cons_zero, Option.some.injEq] at ho
            subst ho
            refine ⟨?_, Or.inl ⟨by rfl, fun w _ => ?_⟩, ?_⟩
            rotate_left
            · (go_simp <;> with_reducible rfl)
            try simp only [Act.put, List.setIfInBounds_toArray, List.set_cons_zero, List.set_cons_succ]
            refine s_take 3 (by as_aux_lemma => kernel_rfl) (by as_aux_lemma => kernel_rfl) (by as_aux_lemma => kernel_rfl) (by as_aux_lemma => kernel_rfl) HD5.out (fun oi ho => ?_)
            simp only [List.getElem?_toArray, List.getElem?_cons_succ, List.getElem?_cons_zero, Option.some.injEq] at ho
            subst ho
            refine ⟨.int .i64 hI, Or.inl ⟨by rfl, fun w' hS' => ?_⟩, ?_⟩
            · have z0 := (HY.out _ hS').c0
              have z1 := (HY.out _ hS').c1
              have z2 := (HY.out _ hS').c2
              have z3 := (HY.out _ hS').c3
              have z4 := (HY.out _ hS').c4
              have z5 := (HY.out _ hS').c5
              dsimp only at z0 z1 z2 z3 z4
              (go_simp <;> with_reducible rfl)
            try simp only [Act.put, List.setIfInBounds_toArray, List.set_cons_zero, List.set_cons_succ]
            refine s_all (rs := [1]) (by as_aux_lemma => kernel_rfl) (by simp) ?_
            refine s_step 1 (by as_aux_lemma => kernel_rfl) (fun o ho K hK => ?_) AllReadyH.nil
            simp only [List.getElem?_toArray, List.getElem?_cons_succ, List.getElem?_cons_zero, Option.some.injEq] at ho
            subst ho
            go_simp
            refine (HGI.out _ HD5.out).mono ?_
            rintro e w6 ⟨v6, rfl, ht6, hB6⟩
            have HT6 := Lib.hid ht6
            have HB6 := Lib.hid (below_more HD5.out hB6 HD5.out.size)
            clear ht6 hB6
            go_wp2_with fail
            refine hK.out _ _ HB6.out ?_
            clear hK K
            try simp only [Act.put, List.setIfInBounds_toArray, List.set_cons_zero, List.set_cons_succ]
            refine s_all (rs := [4]) (by as_aux_lemma => kernel_rfl) (by simp) ?_
            refine s_step 4 (by as_aux_lemma => kernel_rfl) (fun o ho K hK => ?_) AllReadyH.nil
            simp only [List.getElem?_toArray, List.getElem?_cons_succ, List.getElem?_cons_zero, Option.some.injEq] at ho
            subst ho
            go_simp
            refine (HCN.out _ v6 HT6.out).mono ?_
            rintro e w7 ⟨rfl, rfl⟩
            go_wp2_with fail
            refine hK.out _ _ HB6.out ?_
            clear hK K
            try simp only [Act.put, List.setIfInBounds_toArray, List.set_cons_zero, List.set_cons_succ]
            refine s_take 5 (by as_aux_lemma => kernel_rfl) (by as_aux_lemma => kernel_rfl) (by as_aux_lemma => kernel_rfl) (by as_aux_lemma => kernel_rfl) HB6.out (fun oi ho => ?_)
            simp only [List.getElem?_toArray, List.getElem?_cons_succ, List.getElem?_cons_zero, Option.some.injEq] at ho
            subst ho
            refine ⟨?_, Or.inl ⟨by rfl, fun w _ => ?_⟩, ?_⟩
            rotate_left
            · (go_simp <;> with_reducible rfl)
            try simp only [Act.put, List.setIfInBounds_toArray, List.set_cons_zero, List.set_cons_succ]
            refine s_take 6 (by as_aux_lemma => kernel_rfl) (by as_aux_lemma => kernel_rfl) (by as_aux_lemma => kernel_rfl) (by as_aux_lemma => kernel_rfl) HB6.out (fun oi ho => ?_)
            simp only [List.getElem?_toArray, List.getElem?_cons_succ, List.getElem?_cons_zero, Option.some.injEq] at ho
            subst ho
            refine ⟨.agg #[.int .i64 hS, .int .i64 hF, .int .i64 hI, .int .i64 hN, .int .i64 hD, .slice pv M cv], Or.inl ⟨by rfl, fun w' hS' => ?_⟩, ?_⟩
            · have z0 := (HY.out _ hS').c0
              have z1 := (HY.out _ hS').c1
              have z2 := (HY.out _ hS').c2
              have z3 := (HY.out _ hS').c3
              have z4 := (HY.out _ hS').c4
              have z5 := (HY.out _ hS').c5
              dsimp only at z0 z1 z2 z3 z4
              (go_simp <;> with_reducible rfl)
            try simp only [Act.put, List.setIfInBounds_toArray, List.set_cons_zero, List.set_cons_succ]
            refine s_take 7 (by as_aux_lemma => kernel_rfl) (by as_aux_lemma => kernel_rfl) (by as_aux_lemma => kernel_rfl) (by as_aux_lemma => kernel_rfl) HB6.out (fun oi ho => ?_)
            simp only [List.getElem?_toArray, List.getElem?_cons_succ, List.getElem?_cons_zero, Option.some.injEq] at ho
            subst ho
            refine ⟨?_, Or.inl ⟨by rfl, fun w _ => ?_⟩, ?_⟩
            rotate_left
            · (go_simp <;> with_reducible rfl)
            try simp only [Act.put, List.setIfInBounds_toArray, List.set_cons_zero, List.set_cons_succ]
            refine s_all (rs := [8]) (by as_aux_lemma => kernel_rfl) (by simp) ?_
            refine s_step 8 (by as_aux_lemma => kernel_rfl) (fun o ho K hK => ?_) AllReadyH.nil
            simp only [List.getElem?_toArray, List.getElem?_cons_succ, List.getElem?_cons_zero, Option.some.injEq] at ho
            subst ho
            go_simp
            refine (HFT.out _ HB6.out).mono ?_
            rintro e w8 ⟨rfl, hB8⟩
            have HB8 := Lib.hid (below_more HB6.out hB8 HB6.out.size)
            clear hB8
            go_wp2_with fail
            refine hK.out _ _ HB8.out ?_
            clear hK K
            try simp only [Act.put, List.setIfInBounds_toArray, List.set_cons_zero, List.set_cons_succ]
            refine s_take 9 (by as_aux_lemma => kernel_rfl) (by as_aux_lemma => kernel_rfl) (by as_aux_lemma => kernel_rfl) (by as_aux_lemma => kernel_rfl) HB8.out (fun oi ho => ?_)
            simp only [List.getElem?_toArray, List.getElem?_cons_succ, List.getElem?_cons_zero, Option.some.injEq] at ho
            subst ho
            refine ⟨?_, Or.inl ⟨by rfl, fun w _ => ?_⟩, ?_⟩
            rotate_left
            · (go_simp <;> with_reducible rfl)
            try simp only [Act.put, List.setIfInBounds_toArray, List.set_cons_zero, List.set_cons_succ]
            refine s_take 10 (by as_aux_lemma => kernel_rfl) (by as_aux_lemma => kernel_rfl) (by as_aux_lemma => kernel_rfl) (by as_aux_lemma => kernel_rfl) HB8.out (fun oi ho => ?_)
            simp only [List.getElem?_toArray, List.getElem?_cons_succ, List.getElem?_cons_zero, Option.some.injEq] at ho
            subst ho
            refine ⟨?_, Or.inl ⟨by rfl, fun w _ => ?_⟩, ?_⟩
            rotate_left
            · (go_simp <;> with_reducible rfl)
            try simp only [Act.put, List.setIfInBounds_toArray, List.set_cons_zero, List.set_cons_succ]
            refine s_done (by as_aux_lemma => kernel_rfl) ?_
            skip
            go_wp2
            go_ret
            exact ⟨rfl, below_more HA.out HB8.out HA.out.size⟩
          · rw [if_neg (fun h => hnl h.2), if_pos hnl]
            rw [decide_eq_false hnl] at HFT
            clear hl hx hidl hnl hd
            go_enter Try.func29, Try.ntmps29
            have y0 := (HY.out w0 (Below.refl _ w0)).c0
            have y1 := (HY.out w0 (Below.refl _ w0)).c1
            have y2 := (HY.out w0 (Below.refl _ w0)).c2
            have y3 := (HY.out w0 (Below.refl _ w0)).c3
            have y4 := (HY.out w0 (Below.refl _ w0)).c4
            have y5 := (HY.out w0 (Below.refl _ w0)).c5
            dsimp only at y0 y1 y2 y3 y4
            go_wp2_with fail
            refine (HR.out _ (Below.refl _ w0)).mono ?_
            rintro e w1 ⟨rfl, hB1⟩
            have HB1 := Lib.hid hB1
            clear y0 y1 y2 y3 y4 y5 hB1
            have y0 := (HY.out w1 HB1.out).c0
            have y1 := (HY.out w1 HB1.out).c1
            have y2 := (HY.out w1 HB1.out).c2
            have y3 := (HY.out w1 HB1.out).c3
            have y4 := (HY.out w1 HB1.out).c4
            have y5 := (HY.out w1 HB1.out).c5
            dsimp only at y0 y1 y2 y3 y4
            go_wp2_with fail
            refine (HF.out _ HB1.out).mono ?_
            rintro e w2 ⟨rfl, hB2⟩
            have HB2 := Lib.hid (below_more HB1.out hB2 HB1.out.size)
            clear y0 y1 y2 y3 y4 y5 hB2
            go_wp2_with fail
            refine (HGB.out _ HB2.out).mono ?_
            rintro e w3 ⟨rfl, hB3⟩
            have HB3 := Lib.hid (below_more HB2.out hB3 HB2.out.size)
            have HD3 := Lib.hid (show Below w0.heap.size w0 w3.drew from below_more HB3.out ((Kept.refl (fun _ => False) w3).drew.toBelow (Nat.le_refl _) (fun _ h => h.elim)) HB3.out.size)
            clear hB3
            go_wp2_with fail
            refine s_start 6 (fun W => Below w0.heap.size w0 W) (by as_aux_lemma => kernel_rfl) (by as_aux_lemma => kernel_rfl) HD3.out ?_
            refine s_take 0 (by as_aux_lemma => kernel_rfl) (by as_aux_lemma => kernel_rfl) (by as_aux_lemma => kernel_rfl) (by as_aux_lemma => kernel_rfl) HD3.out (fun oi ho => ?_)
            simp only [List.getElem?_toArray, List.getElem?_cons_succ, List.getElem?_cons_zero, Option.some.injEq] at ho
            subst ho
            refine ⟨.agg #[.int .i64 hS, .int .i64 hF, .int .i64 hI, .int .i64 hN, .int .i64 hD, .slice pv M cv], Or.inl ⟨by rfl, fun w' hS' => ?_⟩, ?_⟩
            · have z0 := (HY.out _ hS').c0
              have z1 := (HY.out _ hS').c1
              have z2 := (HY.out _ hS').c2
              have z3 := (HY.out _ hS').c3
              have z4 := (HY.out _ hS').c4
              have z5 := (HY.out _ hS').c5
              dsimp only at z0 z1 z2 z3 z4
              (go_simp <;> with_reducible rfl)
            try simp only [Act.put, List.setIfInBounds_toArray, List.set_cons_zero, List.set_cons_succ]
            refine s_take 1 (by as_aux_lemma => kernel_rfl) (by as_aux_lemma => kernel_rfl) (by as_aux_lemma => kernel_rfl) (by as_aux_lemma => kernel_rfl) HD3.out (fun oi ho => ?_)
            simp only [List.getElem?_toArray, List.getElem?_cons_succ, List.getElem?_cons_zero, Option.some.injEq] at ho
            subst ho
            refine ⟨?_, Or.inl ⟨by rfl, fun w _ => ?_⟩, ?_⟩
            rotate_left
            · (go_simp <;> with_reducible rfl)
            try simp only [Act.put, List.setIfInBounds_toArray, List.set_cons_zero, List.set_cons_succ]
            refine s_all (rs := [2]) (by as_aux_lemma => kernel_rfl) (by simp) ?_
            refine s_step 2 (by as_aux_lemma => kernel_rfl) (fun o ho K hK => ?_) AllReadyH.nil
            simp only [List.getElem?_toArray, List.getElem?_cons_succ, List.getElem?_cons_zero, Option.some.injEq] at ho
            subst ho
            go_simp
            refine (HGH.out _ HD3.out).mono ?_
            rintro e w4 ⟨v4, rfl, ht4, hB4⟩
            have HT4 := Lib.hid ht4
            have HB4 := Lib.hid (below_more HD3.out hB4 HD3.out.size)
            clear ht4 hB4
            go_wp2_with fail
            refine hK.out _ _ HB4.out ?_
            clear hK K
            try simp only [Act.put, List.setIfInBounds_toArray, List.set_cons_zero, List.set_cons_succ]
            refine s_all (rs := [3]) (by as_aux_lemma => kernel_rfl) (by simp) ?_
            refine s_step 3 (by as_aux_lemma => kernel_rfl) (fun o ho K hK => ?_) AllReadyH.nil
            simp only [List.getElem?_toArray, List.getElem?_cons_succ, List.getElem?_cons_zero, Option.some.injEq] at ho
            subst ho
            go_simp
            refine (HLK.out _ HB4.out v4 HT4.out).mono ?_
            rintro e w5 ⟨rfl, hB5⟩
            have HB5 := Lib.hid (below_more HB4.out hB5 HB4.out.size)
            clear hB5
            go_wp2_with fail
            refine hK.out _ _ HB5.out ?_
            clear hK K
            try simp only [Act.put, List.setIfInBounds_toArray, List.set_cons_zero, List.set_cons_succ]
            refine s_take 4 (by as_aux_lemma => kernel_rfl) (by as_aux_lemma => kernel_rfl) (by as_aux_lemma => kernel_rfl) (by as_aux_lemma => kernel_rfl) HB5.out (fun oi ho => ?_)
            simp only [List.getElem?_toArray, List.getElem?_cons_succ, List.getElem?_cons_zero, Option.some.injEq] at ho
            subst ho
            refine ⟨?_, Or.inl ⟨by rfl, fun w _ => ?_⟩, ?_⟩
            rotate_left
            · (go_simp <;> with_reducible rfl)
            try simp only [Act.put, List.setIfInBounds_toArray, List.set_cons_zero, List.set_cons_succ]
            refine s_take 5 (by as_aux_lemma => kernel_rfl) (by as_aux_lemma => kernel_rfl) (by as_aux_lemma => kernel_rfl) (by as_aux_lemma => kernel_rfl) HB5.out (fun oi ho => ?_)
            simp only [List.getElem?_toArray, List.getElem?_cons_succ, List.getElem?_cons_zero, Option.some.injEq] at ho
            subst ho
            refine ⟨?_, Or.inl ⟨by rfl, fun w _ => ?_⟩, ?_⟩
            rotate_left
            · (go_simp <;> with_reducible rfl)
            try simp only [Act.put, List.setIfInBounds_toArray, List.set_cons_zero, List.set_cons_succ]
            refine s_done (by as_aux_lemma => kernel_rfl) ?_
            skip
            have HD5 := Lib.hid (show Below w0.heap.size w0 w5.drew from below_more HB5.out ((Kept.refl (fun _ => False) w5).drew.toBelow (Nat.le_refl _) (fun _ h => h.elim)) HB5.out.size)
            go_wp2_with fail
            refine s_start 11 (fun W => Below w0.heap.size w0 W) (by as_aux_lemma => kernel_rfl) (by as_aux_lemma => kernel_rfl) HD5.out ?_
            refine s_take 0 (by as_aux_lemma => kernel_rfl) (by as_aux_lemma => kernel_rfl) (by as_aux_lemma => kernel_rfl) (by as_aux_lemma => kernel_rfl) HD5.out (fun oi ho => ?_)
            simp only [List.getElem?_toArray, List.getElem?_cons_succ, List.getElem?_cons_zero, Option.some.injEq] at ho
            subst ho
            refine ⟨?_, Or.inl ⟨by rfl, fun w _ => ?_⟩, ?_⟩
            rotate_left
            · (go_simp <;> with_reducible rfl)
            try simp only [Act.put, List.setIfInBounds_toArray, List.set_cons_zero, List.set_cons_succ]
            refine s_take 2 (by as_aux_lemma => kernel_rfl) (by as_aux_lemma => kernel_rfl) (by as_aux_lemma => kernel_rfl) (by as_aux_lemma => kernel_rfl) HD5.out (fun oi ho => ?_)
            simp only [List.getElem?_toArray, List.getElem?_cons_succ, List.getElem?_cons_zero, Option.some.injEq] at ho
            subst ho
            refine ⟨?_, Or.inl ⟨by rfl, fun w _ => ?_⟩, ?_⟩
            rotate_left
            · (go_simp <;> with_reducible rfl)
            try simp only [Act.put, List.setIfInBounds_toArray, List.set_cons_zero, List.set_cons_succ]
            refine s_take 3 (by as_aux_lemma => kernel_rfl) (by as_aux_lemma => kernel_rfl) (by as_aux_lemma => kernel_rfl) (by as_aux_lemma => kernel_rfl) HD5.out (fun oi ho => ?_)
            simp only [List.getElem?_toArray, List.getElem?_cons_succ, List.getElem?_cons_zero, Option.some.injEq] at ho
            subst ho
            refine ⟨.int .i64 hI, Or.inl ⟨by rfl, fun w' hS' => ?_⟩, ?_⟩
            · have z0 := (HY.out _ hS').c0
              have z1 := (HY.out _ hS').c1
              have z2 := (HY.out _ hS').c2
              have z3 := (HY.out _ hS').c3
              have z4 := (HY.out _ hS').c4
              have z5 := (HY.out _ hS').c5
              dsimp only at z0 z1 z2 z3 z4
              (go_simp <;> with_reducible rfl)
            try simp only [Act.put, List.setIfInBounds_toArray, List.set_cons_zero, List.set_cons_succ]
            refine s_all (rs := [1]) (by as_aux_lemma => kernel_rfl) (by simp) ?_
            refine s_step 1 (by as_aux_lemma => kernel_rfl) (fun o ho K hK => ?_) AllReadyH.nil
            simp only [List.getElem?_toArray, List.getElem?_cons_succ, List.getElem?_cons_zero, Option.some.injEq] at ho
            subst ho
            go_simp
            refine (HGI.out _ HD5.out).mono ?_
            rintro e w6 ⟨v6, rfl, ht6, hB6⟩
            have HT6 := Lib.hid ht6
            have HB6 := Lib.hid (below_more HD5.out hB6 HD5.out.size)
            clear ht6 hB6
            go_wp2_with fail
            refine hK.out _ _ HB6.out ?_
            clear hK K
            try simp only [Act.put, List.setIfInBounds_toArray, List.set_cons_zero, List.set_cons_succ]
            refine s_all (rs := [4]) (by as_aux_lemma => kernel_rfl) (by simp) ?_
            refine s_step 4 (by as_aux_lemma => kernel_rfl) (fun o ho K hK => ?_) AllReadyH.nil
            simp only [List.getElem?_toArray, List.getElem?_cons_succ, List.getElem?_cons_zero, Option.some.injEq] at ho
            subst ho
            go_simp
            refine (HCN.out _ v6 HT6.out).mono ?_
            rintro e w7 ⟨rfl, rfl⟩
            go_wp2_with fail
            refine hK.out _ _ HB6.out ?_
            clear hK K
            try simp only [Act.put, List.setIfInBounds_toArray, List.set_cons_zero, List.set_cons_succ]
            refine s_take 5 (by as_aux_lemma => kernel_rfl) (by as_aux_lemma => kernel_rfl) (by as_aux_lemma => kernel_rfl) (by as_aux_lemma => kernel_rfl) HB6.out (fun oi ho => ?_)
            simp only [List.getElem?_toArray, List.getElem?_cons_succ, List.getElem?_cons_zero, Option.some.injEq] at ho
            subst ho
            refine ⟨?_, Or.inl ⟨by rfl, fun w _ => ?_⟩, ?_⟩
            rotate_left
            · (go_simp <;> with_reducible rfl)
            try simp only [Act.put, List.setIfInBounds_toArray, List.set_cons_zero, List.set_cons_succ]
            refine s_take 6 (by as_aux_lemma => kernel_rfl) (by as_aux_lemma => kernel_rfl) (by as_aux_lemma => kernel_rfl) (by as_aux_lemma => kernel_rfl) HB6.out (fun oi ho => ?_)
            simp only [List.getElem?_toArray, List.getElem?_cons_succ, List.getElem?_cons_zero, Option.some.injEq] at ho
            subst ho
            refine ⟨.agg #[.int .i64 hS, .int .i64 hF, .int .i64 hI, .int .i64 hN, .int .i64 hD, .slice pv M cv], Or.inl ⟨by rfl, fun w' hS' => ?_⟩, ?_⟩
            · have z0 := (HY.out _ hS').c0
              have z1 := (HY.out _ hS').c1
              have z2 := (HY.out _ hS').c2
              have z3 := (HY.out _ hS').c3
              have z4 := (HY.out _ hS').c4
              have z5 := (HY.out _ hS').c5
              dsimp only at z0 z1 z2 z3 z4
              (go_simp <;> with_reducible rfl)
            try simp only [Act.put, List.setIfInBounds_toArray, List.set_cons_zero, List.set_cons_succ]
            refine s_take 7 (by as_aux_lemma => kernel_rfl) (by as_aux_lemma => kernel_rfl) (by as_aux_lemma => kernel_rfl) (by as_aux_lemma => kernel_rfl) HB6.out (fun oi ho => ?_)
            simp only [List.getElem?_toArray, List.getElem?_cons_succ, List.getElem?_cons_zero, Option.some.injEq] at ho
            subst ho
            refine ⟨?_, Or.inl ⟨by rfl, fun w _ => ?_⟩, ?_⟩
            rotate_left
            · (go_simp <;> with_reducible rfl)
            try simp only [Act.put, List.setIfInBounds_toArray, List.set_cons_zero, List.set_cons_succ]
            refine s_all (rs := [8]) (by as_aux_lemma => kernel_rfl) (by simp) ?_
            refine s_step 8 (by as_aux_lemma => kernel_rfl) (fun o ho K hK => ?_) AllReadyH.nil
            simp only [List.getElem?_toArray, List.getElem?_cons_succ, List.getElem?_cons_zero, Option.some.injEq] at ho
            subst ho
            go_simp
            refine (HFT.out _ HB6.out).mono ?_
            rintro e w8 ⟨rfl, hB8⟩
            have HB8 := Lib.hid (below_more HB6.out hB8 HB6.out.size)
            clear hB8
            go_wp2_with fail
            refine hK.out _ _ HB8.out ?_
            clear hK K
            try simp only [Act.put, List.setIfInBounds_toArray, List.set_cons_zero, List.set_cons_succ]
            refine s_take 9 (by as_aux_lemma => kernel_rfl) (by as_aux_lemma => kernel_rfl) (by as_aux_lemma => kernel_rfl) (by as_aux_lemma => kernel_rfl) HB8.out (fun oi ho => ?_)
            simp only [List.getElem?_toArray, List.getElem?_cons_succ, List.getElem?_cons_zero, Option.some.injEq] at ho
            subst ho
            refine ⟨?_, Or.inl ⟨by rfl, fun w _ => ?_⟩, ?_⟩
            rotate_left
            · (go_simp <;> with_reducible rfl)
            try simp only [Act.put, List.setIfInBounds_toArray, List.set_cons_zero, List.set_cons_succ]
            refine s_take 10 (by as_aux_lemma => kernel_rfl) (by as_aux_lemma => kernel_rfl) (by as_aux_lemma => kernel_rfl) (by as_aux_lemma => kernel_rfl) HB8.out (fun oi ho => ?_)
            simp only [List.getElem?_toArray, List.getElem?_cons_succ, List.getElem?_cons_zero, Option.some.injEq] at ho
            subst ho
            refine ⟨?_, Or.inl ⟨by rfl, fun w _ => ?_⟩, ?_⟩
            rotate_left
            · (go_simp <;> with_reducible rfl)
            try simp only [Act.put, List.setIfInBounds_toArray, List.set_cons_zero, List.set_cons_succ]
            refine s_done (by as_aux_lemma => kernel_rfl) ?_
            skip
            have y0 := (HY.out w8 HB8.out).c0
            have y1 := (HY.out w8 HB8.out).c1
            have y2 := (HY.out w8 HB8.out).c2
            have y3 := (HY.out w8 HB8.out).c3
            have y4 := (HY.out w8 HB8.out).c4
            have y5 := (HY.out w8 HB8.out).c5
            dsimp only at y0 y1 y2 y3 y4
            go_wp2_with fail
            refine (HFT.out _ HB8.out).mono ?_
            rintro e w9 ⟨rfl, hB9⟩
            have HB9 := Lib.hid (below_more HB8.out hB9 HB8.out.size)
            clear y0 y1 y2 y3 y4 y5 hB9
            go_wp2
            go_ret
            exact ⟨rfl, below_more HA.out HB9.out HA.out.size⟩
        · have HCN := Lib.hid (fun W v6 (h6 : IntsAt W v6 (G.hs.map (·.1))) => show Calls Try.prog 46 #[v6, .int .i64 hI] W fun e w' => e = .returned (.bool false) ∧ w' = W from by
            have := contains_any W v6 _ hI h6 hidl
            rwa [decide_eq_false hx] at this)
          rw [if_neg (fun h => hx h.1)]
          by_cases hnl : n = ln
          · rw [if_neg (by simp [hnl])]
            rw [decide_eq_true hnl] at HFT
            have hsum : IntKind.i64.wrap ((bb : Int) + (n : Int)) = (bb : Int) + (n : Int) := by rw [IntKind.wrap_i64]; omega
            clear hl hx hidl hnl hd
            by_cases hs : cn < (bb : Int) + (n : Int)
            · rw [if_pos hs]
              go_enter Try.func29, Try.ntmps29
              have y0 := (HY.out w0 (Below.refl _ w0)).c0
              have y1 := (HY.out w0 (Below.refl _ w0)).c1
              have y2 := (HY.out w0 (Below.refl _ w0)).c2
              have y3 := (HY.out w0 (Below.refl _ w0)).c3
              have y4 := (HY.out w0 (Below.refl _ w0)).c4
              have y5 := (HY.out w0 (Below.refl _ w0)).c5
              dsimp only at y0 y1 y2 y3 y4
              go_wp2_with fail
              refine (HR.out _ (Below.refl _ w0)).mono ?_
              rintro e w1 ⟨rfl, hB1⟩
              have HB1 := Lib.hid hB1
              clear y0 y1 y2 y3 y4 y5 hB1
              have y0 := (HY.out w1 HB1.out).c0
              have y1 := (HY.out w1 HB1.out).c1
              have y2 := (HY.out w1 HB1.out).c2
              have y3 := (HY.out w1 HB1.out).c3
              have y4 := (HY.out w1 HB1.out).c4
              have y5 := (HY.out w1 HB1.out).c5
              dsimp only at y0 y1 y2 y3 y4
              go_wp2_with fail
              refine (HF.out _ HB1.out).mono ?_
              rintro e w2 ⟨rfl, hB2⟩
              have HB2 := Lib.hid (below_more HB1.out hB2 HB1.out.size)
              clear y0 y1 y2 y3 y4 y5 hB2
              go_wp2_with fail
              refine (HGB.out _ HB2.out).mono ?_
              rintro e w3 ⟨rfl, hB3⟩
              have HB3 := Lib.hid (below_more HB2.out hB3 HB2.out.size)
              have HD3 := Lib.hid (show Below w0.heap.size w0 w3.drew from below_more HB3.out ((Kept.refl (fun _ => False) w3).drew.toBelow (Nat.le_refl _) (fun _ h => h.elim)) HB3.out.size)
              clear hB3
              go_wp2_with fail
              refine s_start 6 (fun W => Below w0.heap.size w0 W) (by as_aux_lemma => kernel_rfl) (by as_aux_lemma => kernel_rfl) HD3.out ?_
              refine s_take 0 (by as_aux_lemma => kernel_rfl) (by as_aux_lemma => kernel_rfl) (by as_aux_lemma => kernel_rfl) (by as_aux_lemma => kernel_rfl) HD3.out (fun oi ho => ?_)
              simp only [List.getElem?_toArray, List.getElem?_cons_succ, List.getElem?_cons_zero, Option.some.injEq] at ho
              subst ho
              refine ⟨.agg #[.int .i64 hS, .int .i64 hF, .int .i64 hI, .int .i64 hN, .int .i64 hD, .slice pv M cv], Or.inl ⟨by rfl, fun w' hS' => ?_⟩, ?_⟩
              · have z0 := (HY.out _ hS').c0
                have z1 := (HY.out _ hS').c1
                have z2 := (HY.out _ hS').c2
                have z3 := (HY.out _ hS').c3
                have z4 := (HY.out _ hS').c4
                have z5 := (HY.out _ hS').c5
                dsimp only at z0 z1 z2 z3 z4
                (go_simp <;> with_reducible rfl)
              try simp only [Act.put, List.setIfInBounds_toArray, List.set_cons_zero, List.set_cons_succ]
              refine s_take 1 (by as_aux_lemma => kernel_rfl) (by as_aux_lemma => kernel_rfl) (by as_aux_lemma => kernel_rfl) (by as_aux_lemma => kernel_rfl) HD3.out (fun oi ho => ?_)
              simp only [List.getElem?_toArray, List.getElem?_cons_succ, List.getElem?_cons_zero, Option.some.injEq] at ho
              subst ho
              refine ⟨?_, Or.inl ⟨by rfl, fun w _ => ?_⟩, ?_⟩
              rotate_left
              · (go_simp <;> with_reducible rfl)
              try simp only [Act.put, List.setIfInBounds_toArray, List.set_cons_zero, List.set_cons_succ]
              refine s_all (rs := [2]) (by as_aux_lemma => kernel_rfl) (by simp) ?_
              refine s_step 2 (by as_aux_lemma => kernel_rfl) (fun o ho K hK => ?_) AllReadyH.nil
              simp only [List.getElem?_toArray, List.getElem?_cons_succ, List.getElem?_cons_zero, Option.some.injEq] at ho
              subst ho
              go_simp
              refine (HGH.out _ HD3.out).mono ?_
              rintro e w4 ⟨v4, rfl, ht4, hB4⟩
              have HT4 := Lib.hid ht4
              have HB4 := Lib.hid (below_more HD3.out hB4 HD3.out.size)
              clear ht4 hB4
              go_wp2_with fail
              refine hK.out _ _ HB4.out ?_
              clear hK K
              try simp only [Act.put, List.setIfInBounds_toArray, List.set_cons_zero, List.set_cons_succ]
              refine s_all (rs := [3]) (by as_aux_lemma => kernel_rfl) (by simp) ?_
              refine s_step 3 (by as_aux_lemma => kernel_rfl) (fun o ho K hK => ?_) AllReadyH.nil
              simp only [List.getElem?_toArray, List.getElem?_cons_succ, List.getElem?_cons_zero, Option.some.injEq] at ho
              subst ho
              go_simp
              refine (HLK.out _ HB4.out v4 HT4.out).mono ?_
              rintro e w5 ⟨rfl, hB5⟩
              have HB5 := Lib.hid (below_more HB4.out hB5 HB4.out.size)
              clear hB5
              go_wp2_with fail
              refine hK.out _ _ HB5.out ?_
              clear hK K
              try simp only [Act.put, List.setIfInBounds_toArray, List.set_cons_zero, List.set_cons_succ]
              refine s_take 4 (by as_aux_lemma => kernel_rfl) (by as_aux_lemma => kernel_rfl) (by as_aux_lemma => kernel_rfl) (by as_aux_lemma => kernel_rfl) HB5.out (fun oi ho => ?_)
              simp only [List.getElem?_toArray, List.getElem?_cons_succ, List.getElem?_cons_zero, Option.some.injEq] at ho
              subst ho
              refine ⟨?_, Or.inl ⟨by rfl, fun w _ => ?_⟩, ?_⟩
              rotate_left
              · (go_simp <;> with_reducible rfl)
              try simp only [Act.put, List.setIfInBounds_toArray, List.set_cons_zero, List.set_cons_succ]
              refine s_take 5 (by as_aux_lemma => kernel_rfl) (by as_aux_lemma => kernel_rfl) (by as_aux_lemma => kernel_rfl) (by as_aux_lemma => kernel_rfl) HB5.out (fun oi ho => ?_)
              simp only [List.getElem?_toArray, List.getElem?_cons_succ, List.getElem?_cons_zero, Option.some.injEq] at ho
              subst ho
              refine ⟨?_, Or.inl ⟨by rfl, fun w _ => ?_⟩, ?_⟩
              rotate_left
              · (go_simp <;> with_reducible rfl)
              try simp only [Act.put, List.setIfInBounds_toArray, List.set_cons_zero, List.set_cons_succ]
              refine s_done (by as_aux_lemma => kernel_rfl) ?_
              skip
              have HD5 := Lib.hid (show Below w0.heap.size w0 w5.drew from below_more HB5.out ((Kept.refl (fun _ => False) w5).drew.toBelow (Nat.le_refl _) (fun _ h => h.elim)) HB5.out.size)
              go_wp2_with fail
              refine s_start 11 (fun W => Below w0.heap.size w0 W) (by as_aux_lemma => kernel_rfl) (by as_aux_lemma => kernel_rfl) HD5.out ?_
              refine s_take 0 (by as_aux_lemma => kernel_rfl) (by as_aux_lemma => kernel_rfl) (by as_aux_lemma => kernel_rfl) (by as_aux_lemma => kernel_rfl) HD5.out (fun oi ho => ?_)
              simp only [List.getElem?_toArray, List.getElem?_cons_succ, List.getElem?_cons_zero, Option.some.injEq] at ho
              subst ho
              refine ⟨?_, Or.inl ⟨by rfl, fun w _ => ?_⟩, ?_⟩
              rotate_left
              · (go_simp <;> with_reducible rfl)
              try simp only [Act.put, List.setIfInBounds_toArray, List.set_cons_zero, List.set_cons_succ]
              refine s_take 2 (by as_aux_lemma => kernel_rfl) (by as_aux_lemma => kernel_rfl) (by as_aux_lemma => kernel_rfl) (by as_aux_lemma => kernel_rfl) HD5.out (fun oi ho => ?_)
              simp only [List.getElem?_toArray, List.getElem?_cons_succ, List.getElem?_cons_zero, Option.some.injEq] at ho
              subst ho
              refine ⟨?_, Or.inl ⟨by rfl, fun w _ => ?_⟩, ?_⟩
              rotate_left
              · (go_simp <;> with_reducible rfl)
              try simp only [Act.put, List.setIfInBounds_toArray, List.set_cons_zero, List.set_cons_succ]
              refine s_take 3 (by as_aux_lemma => kernel_rfl) (by as_aux_lemma => kernel_rfl) (by as_aux_lemma => kernel_rfl) (by as_aux_lemma => kernel_rfl) HD5.out (fun oi ho => ?_)
              simp only [List.getElem?_toArray, List.getElem?_cons_succ, List.getElem?_cons_zero, Option.some.injEq] at ho
              subst ho
              refine ⟨.int .i64 hI, Or.inl ⟨by rfl, fun w' hS' => ?_⟩, ?_⟩
              · have z0 := (HY.out _ hS').c0
                have z1 := (HY.out _ hS').c1
                have z2 := (HY.out _ hS').c2
                have z3 := (HY.out _ hS').c3
                have z4 := (HY.out _ hS').c4
                have z5 := (HY.out _ hS').c5
                dsimp only at z0 z1 z2 z3 z4
                (go_simp <;> with_reducible rfl)
              try simp only [Act.put, List.setIfInBounds_toArray, List.set_cons_zero, List.set_cons_succ]
              refine s_all (rs := [1]) (by as_aux_lemma => kernel_rfl) (by simp) ?_
              refine s_step 1 (by as_aux_lemma => kernel_rfl) (fun o ho K hK => ?_) AllReadyH.nil
              simp only [List.getElem?_toArray, List.getElem?_cons_succ, List.getElem?_cons_zero, Option.some.injEq] at ho
              subst ho
              go_simp
              refine (HGI.out _ HD5.out).mono ?_
              rintro e w6 ⟨v6, rfl, ht6, hB6⟩
              have HT6 := Lib.hid ht6
              have HB6 := Lib.hid (below_more HD5.out hB6 HD5.out.size)
              clear ht6 hB6
              go_wp2_with fail
              refine hK.out _ _ HB6.out ?_
              clear hK K
              try simp only [Act.put, List.setIfInBounds_toArray, List.set_cons_zero, List.set_cons_succ]
              refine s_all (rs := [4]) (by as_aux_lemma => kernel_rfl) (by simp) ?_
              refine s_step 4 (by as_aux_lemma => kernel_rfl) (fun o ho K hK => ?_) AllReadyH.nil
              simp only [List.getElem?_toArray, List.getElem?_cons_succ, List.getElem?_cons_zero, Option.some.injEq] at ho
              subst ho
              go_simp
              refine (HCN.out _ v6 HT6.out).mono ?_
              rintro e w7 ⟨rfl, rfl⟩
              go_wp2_with fail
              refine hK.out _ _ HB6.out ?_
              clear hK K
              try simp only [Act.put, List.setIfInBounds_toArray, List.set_cons_zero, List.set_cons_succ]
              refine s_take 5 (by as_aux_lemma => kernel_rfl) (by as_aux_lemma => kernel_rfl) (by as_aux_lemma => kernel_rfl) (by as_aux_lemma => kernel_rfl) HB6.out (fun oi ho => ?_)
              simp only [List.getElem?_toArray, List.getElem?_cons_succ, List.getElem?_cons_zero, Option.some.injEq] at ho
              subst ho
              refine ⟨?_, Or.inl ⟨by rfl, fun w _ => ?_⟩, ?_⟩
              rotate_left
              · (go_simp <;> with_reducible rfl)
              try simp only [Act.put, List.setIfInBounds_toArray, List.set_cons_zero, List.set_cons_succ]
              refine s_take 6 (by as_aux_lemma => kernel_rfl) (by as_aux_lemma => kernel_rfl) (by as_aux_lemma => kernel_rfl) (by as_aux_lemma => kernel_rfl) HB6.out (fun oi ho => ?_)
              simp only [List.getElem?_toArray, List.getElem?_cons_succ, List.getElem?_cons_zero, Option.some.injEq] at ho
              subst ho
              refine ⟨undef, Or.inr ⟨by rfl, rfl⟩, ?_⟩
              try simp only [Act.put, List.setIfInBounds_toArray, List.set_cons_zero, List.set_cons_succ]
              refine s_take 7 (by as_aux_lemma => kernel_rfl) (by as_aux_lemma => kernel_rfl) (by as_aux_lemma => kernel_rfl) (by as_aux_lemma => kernel_rfl) HB6.out (fun oi ho => ?_)
              simp only [List.getElem?_toArray, List.getElem?_cons_succ, List.getElem?_cons_zero, Option.some.injEq] at ho
              subst ho
              refine ⟨undef, Or.inr ⟨by rfl, rfl⟩, ?_⟩
              try simp only [Act.put, List.setIfInBounds_toArray, List.set_cons_zero, List.set_cons_succ]
              refine s_take 8 (by as_aux_lemma => kernel_rfl) (by as_aux_lemma => kernel_rfl) (by as_aux_lemma => kernel_rfl) (by as_aux_lemma => kernel_rfl) HB6.out (fun oi ho => ?_)
              simp only [List.getElem?_toArray, List.getElem?_cons_succ, List.getElem?_cons_zero, Option.some.injEq] at ho
              subst ho
              refine ⟨undef, Or.inr ⟨by rfl, rfl⟩, ?_⟩
              try simp only [Act.put, List.setIfInBounds_toArray, List.set_cons_zero, List.set_cons_succ]
              refine s_take 9 (by as_aux_lemma => kernel_rfl) (by as_aux_lemma => kernel_rfl) (by as_aux_lemma => kernel_rfl) (by as_aux_lemma => kernel_rfl) HB6.out (fun oi ho => ?_)
              simp only [List.getElem?_toArray, List.getElem?_cons_succ, List.getElem?_cons_zero, Option.some.injEq] at ho
              subst ho
              refine ⟨?_, Or.inl ⟨by rfl, fun w _ => ?_⟩, ?_⟩
              rotate_left
              · (go_simp <;> with_reducible rfl)
              try simp only [Act.put, List.setIfInBounds_toArray, List.set_cons_zero, List.set_cons_succ]
              refine s_take 10 (by as_aux_lemma => kernel_rfl) (by as_aux_lemma => kernel_rfl) (by as_aux_lemma => kernel_rfl) (by as_aux_lemma => kernel_rfl) HB6.out (fun oi ho => ?_)
              simp only [List.getElem?_toArray, List.getElem?_cons_succ, List.getElem?_cons_zero, Option.some.injEq] at ho
              subst ho
              refine ⟨?_, Or.inl ⟨by rfl, fun w _ => ?_⟩, ?_⟩
              rotate_left
              · (go_simp <;> with_reducible rfl)
              try simp only [Act.put, List.setIfInBounds_toArray, List.set_cons_zero, List.set_cons_succ]
              refine s_done (by as_aux_lemma => kernel_rfl) ?_
              skip
              have y0 := (HY.out w7 HB6.out).c0
              have y1 := (HY.out w7 HB6.out).c1
              have y2 := (HY.out w7 HB6.out).c2
              have y3 := (HY.out w7 HB6.out).c3
              have y4 := (HY.out w7 HB6.out).c4
              have y5 := (HY.out w7 HB6.out).c5
              dsimp only at y0 y1 y2 y3 y4
              go_wp2_with fail
              refine (HFT.out _ HB6.out).mono ?_
              rintro e w9 ⟨rfl, hB9⟩
              have HB9 := Lib.hid (below_more HB6.out hB9 HB6.out.size)
              clear y0 y1 y2 y3 y4 y5 hB9
              have y9 := HC.out _ HB9.out
              go_wp2
              go_ret
              exact ⟨rfl, below_more HA.out HB9.out HA.out.size⟩
            · rw [if_neg hs]
              go_enter Try.func29, Try.ntmps29
              have y0 := (HY.out w0 (Below.refl _ w0)).c0
              have y1 := (HY.out w0 (Below.refl _ w0)).c1
              have y2 := (HY.out w0 (Below.refl _ w0)).c2
              have y3 := (HY.out w0 (Below.refl _ w0)).c3
              have y4 := (HY.out w0 (Below.refl _ w0)).c4
              have y5 := (HY.out w0 (Below.refl _ w0)).c5
              dsimp only at y0 y1 y2 y3 y4
              go_wp2_with fail
              refine (HR.out _ (Below.refl _ w0)).mono ?_
              rintro e w1 ⟨rfl, hB1⟩
              have HB1 := Lib.hid hB1
              clear y0 y1 y2 y3 y4 y5 hB1
              have y0 := (HY.out w1 HB1.out).c0
              have y1 := (HY.out w1 HB1.out).c1
              have y2 := (HY.out w1 HB1.out).c2
              have y3 := (HY.out w1 HB1.out).c3
              have y4 := (HY.out w1 HB1.out).c4
              have y5 := (HY.out w1 HB1.out).c5
              dsimp only at y0 y1 y2 y3 y4
              go_wp2_with fail
              refine (HF.out _ HB1.out).mono ?_
              rintro e w2 ⟨rfl, hB2⟩
              have HB2 := Lib.hid (below_more HB1.out hB2 HB1.out.size)
              clear y0 y1 y2 y3 y4 y5 hB2
              go_wp2_with fail
              refine (HGB.out _ HB2.out).mono ?_
              rintro e w3 ⟨rfl, hB3⟩
              have HB3 := Lib.hid (below_more HB2.out hB3 HB2.out.size)
              have HD3 := Lib.hid (show Below w0.heap.size w0 w3.drew from below_more HB3.out ((Kept.refl (fun _ => False) w3).drew.toBelow (Nat.le_refl _) (fun _ h => h.elim)) HB3.out.size)
              clear hB3
              go_wp2_with fail
              refine s_start 6 (fun W => Below w0.heap.size w0 W) (by as_aux_lemma => kernel_rfl) (by as_aux_lemma => kernel_rfl) HD3.out ?_
              refine s_take 0 (by as_aux_lemma => kernel_rfl) (by as_aux_lemma => kernel_rfl) (by as_aux_lemma => kernel_rfl) (by as_aux_lemma => kernel_rfl) HD3.out (fun oi ho => ?_)
              simp only [List.getElem?_toArray, List.getElem?_cons_succ, List.getElem?_cons_zero, Option.some.injEq] at ho
              subst ho
              refine ⟨.agg #[.int .i64 hS, .int .i64 hF, .int .i64 hI, .int .i64 hN, .int .i64 hD, .slice pv M cv], Or.inl ⟨by rfl, fun w' hS' => ?_⟩, ?_⟩
              · have z0 := (HY.out _ hS').c0
                have z1 := (HY.out _ hS').c1
                have z2 := (HY.out _ hS').c2
                have z3 := (HY.out _ hS').c3
                have z4 := (HY.out _ hS').c4
                have z5 := (HY.out _ hS').c5
                dsimp only at z0 z1 z2 z3 z4
                (go_simp <;> with_reducible rfl)
              try simp only [Act.put, List.setIfInBounds_toArray, List.set_cons_zero, List.set_cons_succ]
              refine s_take 1 (by as_aux_lemma => kernel_rfl) (by as_aux_lemma => kernel_rfl) (by as_aux_lemma => kernel_rfl) (by as_aux_lemma => kernel_rfl) HD3.out (fun oi ho => ?_)
              simp only [List.getElem?_toArray, List.getElem?_cons_succ, List.getElem?_cons_zero, Option.some.injEq] at ho
              subst ho
              refine ⟨?_, Or.inl ⟨by rfl, fun w _ => ?_⟩, ?_⟩
              rotate_left
              · (go_simp <;> with_reducible rfl)
              try simp only [Act.put, List.setIfInBounds_toArray, List.set_cons_zero, List.set_cons_succ]
              refine s_all (rs := [2]) (by as_aux_lemma => kernel_rfl) (by simp) ?_
              refine s_step 2 (by as_aux_lemma => kernel_rfl) (fun o ho K hK => ?_) AllReadyH.nil
              simp only [List.getElem?_toArray, List.getElem?_cons_succ, List.getElem?_cons_zero, Option.some.injEq] at ho
              subst ho
              go_simp
              refine (HGH.out _ HD3.out).mono ?_
              rintro e w4 ⟨v4, rfl, ht4, hB4⟩
              have HT4 := Lib.hid ht4
              have HB4 := Lib.hid (below_more HD3.out hB4 HD3.out.size)
              clear ht4 hB4
              go_wp2_with fail
              refine hK.out _ _ HB4.out ?_
              clear hK K
              try simp only [Act.put, List.setIfInBounds_toArray, List.set_cons_zero, List.set_cons_succ]
              refine s_all (rs := [3]) (by as_aux_lemma => kernel_rfl) (by simp) ?_
              refine s_step 3 (by as_aux_lemma => kernel_rfl) (fun o ho K hK => ?_) AllReadyH.nil
              simp only [List.getElem?_toArray, List.getElem?_cons_succ, List.getElem?_cons_zero, Option.some.injEq] at ho
              subst ho
              go_simp
              refine (HLK.out _ HB4.out v4 HT4.out).mono ?_
              rintro e w5 ⟨rfl, hB5⟩
              have HB5 := Lib.hid (below_more HB4.out hB5 HB4.out.size)
              clear hB5
              go_wp2_with fail
              refine hK.out _ _ HB5.out ?_
              clear hK K
              try simp only [Act.put, List.setIfInBounds_toArray, List.set_cons_zero, List.set_cons_succ]
              refine s_take 4 (by as_aux_lemma => kernel_rfl) (by as_aux_lemma => kernel_rfl) (by as_aux_lemma => kernel_rfl) (by as_aux_lemma => kernel_rfl) HB5.out (fun oi ho => ?_)
              simp only [List.getElem?_toArray, List.getElem?_cons_succ, List.getElem?_cons_zero, Option.some.injEq] at ho
              subst ho
              refine ⟨?_, Or.inl ⟨by rfl, fun w _ => ?_⟩, ?_⟩
              rotate_left
              · (go_simp <;> with_reducible rfl)
              try simp only [Act.put, List.setIfInBounds_toArray, List.set_cons_zero, List.set_cons_succ]
              refine s_take 5 (by as_aux_lemma => kernel_rfl) (by as_aux_lemma => kernel_rfl) (by as_aux_lemma => kernel_rfl) (by as_aux_lemma => kernel_rfl) HB5.out (fun oi ho => ?_)
              simp only [List.getElem?_toArray, List.getElem?_cons_succ, List.getElem?_cons_zero, Option.some.injEq] at ho
              subst ho
              refine ⟨?_, Or.inl ⟨by rfl, fun w _ => ?_⟩, ?_⟩
              rotate_left
              · (go_simp <;> with_reducible rfl)
              try simp only [Act.put, List.setIfInBounds_toArray, List.set_cons_zero, List.set_cons_succ]
              refine s_done (by as_aux_lemma => kernel_rfl) ?_
              skip
              have HD5 := Lib.hid (show Below w0.heap.size w0 w5.drew from below_more HB5.out ((Kept.refl (fun _ => False) w5).drew.toBelow (Nat.le_refl _) (fun _ h => h.elim)) HB5.out.size)
              go_wp2_with fail
              refine s_start 11 (fun W => Below w0.heap.size w0 W) (by as_aux_lemma => kernel_rfl) (by as_aux_lemma => kernel_rfl) HD5.out ?_
              refine s_take 0 (by as_aux_lemma => kernel_rfl) (by as_aux_lemma => kernel_rfl) (by as_aux_lemma => kernel_rfl) (by as_aux_lemma => kernel_rfl) HD5.out (fun oi ho => ?_)
              simp only [List.getElem?_toArray, List.getElem?_cons_succ, List.getElem?_cons_zero, Option.some.injEq] at ho
              subst ho
              refine ⟨?_, Or.inl ⟨by rfl, fun w _ => ?_⟩, ?_⟩
              rotate_left
              · (go_simp <;> with_reducible rfl)
              try simp only [Act.put, List.setIfInBounds_toArray, List.set_cons_zero, List.set_cons_succ]
              refine s_take 2 (by as_aux_lemma => kernel_rfl) (by as_aux_lemma => kernel_rfl) (by as_aux_lemma => kernel_rfl) (by as_aux_lemma => kernel_rfl) HD5.out (fun oi ho => ?_)
              simp only [List.getElem?_toArray, List.getElem?_cons_succ, List.getElem?_cons_zero, Option.some.injEq] at ho
              subst ho
              refine ⟨?_, Or.inl ⟨by rfl, fun w _ => ?_⟩, ?_⟩
              rotate_left
              · (go_simp <;> with_reducible rfl)
              try simp only [Act.put, List.setIfInBounds_toArray, List.set_cons_zero, List.set_cons_succ]
              refine s_take 3 (by as_aux_lemma => kernel_rfl) (by as_aux_lemma => kernel_rfl) (by as_aux_lemma => kernel_rfl) (by as_aux_lemma => kernel_rfl) HD5.out (fun oi ho => ?_)
              simp only [List.getElem?_toArray, List.getElem?_cons_succ, List.getElem?_cons_zero, Option.some.injEq] at ho
              subst ho
              refine ⟨.int .i64 hI, Or.inl ⟨by rfl, fun w' hS' => ?_⟩, ?_⟩
              · have z0 := (HY.out _ hS').c0
                have z1 := (HY.out _ hS').c1
                have z2 := (HY.out _ hS').c2
                have z3 := (HY.out _ hS').c3
                have z4 := (HY.out _ hS').c4
                have z5 := (HY.out _ hS').c5
                dsimp only at z0 z1 z2 z3 z4
                (go_simp <;> with_reducible rfl)
              try simp only [Act.put, List.setIfInBounds_toArray, List.set_cons_zero, List.set_cons_succ]
              refine s_all (rs := [1]) (by as_aux_lemma => kernel_rfl) (by simp) ?_
              refine s_step 1 (by as_aux_lemma => kernel_rfl) (fun o ho K hK => ?_) AllReadyH.nil
              simp only [List.getElem?_toArray, List.getElem?_cons_succ, List.getElem?_cons_zero, Option.some.injEq] at ho
              subst ho
              go_simp
              refine (HGI.out _ HD5.out).mono ?_
              rintro e w6 ⟨v6, rfl, ht6, hB6⟩
              have HT6 := Lib.hid ht6
              have HB6 := Lib.hid (below_more HD5.out hB6 HD5.out.size)
              clear ht6 hB6
              go_wp2_with fail
              refine hK.out _ _ HB6.out ?_
              clear hK K
              try simp only [Act.put, List.setIfInBounds_toArray, List.set_cons_zero, List.set_cons_succ]
              refine s_all (rs := [4]) (by as_aux_lemma => kernel_rfl) (by simp) ?_
              refine s_step 4 (by as_aux_lemma => kernel_rfl) (fun o ho K hK => ?_) AllReadyH.nil
              simp only [List.getElem?_toArray, List.getElem?_cons_succ, List.getElem?_cons_zero, Option.some.injEq] at ho
              subst ho
              go_simp
              refine (HCN.out _ v6 HT6.out).mono ?_
              rintro e w7 ⟨rfl, rfl⟩
              go_wp2_with fail
              refine hK.out _ _ HB6.out ?_
              clear hK K
              try simp only [Act.put, List.setIfInBounds_toArray, List.set_cons_zero, List.set_cons_succ]
              refine s_take 5 (by as_aux_lemma => kernel_rfl) (by as_aux_lemma => kernel_rfl) (by as_aux_lemma => kernel_rfl) (by as_aux_lemma => kernel_rfl) HB6.out (fun oi ho => ?_)
              simp only [List.getElem?_toArray, List.getElem?_cons_succ, List.getElem?_cons_zero, Option.some.injEq] at ho
              subst ho
              refine ⟨?_, Or.inl ⟨by rfl, fun w _ => ?_⟩, ?_⟩
              rotate_left
              · (go_simp <;> with_reducible rfl)
              try simp only [Act.put, List.setIfInBounds_toArray, List.set_cons_zero, List.set_cons_succ]
              refine s_take 6 (by as_aux_lemma => kernel_rfl) (by as_aux_lemma => kernel_rfl) (by as_aux_lemma => kernel_rfl) (by as_aux_lemma => kernel_rfl) HB6.out (fun oi ho => ?_)
              simp only [List.getElem?_toArray, List.getElem?_cons_succ, List.getElem?_cons_zero, Option.some.injEq] at ho
              subst ho
              refine ⟨undef, Or.inr ⟨by rfl, rfl⟩, ?_⟩
              try simp only [Act.put, List.setIfInBounds_toArray, List.set_cons_zero, List.set_cons_succ]
              refine s_take 7 (by as_aux_lemma => kernel_rfl) (by as_aux_lemma => kernel_rfl) (by as_aux_lemma => kernel_rfl) (by as_aux_lemma => kernel_rfl) HB6.out (fun oi ho => ?_)
              simp only [List.getElem?_toArray, List.getElem?_cons_succ, List.getElem?_cons_zero, Option.some.injEq] at ho
              subst ho
              refine ⟨undef, Or.inr ⟨by rfl, rfl⟩, ?_⟩
              try simp only [Act.put, List.setIfInBounds_toArray, List.set_cons_zero, List.set_cons_succ]
              refine s_take 8 (by as_aux_lemma => kernel_rfl) (by as_aux_lemma => kernel_rfl) (by as_aux_lemma => kernel_rfl) (by as_aux_lemma => kernel_rfl) HB6.out (fun oi ho => ?_)
              simp only [List.getElem?_toArray, List.getElem?_cons_succ, List.getElem?_cons_zero, Option.some.injEq] at ho
              subst ho
              refine ⟨undef, Or.inr ⟨by rfl, rfl⟩, ?_⟩
              try simp only [Act.put, List.setIfInBounds_toArray, List.set_cons_zero, List.set_cons_succ]
              refine s_take 9 (by as_aux_lemma => kernel_rfl) (by as_aux_lemma => kernel_rfl) (by as_aux_lemma => kernel_rfl) (by as_aux_lemma => kernel_rfl) HB6.out (fun oi ho => ?_)
              simp only [List.getElem?_toArray, List.getElem?_cons_succ, List.getElem?_cons_zero, Option.some.injEq] at ho
              subst ho
              refine ⟨?_, Or.inl ⟨by rfl, fun w _ => ?_⟩, ?_⟩
              rotate_left
              · (go_simp <;> with_reducible rfl)
              try simp only [Act.put, List.setIfInBounds_toArray, List.set_cons_zero, List.set_cons_succ]
              refine s_take 10 (by as_aux_lemma => kernel_rfl) (by as_aux_lemma => kernel_rfl) (by as_aux_lemma => kernel_rfl) (by as_aux_lemma => kernel_rfl) HB6.out (fun oi ho => ?_)
              simp only [List.getElem?_toArray, List.getElem?_cons_succ, List.getElem?_cons_zero, Option.some.injEq] at ho
              subst ho
              refine ⟨?_, Or.inl ⟨by rfl, fun w _ => ?_⟩, ?_⟩
              rotate_left
              · (go_simp <;> with_reducible rfl)
              try simp only [Act.put, List.setIfInBounds_toArray, List.set_cons_zero, List.set_cons_succ]
              refine s_done (by as_aux_lemma => kernel_rfl) ?_
              skip
              have y0 := (HY.out w7 HB6.out).c0
              have y1 := (HY.out w7 HB6.out).c1
              have y2 := (HY.out w7 HB6.out).c2
              have y3 := (HY.out w7 HB6.out).c3
              have y4 := (HY.out w7 HB6.out).c4
              have y5 := (HY.out w7 HB6.out).c5
              dsimp only at y0 y1 y2 y3 y4
              go_wp2_with fail
              refine (HFT.out _ HB6.out).mono ?_
              rintro e w9 ⟨rfl, hB9⟩
              have HB9 := Lib.hid (below_more HB6.out hB9 HB6.out.size)
              clear y0 y1 y2 y3 y4 y5 hB9
              have y9 := HC.out _ HB9.out
              go_wp2
              go_ret
              exact ⟨rfl, below_more HA.out HB9.out HA.out.size⟩
          · rw [if_pos hnl]
            rw [decide_eq_false hnl] at HFT
            clear hl hx hidl hnl hd
            go_enter Try.func29, Try.ntmps29
            have y0 := (HY.out w0 (Below.refl _ w0)).c0
            have y1 := (HY.out w0 (Below.refl _ w0)).c1
            have y2 := (HY.out w0 (Below.refl _ w0)).c2
            have y3 := (HY.out w0 (Below.refl _ w0)).c3
            have y4 := (HY.out w0 (Below.refl _ w0)).c4
            have y5 := (HY.out w0 (Below.refl _ w0)).c5
            dsimp only at y0 y1 y2 y3 y4
            go_wp2_with fail
            refine (HR.out _ (Below.refl _ w0)).mono ?_
            rintro e w1 ⟨rfl, hB1⟩
            have HB1 := Lib.hid hB1
            clear y0 y1 y2 y3 y4 y5 hB1
            have y0 := (HY.out w1 HB1.out).c0
            have y1 := (HY.out w1 HB1.out).c1
            have y2 := (HY.out w1 HB1.out).c2
            have y3 := (HY.out w1 HB1.out).c3
            have y4 := (HY.out w1 HB1.out).c4
            have y5 := (HY.out w1 HB1.out).c5
            dsimp only at y0 y1 y2 y3 y4
            go_wp2_with fail
            refine (HF.out _ HB1.out).mono ?_
            rintro e w2 ⟨rfl, hB2⟩
            have HB2 := Lib.hid (below_more HB1.out hB2 HB1.out.size)
            clear y0 y1 y2 y3 y4 y5 hB2
            go_wp2_with fail
            refine (HGB.out _ HB2.out).mono ?_
            rintro e w3 ⟨rfl, hB3⟩
            have HB3 := Lib.hid (below_more HB2.out hB3 HB2.out.size)
            have HD3 := Lib.hid (show Below w0.heap.size w0 w3.drew from below_more HB3.out ((Kept.refl (fun _ => False) w3).drew.toBelow (Nat.le_refl _) (fun _ h => h.elim)) HB3.out.size)
            clear hB3
            go_wp2_with fail
            refine s_start 6 (fun W => Below w0.heap.size w0 W) (by as_aux_lemma => kernel_rfl) (by as_aux_lemma => kernel_rfl) HD3.out ?_
            refine s_take 0 (by as_aux_lemma => kernel_rfl) (by as_aux_lemma => kernel_rfl) (by as_aux_lemma => kernel_rfl) (by as_aux_lemma => kernel_rfl) HD3.out (fun oi ho => ?_)
            simp only [List.getElem?_toArray, List.getElem?_cons_succ, List.getElem?_cons_zero, Option.some.injEq] at ho
            subst ho
            refine ⟨.agg #[.int .i64 hS, .int .i64 hF, .int .i64 hI, .int .i64 hN, .int .i64 hD, .slice pv M cv], Or.inl ⟨by rfl, fun w' hS' => ?_⟩, ?_⟩
            · have z0 := (HY.out _ hS').c0
              have z1 := (HY.out _ hS').c1
              have z2 := (HY.out _ hS').c2
              have z3 := (HY.out _ hS').c3
              have z4 := (HY.out _ hS').c4
              have z5 := (HY.out _ hS').c5
              dsimp only at z0 z1 z2 z3 z4
              (go_simp <;> with_reducible rfl)
            try simp only [Act.put, List.setIfInBounds_toArray, List.set_cons_zero, List.set_cons_succ]
            refine s_take 1 (by as_aux_lemma => kernel_rfl) (by as_aux_lemma => kernel_rfl) (by as_aux_lemma => kernel_rfl) (by as_aux_lemma => kernel_rfl) HD3.out (fun oi ho => ?_)
            simp only [List.getElem?_toArray, List.getElem?_cons_succ, List.getElem?_cons_zero, Option.some.injEq] at ho
            subst ho
            refine ⟨?_, Or.inl ⟨by rfl, fun w _ => ?_⟩, ?_⟩
            rotate_left
            · (go_simp <;> with_reducible rfl)
            try simp only [Act.put, List.setIfInBounds_toArray, List.set_cons_zero, List.set_cons_succ]
            refine s_all (rs := [2]) (by as_aux_lemma => kernel_rfl) (by simp) ?_
            refine s_step 2 (by as_aux_lemma => kernel_rfl) (fun o ho K hK => ?_) AllReadyH.nil
            simp only [List.getElem?_toArray, List.getElem?_cons_succ, List.getElem?_cons_zero, Option.some.injEq] at ho
            subst ho
            go_simp
            refine (HGH.out _ HD3.out).mono ?_
            rintro e w4 ⟨v4, rfl, ht4, hB4⟩
            have HT4 := Lib.hid ht4
            have HB4 := Lib.hid (below_more HD3.out hB4 HD3.out.size)
            clear ht4 hB4
            go_wp2_with fail
            refine hK.out _ _ HB4.out ?_
            clear hK K
            try simp only [Act.put, List.setIfInBounds_toArray, List.set_cons_zero, List.set_cons_succ]
            refine s_all (rs := [3]) (by as_aux_lemma => kernel_rfl) (by simp) ?_
            refine s_step 3 (by as_aux_lemma => kernel_rfl) (fun o ho K hK => ?_) AllReadyH.nil
            simp only [List.getElem?_toArray, List.getElem?_cons_succ, List.getElem?_cons_zero, Option.some.injEq] at ho
            subst ho
            go_simp
            refine (HLK.out _ HB4.out v4 HT4.out).mono ?_
            rintro e w5 ⟨rfl, hB5⟩
            have HB5 := Lib.hid (below_more HB4.out hB5 HB4.out.size)
            clear hB5
            go_wp2_with fail
            refine hK.out _ _ HB5.out ?_
            clear hK K
            try simp only [Act.put, List.setIfInBounds_toArray, List.set_cons_zero, List.set_cons_succ]
            refine s_take 4 (by as_aux_lemma => kernel_rfl) (by as_aux_lemma => kernel_rfl) (by as_aux_lemma => kernel_rfl) (by as_aux_lemma => kernel_rfl) HB5.out (fun oi ho => ?_)
            simp only [List.getElem?_toArray, List.getElem?_cons_succ, List.getElem?_cons_zero, Option.some.injEq] at ho
            subst ho
            refine ⟨?_, Or.inl ⟨by rfl, fun w _ => ?_⟩, ?_⟩
            rotate_left
            · (go_simp <;> with_reducible rfl)
            try simp only [Act.put, List.setIfInBounds_toArray, List.set_cons_zero, List.set_cons_succ]
            refine s_take 5 (by as_aux_lemma => kernel_rfl) (by as_aux_lemma => kernel_rfl) (by as_aux_lemma => kernel_rfl) (by as_aux_lemma => kernel_rfl) HB5.out (fun oi ho => ?_)
            simp only [List.getElem?_toArray, List.getElem?_cons_succ, List.getElem?_cons_zero, Option.some.injEq] at ho
            subst ho
            refine ⟨?_, Or.inl ⟨by rfl, fun w _ => ?_⟩, ?_⟩
            rotate_left
            · (go_simp <;> with_reducible rfl)
            try simp only [Act.put, List.setIfInBounds_toArray, List.set_cons_zero, List.set_cons_succ]
            refine s_done (by as_aux_lemma => kernel_rfl) ?_
            skip
            have HD5 := Lib.hid (show Below w0.heap.size w0 w5.drew from below_more HB5.out ((Kept.refl (fun _ => False) w5).drew.toBelow (Nat.le_refl _) (fun _ h => h.elim)) HB5.out.size)
            go_wp2_with fail
            refine s_start 11 (fun W => Below w0.heap.size w0 W) (by as_aux_lemma => kernel_rfl) (by as_aux_lemma => kernel_rfl) HD5.out ?_
            refine s_take 0 (by as_aux_lemma => kernel_rfl) (by as_aux_lemma => kernel_rfl) (by as_aux_lemma => kernel_rfl) (by as_aux_lemma => kernel_rfl) HD5.out (fun oi ho => ?_)
            simp only [List.getElem?_toArray, List.getElem?_cons_succ, List.getElem?_cons_zero, Option.some.injEq] at ho
            subst ho
            refine ⟨?_, Or.inl ⟨by rfl, fun w _ => ?_⟩, ?_⟩
            rotate_left
            · (go_simp <;> with_reducible rfl)
            try simp only [Act.put, List.setIfInBounds_toArray, List.set_cons_zero, List.set_cons_succ]
            refine s_take 2 (by as_aux_lemma => kernel_rfl) (by as_aux_lemma => kernel_rfl) (by as_aux_lemma => kernel_rfl) (by as_aux_lemma => kernel_rfl) HD5.out (fun oi ho => ?_)
            simp only [List.getElem?_toArray, List.getElem?_cons_succ, List.getElem?_cons_zero, Option.some.injEq] at ho
            subst ho
            refine ⟨?_, Or.inl ⟨by rfl, fun w _ => ?_⟩, ?_⟩
            rotate_left
            · (go_simp <;> with_reducible rfl)
            try simp only [Act.put, List.setIfInBounds_toArray, List.set_cons_zero, List.set_cons_succ]
            refine s_take 3 (by as_aux_lemma => kernel_rfl) (by as_aux_lemma => kernel_rfl) (by as_aux_lemma => kernel_rfl) (by as_aux_lemma => kernel_rfl) HD5.out (fun oi ho => ?_)
            simp only [List.getElem?_toArray, List.getElem?_cons_succ, List.getElem?_cons_zero, Option.some.injEq] at ho
            subst ho
            refine ⟨.int .i64 hI, Or.inl ⟨by rfl, fun w' hS' => ?_⟩, ?_⟩
            · have z0 := (HY.out _ hS').c0
              have z1 := (HY.out _ hS').c1
              have z2 := (HY.out _ hS').c2
              have z3 := (HY.out _ hS').c3
              have z4 := (HY.out _ hS').c4
              have z5 := (HY.out _ hS').c5
              dsimp only at z0 z1 z2 z3 z4
              (go_simp <;> with_reducible rfl)
            try simp only [Act.put, List.setIfInBounds_toArray, List.set_cons_zero, List.set_cons_succ]
            refine s_all (rs := [1]) (by as_aux_lemma => kernel_rfl) (by simp) ?_
            refine s_step 1 (by as_aux_lemma => kernel_rfl) (fun o ho K hK => ?_) AllReadyH.nil
            simp only [List.getElem?_toArray, List.getElem?_cons_succ, List.getElem?_cons_zero, Option.some.injEq] at ho
            subst ho
            go_simp
            refine (HGI.out _ HD5.out).mono ?_
            rintro e w6 ⟨v6, rfl, ht6, hB6⟩
            have HT6 := Lib.hid ht6
            have HB6 := Lib.hid (below_more HD5.out hB6 HD5.out.size)
            clear ht6 hB6
            go_wp2_with fail
            refine hK.out _ _ HB6.out ?_
            clear hK K
            try simp only [Act.put, List.setIfInBounds_toArray, List.set_cons_zero, List.set_cons_succ]
            refine s_all (rs := [4]) (by as_aux_lemma => kernel_rfl) (by simp) ?_
            refine s_step 4 (by as_aux_lemma => kernel_rfl) (fun o ho K hK => ?_) AllReadyH.nil
            simp only [List.getElem?_toArray, List.getElem?_cons_succ, List.getElem?_cons_zero, Option.some.injEq] at ho
            subst ho
            go_simp
            refine (HCN.out _ v6 HT6.out).mono ?_
            rintro e w7 ⟨rfl, rfl⟩
            go_wp2_with fail
            refine hK.out _ _ HB6.out ?_
            clear hK K
            try simp only [Act.put, List.setIfInBounds_toArray, List.set_cons_zero, List.set_cons_succ]
            refine s_take 5 (by as_aux_lemma => kernel_rfl) (by as_aux_lemma => kernel_rfl) (by as_aux_lemma => kernel_rfl) (by as_aux_lemma => kernel_rfl) HB6.out (fun oi ho => ?_)
            simp only [List.getElem?_toArray, List.getElem?_cons_succ, List.getElem?_cons_zero, Option.some.injEq] at ho
            subst ho
            refine ⟨?_, Or.inl ⟨by rfl, fun w _ => ?_⟩, ?_⟩
            rotate_left
            · (go_simp <;> with_reducible rfl)
            try simp only [Act.put, List.setIfInBounds_toArray, List.set_cons_zero, List.set_cons_succ]
            refine s_take 6 (by as_aux_lemma => kernel_rfl) (by as_aux_lemma => kernel_rfl) (by as_aux_lemma => kernel_rfl) (by as_aux_lemma => kernel_rfl) HB6.out (fun oi ho => ?_)
            simp only [List.getElem?_toArray, List.getElem?_cons_succ, List.getElem?_cons_zero, Option.some.injEq] at ho
            subst ho
            refine ⟨undef, Or.inr ⟨by rfl, rfl⟩, ?_⟩
            try simp only [Act.put, List.setIfInBounds_toArray, List.set_cons_zero, List.set_cons_succ]
            refine s_take 7 (by as_aux_lemma => kernel_rfl) (by as_aux_lemma => kernel_rfl) (by as_aux_lemma => kernel_rfl) (by as_aux_lemma => kernel_rfl) HB6.out (fun oi ho => ?_)
            simp only [List.getElem?_toArray, List.getElem?_cons_succ, List.getElem?_cons_zero, Option.some.injEq] at ho
            subst ho
            refine ⟨undef, Or.inr ⟨by rfl, rfl⟩, ?_⟩
            try simp only [Act.put, List.setIfInBounds_toArray, List.set_cons_zero, List.set_cons_succ]
            refine s_take 8 (by as_aux_lemma => kernel_rfl) (by as_aux_lemma => kernel_rfl) (by as_aux_lemma => kernel_rfl) (by as_aux_lemma => kernel_rfl) HB6.out (fun oi ho => ?_)
            simp only [List.getElem?_toArray, List.getElem?_cons_succ, List.getElem?_cons_zero, Option.some.injEq] at ho
            subst ho
            refine ⟨undef, Or.inr ⟨by rfl, rfl⟩, ?_⟩
            try simp only [Act.put, List.setIfInBounds_toArray, List.set_cons_zero, List.set_cons_succ]
            refine s_take 9 (by as_aux_lemma => kernel_rfl) (by as_aux_lemma => kernel_rfl) (by as_aux_lemma => kernel_rfl) (by as_aux_lemma => kernel_rfl) HB6.out (fun oi ho => ?_)
            simp only [List.getElem?_toArray, List.getElem?_cons_succ, List.getElem?_cons_zero, Option.some.injEq] at ho
            subst ho
            refine ⟨?_, Or.inl ⟨by rfl, fun w _ => ?_⟩, ?_⟩
            rotate_left
            · (go_simp <;> with_reducible rfl)
            try simp only [Act.put, List.setIfInBounds_toArray, List.set_cons_zero, List.set_cons_succ]
            refine s_take 10 (by as_aux_lemma => kernel_rfl) (by as_aux_lemma => kernel_rfl) (by as_aux_lemma => kernel_rfl) (by as_aux_lemma => kernel_rfl) HB6.out (fun oi ho => ?_)
            simp only [List.getElem?_toArray, List.getElem?_cons_succ, List.getElem?_cons_zero, Option.some.injEq] at ho
            subst ho
            refine ⟨?_, Or.inl ⟨by rfl, fun w _ => ?_⟩, ?_⟩
            rotate_left
            · (go_simp <;> with_reducible rfl)
            try simp only [Act.put, List.setIfInBounds_toArray, List.set_cons_zero, List.set_cons_succ]
            refine s_done (by as_aux_lemma => kernel_rfl) ?_
            skip
            have y0 := (HY.out w7 HB6.out).c0
            have y1 := (HY.out w7 HB6.out).c1
            have y2 := (HY.out w7 HB6.out).c2
            have y3 := (HY.out w7 HB6.out).c3
            have y4 := (HY.out w7 HB6.out).c4
            have y5 := (HY.out w7 HB6.out).c5
            dsimp only at y0 y1 y2 y3 y4
            go_wp2_with fail
            refine (HFT.out _ HB6.out).mono ?_
            rintro e w9 ⟨rfl, hB9⟩
            have HB9 := Lib.hid (below_more HB6.out hB9 HB6.out.size)
            clear y0 y1 y2 y3 y4 y5 hB9
            go_wp2
            go_ret
            exact ⟨rfl, below_more HA.out HB9.out HA.out.size⟩
      · rw [if_pos hl]
        rw [decide_eq_false hl] at HLK
        clear hl hd
        go_enter Try.func29, Try.ntmps29
        have y0 := (HY.out w0 (Below.refl _ w0)).c0
        have y1 := (HY.out w0 (Below.refl _ w0)).c1
        have y2 := (HY.out w0 (Below.refl _ w0)).c2
        have y3 := (HY.out w0 (Below.refl _ w0)).c3
        have y4 := (HY.out w0 (Below.refl _ w0)).c4
        have y5 := (HY.out w0 (Below.refl _ w0)).c5
        dsimp only at y0 y1 y2 y3 y4
        go_wp2_with fail
        refine (HR.out _ (Below.refl _ w0)).mono ?_
        rintro e w1 ⟨rfl, hB1⟩
        have HB1 := Lib.hid hB1
        clear y0 y1 y2 y3 y4 y5 hB1
        have y0 := (HY.out w1 HB1.out).c0
        have y1 := (HY.out w1 HB1.out).c1
        have y2 := (HY.out w1 HB1.out).c2
        have y3 := (HY.out w1 HB1.out).c3
        have y4 := (HY.out w1 HB1.out).c4
        have y5 := (HY.out w1 HB1.out).c5
        dsimp only at y0 y1 y2 y3 y4
        go_wp2_with fail
        refine (HF.out _ HB1.out).mono ?_
        rintro e w2 ⟨rfl, hB2⟩
        have HB2 := Lib.hid (below_more HB1.out hB2 HB1.out.size)
        clear y0 y1 y2 y3 y4 y5 hB2
        go_wp2_with fail
        refine (HGB.out _ HB2.out).mono ?_
        rintro e w3 ⟨rfl, hB3⟩
        have HB3 := Lib.hid (below_more HB2.out hB3 HB2.out.size)
        have HD3 := Lib.hid (show Below w0.heap.size w0 w3.drew from below_more HB3.out ((Kept.refl (fun _ => False) w3).drew.toBelow (Nat.le_refl _) (fun _ h => h.elim)) HB3.out.size)
        clear hB3
        go_wp2_with fail
        refine s_start 6 (fun W => Below w0.heap.size w0 W) (by as_aux_lemma => kernel_rfl) (by as_aux_lemma => kernel_rfl) HD3.out ?_
        refine s_take 0 (by as_aux_lemma => kernel_rfl) (by as_aux_lemma => kernel_rfl) (by as_aux_lemma => kernel_rfl) (by as_aux_lemma => kernel_rfl) HD3.out (fun oi ho => ?_)
        simp only [List.getElem?_toArray, List.getElem?_cons_succ, List.getElem?_cons_zero, Option.some.injEq] at ho
        subst ho
        refine ⟨.agg #[.int .i64 hS, .int .i64 hF, .int .i64 hI, .int .i64 hN, .int .i64 hD, .slice pv M cv], Or.inl ⟨by rfl, fun w' hS' => ?_⟩, ?_⟩
        · have z0 := (HY.out _ hS').c0
          have z1 := (HY.out _ hS').c1
          have z2 := (HY.out _ hS').c2
          have z3 := (HY.out _ hS').c3
          have z4 := (HY.out _ hS').c4
          have z5 := (HY.out _ hS').c5
          dsimp only at z0 z1 z2 z3 z4
          (go_simp <;> with_reducible rfl)
        try simp only [Act.put, List.setIfInBounds_toArray, List.set_cons_zero, List.set_cons_succ]
        refine s_take 1 (by as_aux_lemma => kernel_rfl) (by as_aux_lemma => kernel_rfl) (by as_aux_lemma => kernel_rfl) (by as_aux_lemma => kernel_rfl) HD3.out (fun oi ho => ?_)
        simp only [List.getElem?_toArray, List.getElem?_cons_succ, List.getElem?_cons_zero, Option.some.injEq] at ho
        subst ho
        refine ⟨?_, Or.inl ⟨by rfl, fun w _ => ?_⟩, ?_⟩
        rotate_left
        · (go_simp <;> with_reducible rfl)
        try simp only [Act.put, List.setIfInBounds_toArray, List.set_cons_zero, List.set_cons_succ]
        refine s_all (rs := [2]) (by as_aux_lemma => kernel_rfl) (by simp) ?_
        refine s_step 2 (by as_aux_lemma => kernel_rfl) (fun o ho K hK => ?_) AllReadyH.nil
        simp only [List.getElem?_toArray, List.getElem?_cons_succ, List.getElem?_cons_zero, Option.some.injEq] at ho
        subst ho
        go_simp
        refine (HGH.out _ HD3.out).mono ?_
        rintro e w4 ⟨v4, rfl, ht4, hB4⟩
        have HT4 := Lib.hid ht4
        have HB4 := Lib.hid (below_more HD3.out hB4 HD3.out.size)
        clear ht4 hB4
        go_wp2_with fail
        refine hK.out _ _ HB4.out ?_
        clear hK K
        try simp only [Act.put, List.setIfInBounds_toArray, List.set_cons_zero, List.set_cons_succ]
        refine s_all (rs := [3]) (by as_aux_lemma => kernel_rfl) (by simp) ?_
        refine s_step 3 (by as_aux_lemma => kernel_rfl) (fun o ho K hK => ?_) AllReadyH.nil
        simp only [List.getElem?_toArray, List.getElem?_cons_succ, List.getElem?_cons_zero, Option.some.injEq] at ho
        subst ho
        go_simp
        refine (HLK.out _ HB4.out v4 HT4.out).mono ?_
        rintro e w5 ⟨rfl, hB5⟩
        have HB5 := Lib.hid (below_more HB4.out hB5 HB4.out.size)
        clear hB5
        go_wp2_with fail
        refine hK.out _ _ HB5.out ?_
        clear hK K
        try simp only [Act.put, List.setIfInBounds_toArray, List.set_cons_zero, List.set_cons_succ]
        refine s_take 4 (by as_aux_lemma => kernel_rfl) (by as_aux_lemma => kernel_rfl) (by as_aux_lemma => kernel_rfl) (by as_aux_lemma => kernel_rfl) HB5.out (fun oi ho => ?_)
        simp only [List.getElem?_toArray, List.getElem?_cons_succ, List.getElem?_cons_zero, Option.some.injEq] at ho
        subst ho
        refine ⟨?_, Or.inl ⟨by rfl, fun w _ => ?_⟩, ?_⟩
        rotate_left
        · (go_simp <;> with_reducible rfl)
        try simp only [Act.put, List.setIfInBounds_toArray, List.set_cons_zero, List.set_cons_succ]
        refine s_take 5 (by as_aux_lemma => kernel_rfl) (by as_aux_lemma => kernel_rfl) (by as_aux_lemma => kernel_rfl) (by as_aux_lemma => kernel_rfl) HB5.out (fun oi ho => ?_)
        simp only [List.getElem?_toArray, List.getElem?_cons_succ, List.getElem?_cons_zero, Option.some.injEq] at ho
        subst ho
        refine ⟨?_, Or.inl ⟨by rfl, fun w _ => ?_⟩, ?_⟩
        rotate_left
        · (go_simp <;> with_reducible rfl)
        try simp only [Act.put, List.setIfInBounds_toArray, List.set_cons_zero, List.set_cons_succ]
        refine s_done (by as_aux_lemma => kernel_rfl) ?_
        skip
        go_wp2
        go_ret
        exact ⟨rfl, below_more HA.out HB5.out HA.out.size⟩
    · have hV : findV hF gs = .tuple #[.pointer none, .bool false] := by unfold findV; rw [if_neg hp]
      rw [hV] at HF
      have HE := Lib.hid (show refE gs ⟨hS, hF, hI, hN, hD, rows⟩ n cn = if n ≠ ln then 2 else if cn < (n : Int) then 16 else 0 from by
        unfold refE
        rw [if_neg (by simp [hd])]
        dsimp only
        rw [if_neg hp, hln])
      rw [HE.out]
      clear hV hp HE hln hv ht
      by_cases hnl : n = ln
      · rw [if_neg (by simp [hnl])]
        rw [decide_eq_true hnl] at HFT
        clear hnl hd
        by_cases hs : cn < (n : Int)
        · rw [if_pos hs]
          go_enter Try.func29, Try.ntmps29
          have y0 := (HY.out w0 (Below.refl _ w0)).c0
          have y1 := (HY.out w0 (Below.refl _ w0)).c1
          have y2 := (HY.out w0 (Below.refl _ w0)).c2
          have y3 := (HY.out w0 (Below.refl _ w0)).c3
          have y4 := (HY.out w0 (Below.refl _ w0)).c4
          have y5 := (HY.out w0 (Below.refl _ w0)).c5
          dsimp only at y0 y1 y2 y3 y4
          go_wp2_with fail
          refine (HR.out _ (Below.refl _ w0)).mono ?_
          rintro e w1 ⟨rfl, hB1⟩
          have HB1 := Lib.hid hB1
          clear y0 y1 y2 y3 y4 y5 hB1
          have y0 := (HY.out w1 HB1.out).c0
          have y1 := (HY.out w1 HB1.out).c1
          have y2 := (HY.out w1 HB1.out).c2
          have y3 := (HY.out w1 HB1.out).c3
          have y4 := (HY.out w1 HB1.out).c4
          have y5 := (HY.out w1 HB1.out).c5
          dsimp only at y0 y1 y2 y3 y4
          go_wp2_with fail
          refine (HF.out _ HB1.out).mono ?_
          rintro e w2 ⟨rfl, hB2⟩
          have HB2 := Lib.hid (below_more HB1.out hB2 HB1.out.size)
          clear y0 y1 y2 y3 y4 y5 hB2
          have y0 := (HY.out w2 HB2.out).c0
          have y1 := (HY.out w2 HB2.out).c1
          have y2 := (HY.out w2 HB2.out).c2
          have y3 := (HY.out w2 HB2.out).c3
          have y4 := (HY.out w2 HB2.out).c4
          have y5 := (HY.out w2 HB2.out).c5
          dsimp only at y0 y1 y2 y3 y4
          go_wp2_with fail
          refine (HFT.out _ HB2.out).mono ?_
          rintro e w9 ⟨rfl, hB9⟩
          have HB9 := Lib.hid (below_more HB2.out hB9 HB2.out.size)
          clear y0 y1 y2 y3 y4 y5 hB9
          have y9 := HC.out _ HB9.out
          go_wp2
          go_ret
          exact ⟨rfl, below_more HA.out HB9.out HA.out.size⟩
        · rw [if_neg hs]
          go_enter Try.func29, Try.ntmps29
          have y0 := (HY.out w0 (Below.refl _ w0)).c0
          have y1 := (HY.out w0 (Below.refl _ w0)).c1
          have y2 := (HY.out w0 (Below.refl _ w0)).c2
          have y3 := (HY.out w0 (Below.refl _ w0)).c3
          have y4 := (HY.out w0 (Below.refl _ w0)).c4
          have y5 := (HY.out w0 (Below.refl _ w0)).c5
          dsimp only at y0 y1 y2 y3 y4
          go_wp2_with fail
          refine (HR.out _ (Below.refl _ w0)).mono ?_
          rintro e w1 ⟨rfl, hB1⟩
          have HB1 := Lib.hid hB1
          clear y0 y1 y2 y3 y4 y5 hB1
          have y0 := (HY.out w1 HB1.out).c0
          have y1 := (HY.out w1 HB1.out).c1
          have y2 := (HY.out w1 HB1.out).c2
          have y3 := (HY.out w1 HB1.out).c3
          have y4 := (HY.out w1 HB1.out).c4
          have y5 := (HY.out w1 HB1.out).c5
          dsimp only at y0 y1 y2 y3 y4
          go_wp2_with fail
          refine (HF.out _ HB1.out).mono ?_
          rintro e w2 ⟨rfl, hB2⟩
          have HB2 := Lib.hid (below_more HB1.out hB2 HB1.out.size)
          clear y0 y1 y2 y3 y4 y5 hB2
          have y0 := (HY.out w2 HB2.out).c0
          have y1 := (HY.out w2 HB2.out).c1
          have y2 := (HY.out w2 HB2.out).c2
          have y3 := (HY.out w2 HB2.out).c3
          have y4 := (HY.out w2 HB2.out).c4
          have y5 := (HY.out w2 HB2.out).c5
          dsimp only at y0 y1 y2 y3 y4
          go_wp2_with fail
          refine (HFT.out _ HB2.out).mono ?_
          rintro e w9 ⟨rfl, hB9⟩
          have HB9 := Lib.hid (below_more HB2.out hB9 HB2.out.size)
          clear y0 y1 y2 y3 y4 y5 hB9
          have y9 := HC.out _ HB9.out
          go_wp2
          go_ret
          exact ⟨rfl, below_more HA.out HB9.out HA.out.size⟩
      · rw [if_pos hnl]
        rw [decide_eq_false hnl] at HFT
        clear hnl hd
        go_enter Try.func29, Try.ntmps29
        have y0 := (HY.out w0 (Below.refl _ w0)).c0
        have y1 := (HY.out w0 (Below.refl _ w0)).c1
        have y2 := (HY.out w0 (Below.refl _ w0)).c2
        have y3 := (HY.out w0 (Below.refl _ w0)).c3
        have y4 := (HY.out w0 (Below.refl _ w0)).c4
        have y5 := (HY.out w0 (Below.refl _ w0)).c5
        dsimp only at y0 y1 y2 y3 y4
        go_wp2_with fail
        refine (HR.out _ (Below.refl _ w0)).mono ?_
        rintro e w1 ⟨rfl, hB1⟩
        have HB1 := Lib.hid hB1
        clear y0 y1 y2 y3 y4 y5 hB1
        have y0 := (HY.out w1 HB1.out).c0
        have y1 := (HY.out w1 HB1.out).c1
        have y2 := (HY.out w1 HB1.out).c2
        have y3 := (HY.out w1 HB1.out).c3
        have y4 := (HY.out w1 HB1.out).c4
        have y5 := (HY.out w1 HB1.out).c5
        dsimp only at y0 y1 y2 y3 y4
        go_wp2_with fail
        refine (HF.out _ HB1.out).mono ?_
        rintro e w2 ⟨rfl, hB2⟩
        have HB2 := Lib.hid (below_more HB1.out hB2 HB1.out.size)
        clear y0 y1 y2 y3 y4 y5 hB2
        have y0 := (HY.out w2 HB2.out).c0
        have y1 := (HY.out w2 HB2.out).c1
        have y2 := (HY.out w2 HB2.out).c2
        have y3 := (HY.out w2 HB2.out).c3
        have y4 := (HY.out w2 HB2.out).c4
        have y5 := (HY.out w2 HB2.out).c5
        dsimp only at y0 y1 y2 y3 y4
        go_wp2_with fail
        refine (HFT.out _ HB2.out).mono ?_
        rintro e w9 ⟨rfl, hB9⟩
        have HB9 := Lib.hid (below_more HB2.out hB9 HB2.out.size)
        clear y0 y1 y2 y3 y4 y5 hB9
        go_wp2
        go_ret
        exact ⟨rfl, below_more HA.out HB9.out HA.out.size⟩
  · have HE := Lib.hid (show refE gs ⟨hS, hF, hI, hN, hD, rows⟩ n cn = 2 from by unfold refE; rw [if_pos hd])
    rw [HE.out]
    rw [decide_eq_false hd] at HR
    have y0 := (HY.out w0 (Below.refl _ w0)).c0
    have y1 := (HY.out w0 (Below.refl _ w0)).c1
    have y2 := (HY.out w0 (Below.refl _ w0)).c2
    have y3 := (HY.out w0 (Below.refl _ w0)).c3
    have y4 := (HY.out w0 (Below.refl _ w0)).c4
    have y5 := (HY.out w0 (Below.refl _ w0)).c5
    dsimp only at y0 y1 y2 y3 y4
    go_enter Try.func29, Try.ntmps29
    go_wp2_with fail
    refine (HR.out _ (Below.refl _ w0)).mono ?_
    rintro e w1 ⟨rfl, hB1⟩
    clear y0 y1 y2 y3 y4 y5
    go_wp2
    go_ret
    exact ⟨rfl, below_more HA.out hB1 HA.out.size⟩
end
end -- TbK

end Go.Proofs.Ytibelpamolcmcaa
