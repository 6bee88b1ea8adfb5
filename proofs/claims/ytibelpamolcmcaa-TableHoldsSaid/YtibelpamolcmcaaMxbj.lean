/-
  TcD: Layer 18: the law's size.
  TcE: Layer 18: plain laws of the chapter's example.
  GpM: Walks of layer 17: Pick; the chapter's header.
-/
import Derived.Test.YtibelpamolcmcaaMxbi
import Derived.Test.YtibelpamolcmcaaMxba
namespace Go.Proofs.Ytibelpamolcmcaa

section -- TcD
open Go.RowKit Go.Maps Go.Shelf Go.Sort

set_option linter.unusedVariables false
set_option linter.unusedSimpArgs false
set_option maxRecDepth 100000
set_option maxHeartbeats 4000000

def sizeD (L : List DeedV) : Nat := (L.map fun x => x.body.length + x.head.rows.length).sum
theorem sizeD_take {L : List DeedV} {k : Nat} (h : k < L.length) : sizeD (L.take (k + 1)) = sizeD (L.take k) + ((L.getD k default).body.length + (L.getD k default).head.rows.length) := by
  unfold sizeD
  rw [List.take_add_one, List.map_append, List.sum_append, List.getD_eq_getElem?_getD, List.getElem?_eq_getElem h]
  simp
theorem dsize_any (w : World) (v : Value) (L : List DeedV) (h : DeedsAt w v L) (hl : L.length ≤ 100000000000000) (hb : ∀ x ∈ L, x.body.length ≤ 1000000000000000 ∧ x.head.rows.length ≤ 1000000000000000) :
    Calls Try.prog 6 #[v] w fun e w' => ∃ N : Nat, e = .returned (.int .i64 (N : Int)) ∧ (N ≤ 1500 → L.length + sizeD L = N) ∧ ∃ q, w' = w.drewN q := by
  obtain ⟨p, c, rfl, -, hh⟩ := h
  have HH := Lib.hid hh
  have HBD := Lib.hid hb
  obtain ⟨M, hM⟩ : ∃ M, L.length = M := ⟨_, rfl⟩
  have HM := Lib.hid hM
  rw [hM] at hl ⊢
  clear hh hM hb
  go_enter Try.func6, Try.ntmps6
  go_wp2
  go_loopw [3, 4] (fun vn vi wr => ∃ k n q : Nat, k ≤ M ∧ vi = .int .i64 (k : Int) ∧ vn = .int .i64 (n : Int) ∧ n = M + sizeD (L.take k) ∧ n ≤ 3000000000000000 ∧ wr = w.drewN q) (fun _ vi _ => M - (intOf vi).toNat)
  case atStart => exact ⟨0, M, 0, Nat.zero_le _, rfl, rfl, rfl, by omega, rfl⟩
  case round =>
    obtain ⟨k, n, q, hk, rfl, rfl, hn, hnl, rfl⟩ := hrel
    have HN := Lib.hid hn
    clear hn
    by_cases hlt : k < M
    · by_cases hn : (n : Int) ≤ 1500
      · obtain ⟨g, off, rfl, hcc⟩ := HH.out (by rw [HM.out]; omega)
        obtain ⟨vr, vb, hd⟩ := hcc k (by rw [HM.out]; exact hlt)
        have HT := Lib.hid (sizeD_take (L := L) (k := k) (by rw [HM.out]; exact hlt))
        have hbd := HBD.out (L.getD k default) (by rw [List.getD_eq_getElem?_getD, List.getElem?_eq_getElem (by rw [HM.out]; exact hlt)]; exact List.getElem_mem _)
        obtain ⟨pr, cr, hvr⟩ := hd.rows.shape
        obtain ⟨pb, cb, hvb, -⟩ := hd.body
        obtain ⟨x, hx⟩ : ∃ x, L.getD k default = x := ⟨_, rfl⟩
        rw [hx] at hd hbd HT hvr hvb
        have d7 := hd.c7
        have d8 := hd.c8
        rw [hvr] at d7
        rw [hvb] at d8
        obtain ⟨R, hR⟩ : ∃ R, x.head.rows.length = R := ⟨_, rfl⟩
        obtain ⟨T, hT⟩ : ∃ R, x.body.length = R := ⟨_, rfl⟩
        rw [hR] at d7 hbd HT
        rw [hT] at d8 hbd HT
        obtain ⟨hb1, hb2⟩ := hbd
        have HE := Lib.hid (show n + T + R = M + sizeD (L.take (k + 1)) by rw [HT.out, HN.out]; omega)
        clear hx hcc hd hvr hvb hR hT
        go_wp2_with fail
        go_quiet (fail)
        go_wp2
        go_roundw
        case rel => exact ⟨k + 1, n + T + R, _, by omega, by go_num, by go_num, HE.out, by omega, rfl⟩
        case measure => simp [intOf]; omega
      · go_wp2
        go_ret
        exact ⟨n, rfl, fun h => absurd h (by omega), q, rfl⟩
    · obtain rfl : k = M := by omega
      have HE := Lib.hid (show k + sizeD L = n by rw [HN.out, List.take_of_length_le (by rw [HM.out]; exact Nat.le_refl _)])
      go_wp2
      go_ret
      exact ⟨n, rfl, fun _ => HE.out, q, rfl⟩
end -- TcD

section -- TcE
set_option linter.unusedVariables false
set_option linter.unusedSimpArgs false
set_option maxHeartbeats 1000000

def exH (f d : Int) : HeadV := ⟨1, f, 0, 4, d, [(2, 2)]⟩
theorem exH_long (f d : Int) : atT (exH f d).rows (exH f d).rows.length = 1 := by
  show atT [((2 : Int), (2 : Int))] 1 = 1
  decide +kernel
theorem exH_ok (f d : Int) (h1 : 1 ≤ f ∧ f ≤ 100) (h2 : 0 ≤ d ∧ d ≤ 100) : HeadOk (exH f d) := by
  have h0 : TableOk 4 [((2 : Int), (2 : Int))] := by decide +kernel
  unfold HeadOk exH
  dsimp only
  refine ⟨h0, ?_⟩
  omega
theorem exH_ref {gs : List GD} {f d : Int} (h1 : 1 ≤ f ∧ f ≤ 100) (h2 : 0 ≤ d ∧ d ≤ 100) (hn : f ∉ framesG gs) : refE gs (exH f d) 1 100 = 0 := by
  have hp : ¬ posG (exH f d).frame gs < gs.length := fun q => hn (posG_mem.1 q)
  unfold refE
  rw [if_neg (not_not_intro (exH_ok f d h1 h2)), if_neg hp, if_neg (not_not_intro (exH_long f d).symm), if_neg (by decide)]
theorem ex_one {gs' outs : List GD} {l : List B} {m : Nat} {f d : Int} (H : PutR [] (exH f d) l 2 100 gs' outs m) : ∃ g, gs' = [g] ∧ g.H = exH f d ∧ g.hs = [(0, l)] := by
  have hm : m = 0 := Nat.le_zero.1 H.le
  subst hm
  rcases H.now with ⟨V', h1, _⟩ | ⟨_, _, k, g, h3, _, _, h6, h7, hgs⟩
  · exact absurd h1 (Nat.not_lt_zero _)
  · have hk : k = 0 := Nat.le_zero.1 h3
    subst hk
    exact ⟨g, hgs, h6, h7⟩
theorem ex_bytes {g : GD} {f d : Int} {l : List B} (h1 : g.H = exH f d) (h2 : g.hs = [(0, l)]) : bytesG g = 1 := by
  unfold bytesG
  rw [h1, h2, exH_long]
  rfl
theorem ex_two {g1 : GD} {gs' outs : List GD} {l l1 : List B} {m : Nat} (e1 : g1.H = exH 5 9) (e2 : g1.hs = [(0, l1)]) (hl : l.length = 1) (H : PutR [g1] (exH 6 8) l 2 100 gs' outs m) : ∃ g, gs' = [g, g1] ∧ g.H = exH 6 8 ∧ g.hs = [(0, l)] := by
  have hb := ex_bytes e1 e2
  have ht : totalG [g1] = 1 := by rw [totalG_cons, hb]; rfl
  have hm : m = 0 := H.room.2 ⟨by rw [ht, hl]; decide, .inr (show ((1 : Nat) : Int) < 2 by decide)⟩
  subst hm
  have hnf : (exH 6 8).frame ∉ framesG [g1] := by
    unfold framesG
    rw [List.map_singleton, e1]
    decide
  rcases H.now with ⟨V', h1, _⟩ | ⟨_, _, k, g, h3, h4, h5, h6, h7, hgs⟩
  · exact absurd (posG_mem.1 h1) hnf
  · have hk : k = 0 := by
      refine Nat.eq_zero_of_not_pos fun hp => ?_
      have h8 : AheadO (entG g1) (entG g) := h4 0 hp
      unfold AheadO entG at h8
      rw [e1, h6] at h8
      exact absurd h8 (show ¬ ((9 : Int) < 8 ∨ ((9 : Int) = 8 ∧ (5 : Int) < 6)) by decide)
    subst hk
    exact ⟨g, hgs, h6, h7⟩
theorem ex_cut {g1 g2 : GD} (e2 : g2.H = exH 6 8) : cutsO (exH 7 7).frame [g2, g1] 1 = [g1] := by
  show cutO 7 [g2, g1] = [g1]
  have hf : firstO 7 [g2, g1] = 0 := by
    unfold firstO
    rw [List.findIdx_cons, e2]
    rfl
  unfold cutO
  rw [hf]
  rfl
theorem ex_others {g1 g2 : GD} (e1 : g1.H = exH 5 9) (e2 : g2.H = exH 6 8) : othersG (exH 7 7).frame [g2, g1] = [g2, g1] := by
  show othersG 7 [g2, g1] = [g2, g1]
  unfold othersG
  rw [List.filter_cons, List.filter_cons, e1, e2]
  rfl
theorem ex_three {g1 g2 : GD} {gs' outs : List GD} {l l1 l2 : List B} {m : Nat} (e1 : g1.H = exH 5 9) (h1 : g1.hs = [(0, l1)]) (e2 : g2.H = exH 6 8) (h2 : g2.hs = [(0, l2)]) (hl : l.length = 1) (H : PutR [g2, g1] (exH 7 7) l 2 100 gs' outs m) : ∃ g, outs = [g2] ∧ gs' = [g, g1] ∧ g.H = exH 7 7 ∧ g.hs = [(0, l)] := by
  have hb1 := ex_bytes e1 h1
  have hb2 := ex_bytes e2 h2
  have ht : totalG [g2, g1] = 2 := by rw [totalG_cons, totalG_cons, hb1, hb2]; rfl
  have hnf : (exH 7 7).frame ∉ framesG [g2, g1] := by
    show (7 : Int) ∉ framesG [g2, g1]
    unfold framesG
    rw [List.map_cons, List.map_singleton, e1, e2]
    decide
  have ho := ex_others e1 e2
  have hm0 : m ≠ 0 := fun h0 => by
    rcases (H.room.1 h0).2 with q | q
    · exact hnf q
    · exact absurd q (show ¬ ((2 : Nat) : Int) < 2 by decide)
  have hc := ex_cut (g1 := g1) e2
  have hm1 : ¬ 1 < m := fun h1 => by
    rcases H.least 1 h1 with q | ⟨-, q⟩
    · rw [hc, totalG_cons, hb1, hl] at q
      exact absurd q (by decide)
    · rw [hc] at q
      exact absurd q (show ¬ (2 : Int) ≤ ((1 : Nat) : Int) by decide)
  have hm : m = 1 := by omega
  subst hm
  have hout := H.outs
  rw [ho] at hout
  rcases H.now with ⟨V', q, _⟩ | ⟨_, _, k, g, h3, h4, h5, h6, h7, hgs⟩
  · exact absurd ((cutsO_frame 1).1 (posG_mem.1 q)) hnf
  · rw [hc] at h3 h4 hgs
    have hk : k = 0 := by
      refine Nat.eq_zero_of_not_pos fun hp => ?_
      have h8 : AheadO (entG g1) (entG g) := h4 0 hp
      unfold AheadO entG at h8
      rw [e1, h6] at h8
      exact absurd h8 (show ¬ ((9 : Int) < 7 ∨ ((9 : Int) = 7 ∧ (5 : Int) < 7)) by decide)
    subst hk
    exact ⟨g, hout, hgs, h6, h7⟩
end -- TcE

section -- GpM
open Go.RowKit Go.Maps
set_option linter.unusedVariables false
set_option linter.unusedSimpArgs false
set_option maxRecDepth 100000
set_option maxHeartbeats 2000000

theorem pick_any (w : World) (n : Int) (m : Nat) (h1 : 1 ≤ m) (h2 : m ≤ 1000000) :
    Calls Try.prog 8 #[.int .i64 n, .int .i64 (m : Int)] w fun e w' => (∃ p : Nat, e = .returned (.int .i64 (p : Int)) ∧ p < m) ∧ w = w' := by
  have e1 : ¬ ((m : Int) < 1) := by omega
  have e2 : ((m : Int) == 0) = false := by simp; omega
  have t1 : n.tmod m < m := Int.tmod_lt_of_pos _ (by omega)
  have t2 : -(m : Int) < n.tmod m := by
    have := Int.tmod_lt_of_pos (-n) (b := (m : Int)) (by omega)
    rw [Int.neg_tmod] at this
    omega
  have hw : wrap64 (n.tmod m + m) = n.tmod m + m := by unfold wrap64; omega
  by_cases hneg : n.tmod m < 0
  · have e3 : ¬ 0 ≤ n.tmod m := by omega
    go_enter Try.func8, Try.ntmps8
    go_wp2
    go_ret
    exact ⟨⟨(n.tmod m + m).toNat, by show Ending.returned (Value.int .i64 (n.tmod m + m)) = _; congr 2; omega, by omega⟩, rfl⟩
  · have e3 : 0 ≤ n.tmod m := by omega
    go_enter Try.func8, Try.ntmps8
    go_wp2
    go_ret
    exact ⟨⟨(n.tmod m).toNat, by show Ending.returned (Value.int .i64 (n.tmod m)) = _; congr 2; omega, by omega⟩, rfl⟩
end -- GpM

end Go.Proofs.Ytibelpamolcmcaa
