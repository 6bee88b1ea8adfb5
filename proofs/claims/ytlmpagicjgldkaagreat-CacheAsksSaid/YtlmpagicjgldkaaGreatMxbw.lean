/-
  RcF: The reference's cache (layer 6): Decode.
  RcG: Layer 6: the cache and the document's beside each other: what they keep while one of them, or what was told, turns.
-/
import Derived.Test.YtlmpagicjgldkaaGreatRcE
namespace Go.Proofs.YtlmpagicjgldkaaGreat

section -- RcF
open Go.RowKit Go.Maps
set_option linter.unusedVariables false
set_option linter.unusedSimpArgs false
set_option maxRecDepth 100000
set_option maxHeartbeats 4000000

theorem hIdx_take (hs : List (Int × List B)) (m : Nat) : hIdx (hs.take m) = (hIdx hs).take m := by simp [hIdx, List.map_take]
theorem rcdecode_any (w : World) {base rb N R M : Nat} {G : Nat → Prop} {v : Value} {p : PS} (hc : RCAt w base G rb v p) (hG : ∀ i, w.heap.size ≤ i → G i) (hb : base ≤ w.heap.size) (hi : PInv N R M p) (hN : N ≤ 255) (hR : 1 ≤ R) (hR2 : R ≤ 64) (hM : M < 1000000000) (k : Int) (vx : Value) (hs : List (Int × List B)) (wide : Nat) (hv : HeldAt w vx hs) (hl : hs.length ≤ 1000) (hw0 : (hs.getD 0 (0, [])).2.length = wide) (hwb : wide ≤ 1000000) (hev : evenH hs = true) (xs : List Int) (hxs : hIdx hs = xs) :
    Calls Tryz.prog 17 #[.pointer (some ⟨rb, 0, none⟩), .int .i64 k, vx] w (RTold w base G rb v (p.step k xs) (askErr N k xs) (decL k.toNat (idxB (xs.take k.toNat)) (hRow hs) wide)) := by
  have HC := Lib.hid hc
  have HXS := Lib.hid hxs
  have HEV := Lib.hid hev
  have HW0 := Lib.hid hw0
  have HXL := Lib.hid (show xs.length = hs.length by rw [← hxs, hIdx_len])
  clear hxs hev hw0
  have HV := Lib.hid hv
  have HI := Lib.hid hi
  have HGG := Lib.hid hG
  clear hG
  have c0 := hc.c0
  have hpn := hi.n
  rw [hpn] at c0
  obtain ⟨pp, lx, cap, rfl⟩ : ∃ pp lx cap, vx = .slice pp lx cap := by
    obtain ⟨pp, cap, e, _⟩ := hv
    exact ⟨pp, _, cap, e⟩
  by_cases hk : k < 1 ∨ (N : Int) < k
  · have HE := Lib.hid (show askErr N k xs = 2 by unfold askErr; rw [if_pos hk])
    have HST := Lib.hid (show p.step k xs = p by unfold PS.step; rw [hpn, HE.out, if_neg (by decide)])
    have HNB := Lib.hid (rnew_bad w (N : Int) k (by omega))
    clear hc hv hi hpn hk
    go_enter Tryz.func17, Tryz.ntmps17
    go_wp2_with fail
    refine HNB.out.mono ?_
    rintro e w' ⟨rfl, rfl⟩
    go_wp2
    go_ret2
    rw [HE.out]
    exact ⟨.slice none 0 0, v, rfl, fun h => (by cases h), fun _ => rfl, by rw [HST.out]; exact HC.out, Kept.refl _ _, fun b h => .inl h⟩
  · obtain ⟨K, rfl⟩ : ∃ K : Nat, k = K := ⟨k.toNat, by omega⟩
    have hk1 : 1 ≤ K := by omega
    have hk2 : K ≤ N := by omega
    have hee : askErr N (K : Int) xs = askE N K xs := by unfold askErr; rw [if_neg hk, Int.toNat_natCast]
    have HST := Lib.hid (show p.step (K : Int) xs = if askE N K xs = 0 then p.ask (K, xs.take K) else p by unfold PS.step; rw [hpn, hee, Int.toNat_natCast])
    rw [hee, Int.toNat_natCast]
    have HNA := Lib.hid (rnew_any w N K hk1 hk2 hN)
    obtain ⟨er, her⟩ : ∃ er, askE N K xs = er := ⟨_, rfl⟩
    rw [her] at HST ⊢
    have HER := Lib.hid her
    have HSZ := Lib.hid hb
    clear hc hv hi hpn hk hee her hb
    go_enter Tryz.func17, Tryz.ntmps17
    go_wp2_with fail
    refine HNA.out.mono ?_
    rintro e w1 ⟨cb, rfl, hcb, hB1⟩
    have HCB := Lib.hid hcb
    have HB1 := Lib.hid hB1
    have hTU := rdecode_any w1 hcb hk1 hk2 hN _ hs wide (HV.out.below hB1) (by omega) HW0.out hwb
    have hde : decE N K hs = er := by unfold decE; rw [HEV.out, HXS.out]; exact HER.out
    rw [hde, HXS.out] at hTU
    have HTU := Lib.hid hTU
    clear hTU hde
    clear hcb hB1
    go_wp2_with fail
    refine HTU.out.mono ?_
    rintro e w2 ⟨vr, rfl, hr0, hr1, hB2⟩
    have HB2 := Lib.hid (below_more HB1.out hB2 HB1.out.size)
    have HC2 := Lib.hid (HC.out.below HB2.out)
    have HV2 := Lib.hid (HV.out.below HB2.out)
    by_cases h0 : er = 0
    · subst h0
      have HRN := Lib.hid ((hr0 rfl).weaken HB1.out.size)
      have HAZ := Lib.hid (askE_zero HER.out)
      have HLX := Lib.hid (show K ≤ xs.length from HAZ.out.len)
      obtain ⟨us, hus, _⟩ := hr0 rfl
      obtain ⟨pr, lr, cr, rfl⟩ : ∃ pr lr cr, vr = .slice pr lr cr := by
        rcases hus.2 with ⟨rfl, _⟩ | ⟨g, c, cur, rfl, _⟩
        · exact ⟨_, _, _, rfl⟩
        · exact ⟨_, _, _, rfl⟩
      have HSTP := Lib.hid (show p.step (K : Int) xs = p.ask (K, xs.take K) by rw [HST.out, if_pos rfl])
      clear hr0 hr1 hB2 hus
      obtain ⟨L, hL⟩ : ∃ L, hs.length = L := ⟨_, rfl⟩
      have hvv := HV2.out
      rw [hL] at hl
      obtain ⟨ph, ch, e1, _, hcc⟩ := hvv
      rw [hL] at e1 hcc
      have e2 := (Value.slice.inj e1).1
      have e3 := (Value.slice.inj e1).2.1
      subst e2
      subst e3
      clear e1
      have HCC := Lib.hid hcc
      have HL := Lib.hid hL
      have HXL2 := Lib.hid (show xs.length = lx by rw [HXL.out, HL.out])
      clear hcc hL
      go_wp2
      go_loopw [12, 13] (fun vi i wr => ∃ m : Nat, m ≤ lx ∧ i = .int .i64 (m : Int) ∧ wr.ownsRow w2.heap.size 3 1 vi m ((xs.take m).map (Value.int .i64)) ∧ Below w2.heap.size w2 wr) (fun _ i _ => lx - (intOf i).toNat)
      case atStart => exact ⟨0, Nat.zero_le _, rfl, World.ownsRow_nil _ _ _ _, Below.refl _ _⟩
      case round =>
        obtain ⟨m, hm, rfl, ho, hB⟩ := hrel
        have HO := Lib.hid ho
        have HBR := Lib.hid hB
        have hsr := hB.size
        clear ho hB
        by_cases hlt : m < lx
        · obtain ⟨g, off, rfl, hc2⟩ := HCC.out (by omega)
          obtain ⟨x0, uu, x1, x2⟩ := hc2 m hlt
          have y0 := (HBR.out.cell (p := ⟨g, off + m * 2, none⟩) (blt x0)).trans x0
          obtain ⟨y, hy⟩ : ∃ y, (hs.getD m (0, [])).1 = y := ⟨_, rfl⟩
          rw [hy] at y0
          have HTS := Lib.hid (show (xs.take m).map (Value.int .i64) ++ [.int .i64 y] = (xs.take (m + 1)).map (Value.int .i64) by
            have := hIdx_snoc (hs := hs) (m := m) (by rw [HL.out]; exact hlt)
            rw [hy, hIdx_take, hIdx_take, HXS.out] at this
            rw [← this]
            simp)
          clear hc2 x0 x1 x2 hy
          go_wp2_with (at_builtin; refine app_el 32 3 1 8 (.int .i64 0) Tryz.underlying32 infoI rfl (by decide) rfl _ _ rfl w2.heap.size m _ _ rfl HO.out [.int .i64 y] rfl (one_int y) rfl (by omega) hsr ?_; intro g' c' w6 hR6 hk6 hs6 hg6)
          go_roundw
          case rel => exact ⟨m + 1, by omega, by go_num, by rw [← HTS.out]; exact hR6, HBR.out.trans (hk6.toBelow hsr (fun i hi => (World.ownsRow.lt HO.out i hi).1))⟩
          case measure => simp [intOf]; omega
        · obtain rfl : m = lx := by omega
          have HTK := Lib.hid (show xs.take m = xs by rw [← HXL2.out, List.take_length])
          have hoo := HO.out
          rw [HTK.out, ← HXL2.out] at hoo
          have HVI := Lib.hid (IntsAt.of_owns hoo)
          clear hoo
          have HKK := Lib.hid (rkey_any wr K _ xs HVI.out (by rw [HXL2.out]; omega) HLX.out)
          have HB2 := Lib.hid (below_more HB2.out HBR.out HB2.out.size)
          have HC2 := Lib.hid (HC2.out.below HBR.out)
          have HRN := Lib.hid (HRN.out.below HBR.out)
          go_wp2_with fail
          refine HKK.out.mono ?_
          rintro e w3 ⟨u, rfl, hu, hub, hB3⟩
          have HB3 := Lib.hid (below_more HB2.out hB3 HB2.out.size)
          have hlr := HC2.out.lt
          have hlv := HC2.out.keys.lt
          have HAS := Lib.hid (rask_any w3 (HC2.out.below hB3) (Nat.le_trans HSZ.out HB3.out.size) HI.out hR hR2 hM (K, xs.take K) u hu (fun b e => ⟨HGG.out b (by have := (hub b e).1; have := HB2.out.size; omega), fun h => by have := (hub b e).1; have := (hlv b h).2; omega⟩) (by rw [List.length_take, HXL2.out]; omega))
          have HRN3 := Lib.hid (HRN.out.below hB3)
          clear hu hub hB3 hlr hlv hsr
          go_wp2_with fail
          refine HAS.out.mono ?_
          rintro e w4 ⟨rfl, v', hc4, hk4, hn4⟩
          have HC4 := Lib.hid hc4
          have HK4 := Lib.hid hk4
          have HN4 := Lib.hid hn4
          clear hc4 hk4 hn4
          go_wp2
          go_ret2
          refine ⟨_, v', rfl, fun _ => HRN3.out.kept HK4.out (fun i hi => ?_), fun h => absurd rfl h, by rw [HSTP.out]; exact HC4.out, ?_, fun b e => ?_⟩
          · rcases hi with rfl | hi
            · exact HC.out.lt
            · exact (HC.out.keys.lt i hi).2
          · exact ((Kept.below HB3.out).mono (fun _ _ h => h.elim)).trans HK4.out (fun _ _ h => h)
          · rcases HN4.out b e with h | h
            · exact .inl h
            · exact .inr (Nat.le_trans HB3.out.size h)
    · have he : (er == 0) = false := by simpa using h0
      have HSTP := Lib.hid (show p.step (K : Int) xs = p by rw [HST.out, if_neg h0])
      have HE0 := Lib.hid h0
      obtain rfl := hr1 h0
      clear hr0 hr1 hB2 h0
      go_wp2
      go_ret2
      exact ⟨_, v, rfl, fun h => absurd h HE0.out, fun _ => rfl, by rw [HSTP.out]; exact HC2.out, (Kept.below HB2.out).mono (fun _ _ h => h.elim), fun b e => .inl e⟩
end -- RcF

section -- RcG
open Go.RowKit Go.Maps
set_option linter.unusedVariables false
set_option linter.unusedSimpArgs false
set_option maxRecDepth 100000
set_option maxHeartbeats 4000000

theorem RCAt.more {w : World} {base rb : Nat} {G G' : Nat → Prop} {v : Value} {p : PS} (h : RCAt w base G rb v p) (hG : ∀ i, G i → i < w.heap.size → G' i) (hr : ¬ G' rb) : RCAt w base G' rb v p := by
  obtain ⟨h1, ⟨us, ho, hu⟩, h3, h4, h5⟩ := h
  exact ⟨h1, ⟨us, ho, fun i u hi => ⟨(hu i u hi).1, fun b e => ⟨hG b ((hu i u hi).2 b e).1 ((hu i u hi).1.lt (by simp [keyI]) b e), ((hu i u hi).2 b e).2⟩⟩⟩, h3, h4, hr⟩
theorem MatW.blt {w : World} {gm k W : Nat} {U : Nat → Nat × Nat} {M : Nat → Nat → B} (h : MatW w gm k W U M) (i : Nat) (hi : matB gm k U i) : i < w.heap.size := by
  rcases hi with rfl | ⟨r, hr, rfl⟩
  · exact h.lt
  · exact (h.row r hr).lt
theorem CacheAt.more {w : World} {F F' : Nat → Prop} {b bm : Nat} {s : CS} (h : CacheAt w F b bm s) (hF : ∀ i, F' i → i < w.heap.size → F i) (hb : F' b) (hm : F' bm) : CacheAt w F' b bm s :=
  ⟨h.c0, h.c1, h.c2, h.c3, h.c4, h.c5, h.c6, h.c7, h.fz, h.map, h.good, fun e he => by
    obtain ⟨U, hM, hU⟩ := h.mat e he
    exact ⟨U, hM, fun i hi hf => hU i hi (hF i hf (hM.blt i hi))⟩, hb, hm, h.rise, h.n1, h.n255, h.r1, h.r64, h.full⟩
/-- What was told may turn, and what no matrix lies in. -/
theorem told_kept {w1 w3 : World} {F S : Nat → Prop} {lo b bm : Nat} {s : CS} (h : ∀ w2, Below lo w1 w2 → CacheAt w2 F b bm s) (hlo : lo ≤ w1.heap.size) (hk : Kept S w1 w3) (hS : ∀ i, S i → lo ≤ i ∨ (F i ∧ i ≠ b ∧ i ≠ bm)) : CacheAt w3 F b bm s := by
  have hbl : b < lo ∨ lo ≤ b := by omega
  have hsz := hk.size
  let H : Array Obj := Array.ofFn (fun i : Fin w3.heap.size => if i.val < lo then (w1.heap[i.val]?).getD w3.heap[i.val] else w3.heap[i.val])
  have hH : ∀ i, (if i < lo then w1.heap[i]? else w3.heap[i]?) = H[i]? := fun i => by
    by_cases hi : i < w3.heap.size
    · have e : H[i]? = some (if i < lo then (w1.heap[i]?).getD w3.heap[i] else w3.heap[i]) := by simp [H, hi]
      rw [e]
      by_cases hl : i < lo
      · rw [if_pos hl, if_pos hl, Array.getElem?_eq_getElem (show i < w1.heap.size by omega)]
        rfl
      · rw [if_neg hl, if_neg hl, Array.getElem?_eq_getElem hi]
    · have e : H[i]? = none := by simp [H]; omega
      rw [e, if_neg (by omega)]
      simp
      omega
  have h1 : Below lo w1 { w3 with heap := H } := ⟨hk.os, hk.tape, hk.output, by show w1.heap.size ≤ H.size; simp [H]; exact hsz, fun i hi => by
    have := hH i
    rw [if_pos hi] at this
    exact this.symm⟩
  have h2 : Kept (fun i => S i ∧ i < lo) { w3 with heap := H } w3 := ⟨rfl, rfl, rfl, by show H.size ≤ w3.heap.size; simp [H], fun i hi hn => by
    show w3.heap[i]? = H[i]?
    rw [← hH i]
    by_cases hl : i < lo
    · rw [if_pos hl]
      exact hk.block i (by omega) (fun hs => hn ⟨hs, hl⟩)
    · rw [if_neg hl]⟩
  have hno : ∀ i, S i ∧ i < lo → F i ∧ i ≠ b ∧ i ≠ bm := fun i hi => by
    rcases hS i hi.1 with h | h
    · omega
    · exact h
  exact (h _ h1).kept h2 (fun hb => (hno b hb).2.1 rfl) (fun hm => (hno bm hm).2.2 rfl) (fun i hi => (hno i hi).1)

/-- No matrix lies in what was told. -/
theorem told_low {w1 : World} {F : Nat → Prop} {lo b bm : Nat} {s : CS} (h : ∀ w2, Below lo w1 w2 → CacheAt w2 F b bm s) (hlo : lo ≤ w1.heap.size) (w2 : World) (h2 : Below lo w1 w2) : CacheAt w2 (fun i => F i ∨ lo ≤ i) b bm s := by
  let H : Array Obj := Array.ofFn (fun i : Fin w1.heap.size => if i.val < lo then w1.heap[i.val] else .cells #[] 0 (0, 0))
  have hS : H.size = w1.heap.size := by simp [H]
  have hL : ∀ i, i < lo → H[i]? = w1.heap[i]? := fun i hi => by
    have hi2 : i < w1.heap.size := by omega
    have e : H[i]? = some (if i < lo then w1.heap[i]'hi2 else .cells #[] 0 (0, 0)) := by simp [H, hi2]
    rw [e, if_pos hi, Array.getElem?_eq_getElem]
  have hG : ∀ i, lo ≤ i → i < w1.heap.size → H[i]? = some (.cells #[] 0 (0, 0)) := fun i hi hl => by
    have e : H[i]? = some (if i < lo then w1.heap[i]'hl else .cells #[] 0 (0, 0)) := by simp [H, hl]
    rw [e, if_neg (by omega)]
  have hW := h { w1 with heap := H } ⟨rfl, rfl, rfl, by show w1.heap.size ≤ H.size; omega, fun i hi => hL i hi⟩
  have hk : Kept (fun i => lo ≤ i) { w1 with heap := H } w2 := ⟨h2.os, h2.tape, h2.output, by have := h2.size; show H.size ≤ w2.heap.size; omega, fun i _ hn => (h2.block i (by omega)).trans (hL i (by omega)).symm⟩
  have hc := h w2 h2
  refine ⟨hc.c0, hc.c1, hc.c2, hc.c3, hc.c4, hc.c5, hc.c6, hc.c7, hc.fz, hc.map, hc.good, fun e he => ?_, .inl hc.fb, .inl hc.fm, hc.rise, hc.n1, hc.n255, hc.r1, hc.r64, hc.full⟩
  obtain ⟨U, hM, hU⟩ := hW.mat e he
  have hk1 := (hc.good e he).k1
  have hlow : ∀ i, matB e.gm e.k U i → i < lo := fun i hi => by
    have hlt : i < w1.heap.size := by
      have := hM.blt i hi
      have h3 : i < H.size := this
      omega
    by_cases hl : i < lo
    · exact hl
    · have hg := hG i (by omega) hlt
      rcases hi with rfl | ⟨r, hr, rfl⟩
      · obtain ⟨C, q1, q2, q3⟩ := hM.outer
        have q4 : H[e.gm]? = some (.cells C 43 (0, 0)) := q1
        rw [hg] at q4
        have q5 := (Obj.cells.inj (Option.some.inj q4)).1
        rw [← q5] at q2
        simp at q2
        omega
      · have q1 := hM.cell hr (j := 0) (by omega)
        have q2 : ({ w1 with heap := H } : World).heap[(U r).1]? = some (.cells #[] 0 (0, 0)) := hg
        rw [cell_of q2] at q1
        simp at q1
  exact ⟨U, hM.kept hk (fun i hi hl => by have := hlow i hi; omega), fun i hi hf => by
    rcases hf with hf | hf
    · exact hU i hi hf
    · have := hlow i hi
      omega⟩

theorem has_same {w : World} {F : Nat → Prop} {b bm : Nat} {s : CS} (hc : CacheAt w F b bm s) (k : Int) (xs : List Int) : s.plain.has k xs = rhasB s.plain k xs := by
  unfold PS.has rhasB
  rw [Bool.eq_iff_iff, decide_eq_true_eq, decide_eq_true_eq]
  constructor
  · rintro ⟨h1, h2, h3, h4, h5⟩
    exact ⟨by omega, h3, h5⟩
  · rintro ⟨h1, h2, h3⟩
    obtain ⟨e, he, hk⟩ := List.mem_map.1 (show (k.toNat, xs.take k.toNat) ∈ s.es.map CE.key from h3)
    unfold CE.key at hk
    obtain ⟨q1, q2⟩ := Prod.mk.inj hk
    have hg := hc.good e he
    have g1 := hg.k1
    have g2 := hg.kn
    refine ⟨by omega, ?_, h2, ?_, h3⟩
    · show k ≤ (s.n : Int)
      omega
    · rw [← q2]
      exact hg.rng

/-- The blocks in which no matrix of the cache lies. -/
def CF (b bm rb : Nat) (v : Value) (i : Nat) : Prop := i = b ∨ i = bm ∨ i = rb ∨ v.ownBlock = some i
/-- The blocks in which no key's numbers of the reference lie. -/
def CG (b bm rb : Nat) (i : Nat) : Prop := i ≠ b ∧ i ≠ bm ∧ i ≠ rb
/-- Both caches, of this plain kind. -/
structure Both (w : World) (base b bm rb : Nat) (v : Value) (p : PS) : Prop where
  c : ∃ s, CacheAt w (CF b bm rb v) b bm s ∧ s.plain = p
  r : RCAt w base (CG b bm rb) rb v p
  lb : b < base
  lm : bm < base
section
variable {w w' : World} {base b bm rb : Nat} {v : Value} {p : PS}
theorem Both.below (h : Both w base b bm rb v p) (hb : Below w.heap.size w w') : Both w' base b bm rb v p := by
  obtain ⟨s, hc, hp⟩ := h.c
  exact ⟨⟨s, hc.below hb, hp⟩, h.r.below hb, h.lb, h.lm⟩
theorem Both.flt (h : Both w base b bm rb v p) : ∀ i, CF b bm rb v i → i < w.heap.size := by
  obtain ⟨s, hc, hp⟩ := h.c
  intro i hi
  rcases hi with rfl | rfl | rfl | hi
  · exact hc.lt
  · exact hc.map.lt
  · exact h.r.lt
  · exact (h.r.keys.lt i hi).2
theorem Both.bs (h : Both w base b bm rb v p) : base ≤ w.heap.size := by have := h.r.le; have := h.r.lt; omega
/-- The cache was asked: what it told lies between lo and the heap's end. -/
structure Mid (w w1 : World) (lo base b bm rb : Nat) (v : Value) (p p' : PS) : Prop where
  c : ∃ s, (∀ w2, Below lo w1 w2 → CacheAt w2 (fun i => CF b bm rb v i ∨ lo ≤ i) b bm s) ∧ s.plain = p'
  r : RCAt w1 base (fun i => CG b bm rb i ∧ ¬ (lo ≤ i ∧ i < w1.heap.size)) rb v p
  l1 : w.heap.size ≤ lo
  l2 : lo ≤ w1.heap.size
  k : Kept (CK b bm) w w1
  lb : b < base
  lm : bm < base
  bs : base ≤ w.heap.size
  fl : ∀ i, CF b bm rb v i → i < w.heap.size
theorem CG.no (hb : b < base) (hm : bm < base) (hr : base ≤ rb) : (∀ i, CK b bm i → ¬ CG b bm rb i) ∧ ¬ CG b bm rb rb := ⟨fun i hi h => by
  rcases hi with rfl | rfl
  · exact h.1 rfl
  · exact h.2.1 rfl, fun h => h.2.2 rfl⟩
theorem Both.mid (h : Both w base b bm rb v p) {w1 : World} {lo : Nat} {s' : CS} (hc : ∀ w2, Below lo w1 w2 → CacheAt w2 (CF b bm rb v) b bm s') (h1 : w.heap.size ≤ lo) (h2 : lo ≤ w1.heap.size) (hk : Kept (CK b bm) w w1) : Mid w w1 lo base b bm rb v p s'.plain := by
  have hle := h.r.le
  have hrl := h.r.lt
  have hn := CG.no (rb := rb) h.lb h.lm hle
  have hr := h.r.more (G' := fun i => CG b bm rb i ∧ ¬ (lo ≤ i ∧ i < w1.heap.size)) (fun i hi hl => ⟨hi, by omega⟩) (fun h => hn.2 h.1)
  refine ⟨⟨s', told_low hc h2, rfl⟩, hr.kept hk (fun i hi => ⟨fun h => hn.1 i hi h.1, ?_, fun e => ?_⟩), h1, h2, hk, h.lb, h.lm, h.bs, h.flt⟩
  · have := h.lb
    have := h.lm
    rcases hi with rfl | rfl <;> omega
  · have := (h.r.keys.lt i e).1
    have := h.lb
    have := h.lm
    rcases hi with rfl | rfl <;> omega
/-- The reference was asked too: what was told may turn. -/
theorem Mid.both {w1 w2 w3 : World} {lo : Nat} {v' : Value} {p' : PS} {S : Nat → Prop} (h : Mid w w1 lo base b bm rb v p p') (hr : RCAt w2 base (fun i => CG b bm rb i ∧ ¬ (lo ≤ i ∧ i < w1.heap.size)) rb v' p') (hk : Kept (RK rb v) w1 w2) (hv : ∀ b, v'.ownBlock = some b → v.ownBlock = some b ∨ w1.heap.size ≤ b)
    (hk3 : Kept S w2 w3) (hS : ∀ i, S i → lo ≤ i ∧ i < w1.heap.size) : Both w3 base b bm rb v' p' := by
  have h1 := h.l1
  have h2 := h.l2
  have hrle := hr.le
  have hf := h.fl
  have hlb := h.lb
  have hlm := h.lm
  have hrb := hf rb (.inr (.inr (.inl rfl)))
  have hbs := h.bs
  obtain ⟨s, hc, hp⟩ := h.c
  have hrb2 : ∀ i, v.ownBlock = some i → base ≤ i := fun i e => (h.r.keys.lt i e).1
  have hk13 : Kept (fun i => RK rb v i ∨ S i) w1 w3 := (hk.mono (fun _ _ h => .inl h)).trans hk3 (fun _ _ h => .inr h)
  have hca := told_kept hc h2 hk13 (fun i hi => by
    rcases hi with (rfl | hi) | hi
    · exact .inr ⟨.inl (.inr (.inr (.inl rfl))), by omega, by omega⟩
    · have := hrb2 i hi
      exact .inr ⟨.inl (.inr (.inr (.inr hi))), by omega, by omega⟩
    · exact .inl (hS i hi).1)
  have hr3 := hr.kept hk3 (fun i hi => ⟨fun h => h.2 (hS i hi), by have := hS i hi; omega, fun e => by
    have h3 := hS i hi
    rcases hv i e with h | h
    · have := hf i (.inr (.inr (.inr h)))
      omega
    · omega⟩)
  refine ⟨⟨s, hca.more (fun i hi _ => ?_) (.inl rfl) (.inr (.inl rfl)), hp⟩, hr3.more (fun i hi _ => hi.1) (fun h => h.2.2 rfl), hlb, hlm⟩
  rcases hi with h | h | h | h
  · exact .inl (.inl h)
  · exact .inl (.inr (.inl h))
  · exact .inl (.inr (.inr (.inl h)))
  · rcases hv i h with h | h
    · exact .inl (.inr (.inr (.inr h)))
    · exact .inr (by omega)
end
end -- RcG

end Go.Proofs.YtlmpagicjgldkaaGreat
