/-
  The reference's cache (layer 6): New, Has, ask, Turn.
-/
import Derived.Test.YtlmpagicjgldkaaGreatRcD
namespace Go.Proofs.YtlmpagicjgldkaaGreat
open Go.RowKit Go.Maps
set_option linter.unusedVariables false
set_option linter.unusedSimpArgs false
set_option maxRecDepth 100000
set_option maxHeartbeats 4000000

theorem rcnew_bad (w : World) (n room : Int) (h : n < 1 ∨ 255 < n ∨ room < 1 ∨ 64 < room) :
    Calls Tryz.prog 8 #[.int .i64 n, .int .i64 room] w fun e w' => e = .returned (.tuple #[.pointer none, .int .i64 2]) ∧ w = w' := by
  go_enter Tryz.func8, Tryz.ntmps8
  go_wp2
  all_goals
    first
      | (exfalso; omega)
      | (go_ret2; exact ⟨rfl, rfl⟩)
theorem rcnew_any (w : World) (n room : Nat) (h1 : 1 ≤ n) (h2 : n ≤ 255) (h3 : 1 ≤ room) (h4 : room ≤ 64) :
    Calls Tryz.prog 8 #[.int .i64 (n : Int), .int .i64 (room : Int)] w fun e w' => ∃ rb, e = .returned (.tuple #[.pointer (some ⟨rb, 0, none⟩), .int .i64 0]) ∧ (∀ G : Nat → Prop, ¬ G rb → RCAt w' w.heap.size G rb (.slice none 0 0) ⟨n, room, 0, 0, 0, 0, []⟩) ∧ w.heap.size ≤ rb ∧ Below w.heap.size w w' := by
  have e1 : ¬ (n : Int) < 1 := by omega
  have e2 : ¬ (255 : Int) < n := by omega
  have e3 : ¬ (room : Int) < 1 := by omega
  have e4 : ¬ (64 : Int) < room := by omega
  have HC := Lib.hid (show ∀ G : Nat → Prop, ¬ G w.heap.size → RCAt (w.alloc (.cells #[.int .i64 (n : Int), .int .i64 (room : Int), .slice none 0 0, .int .i64 0, .int .i64 0, .int .i64 0] 67)) w.heap.size G w.heap.size (.slice none 0 0) ⟨n, room, 0, 0, 0, 0, []⟩ from fun G hg =>
    ⟨heap_alloc_new w _, ⟨[], World.ownsRow_nil _ _ _ _, fun i u h => by simp at h⟩, fun h => by simp [Value.ownBlock] at h, Nat.le_refl _, hg⟩)
  have HB := Lib.hid (bal' w (.cells #[.int .i64 (n : Int), .int .i64 (room : Int), .slice none 0 0, .int .i64 0, .int .i64 0, .int .i64 0] 67))
  go_enter Tryz.func8, Tryz.ntmps8
  go_wp2
  go_ret2
  exact ⟨_, rfl, HC.out, Nat.le_refl _, HB.out⟩

theorem atK_mem {ks : List (Nat × List Int)} {q : Nat × List Int} : 0 ≤ atK ks (keyI q) ↔ q ∈ ks := by
  constructor
  · intro h
    by_cases hq : q ∈ ks
    · exact hq
    · rw [atK_no (fun j hj e => by
        rw [getD_eq hj] at e
        exact hq (keyI_inj e ▸ List.getElem_mem hj))] at h
      omega
  · intro hq
    unfold atK
    cases e : ks.findIdx? (fun p => decide (keyI p = keyI q)) with
    | some i => show (0 : Int) ≤ (i : Int); omega
    | none =>
      rw [List.findIdx?_eq_none_iff] at e
      have := e q hq
      simp at this

/-- What the reference's Has answers. -/
def rhasB (p : PS) (k : Int) (xs : List Int) : Bool := decide (0 ≤ k ∧ k ≤ xs.length ∧ (k.toNat, xs.take k.toNat) ∈ p.keys)
theorem rchas_any (w : World) {base rb : Nat} {G : Nat → Prop} {v : Value} {p : PS} (hc : RCAt w base G rb v p) (hn : p.keys.length ≤ 1000000) (k : Int) (vx : Value) (xs : List Int) (hv : IntsAt w vx xs) (hl : xs.length ≤ 100000) :
    Calls Tryz.prog 20 #[.pointer (some ⟨rb, 0, none⟩), .int .i64 k, vx] w fun e w' => e = .returned (.bool (rhasB p k xs)) ∧ Below w.heap.size w w' := by
  obtain ⟨r, hr⟩ : ∃ r, rhasB p k xs = r := ⟨_, rfl⟩
  rw [hr]
  have HR := Lib.hid hr
  have HC := Lib.hid hc
  have HV := Lib.hid hv
  obtain ⟨pp, cap, rfl, _⟩ := hv
  by_cases hk : k < 0 ∨ xs.length < k
  · have HRF := Lib.hid (show r = false by rw [← HR.out]; unfold rhasB; rw [decide_eq_false_iff_not]; omega)
    have HKK := Lib.hid (rkey_bad w k _ xs HV.out hk)
    clear hr hc hk
    go_enter Tryz.func20, Tryz.ntmps20
    go_wp2_with fail
    refine HKK.out.mono ?_
    rintro e w' ⟨rfl, rfl⟩
    go_wp2
    go_ret
    exact ⟨by rw [HRF.out]; rfl, Below.refl _ _⟩
  · obtain ⟨K, rfl⟩ : ∃ K : Nat, k = K := ⟨k.toNat, by omega⟩
    have hk2 : K ≤ xs.length := by omega
    have hll : (xs.take K).length = K := by rw [List.length_take]; omega
    have HKK := Lib.hid (rkey_any w K _ xs HV.out (by omega) hk2)
    obtain ⟨t, ht⟩ : ∃ t, atK p.keys (keyI (K, xs.take K)) = t := ⟨_, rfl⟩
    have HRT := Lib.hid (show r = decide (0 ≤ t) by
      rw [← HR.out, ← ht]
      unfold rhasB
      rw [Int.toNat_natCast, Bool.eq_iff_iff, decide_eq_true_eq, decide_eq_true_eq, atK_mem]
      exact ⟨fun h => h.2.2, fun h => ⟨by omega, by omega, h⟩⟩)
    have HT := Lib.hid ht
    have HLK := Lib.hid (show (keyI (K, xs.take K)).length = K + 1 by unfold keyI; simp; omega)
    have hK1 : K ≤ 100000 := by omega
    clear hr hc hk hk2 hll ht
    go_enter Tryz.func20, Tryz.ntmps20
    go_wp2_with fail
    refine HKK.out.mono ?_
    rintro e w1 ⟨u, rfl, hu, hub, hB⟩
    have HAT := Lib.hid (rat_any w1 (HC.out.below hB) hn u _ hu (by rw [HLK.out]; omega))
    rw [HT.out] at HAT
    have HB := Lib.hid hB
    obtain ⟨pu, cu, rfl, _⟩ := hu
    have HUS := Lib.hid (show (Value.slice pu (keyI (K, xs.take K)).length cu) = .slice pu (K + 1) cu by rw [HLK.out])
    rw [HLK.out] at HAT
    rw [HUS.out]
    clear hub hB HUS
    go_wp2_with fail
    refine HAT.out.mono ?_
    rintro e w' ⟨rfl, nq, rfl⟩
    go_wp2
    go_ret
    exact ⟨by rw [HRT.out]; rfl, below_more HB.out ⟨rfl, rfl, rfl, Nat.le_refl _, fun _ _ => rfl⟩ HB.out.size⟩

/-- ask, whatever the key. -/
theorem rask_any (w : World) {base rb N R M : Nat} {G : Nat → Prop} {v : Value} {p : PS} (hc : RCAt w base G rb v p) (hb : base ≤ w.heap.size) (hi : PInv N R M p) (hR : 1 ≤ R) (hR2 : R ≤ 64) (hM : M < 1000000000) (q : Nat × List Int) (u : Value) (hu : IntsAt w u (keyI q)) (hub : ∀ b, u.ownBlock = some b → G b ∧ v.ownBlock ≠ some b) (hql : q.2.length ≤ 1000) :
    Calls Tryz.prog 31 #[.pointer (some ⟨rb, 0, none⟩), u] w fun e w' => e = .returned (.tuple #[]) ∧ ∃ v', RCAt w' base G rb v' (p.ask q) ∧ Kept (RK rb v) w w' ∧ (∀ b, v'.ownBlock = some b → v.ownBlock = some b ∨ w.heap.size ≤ b) := by
  obtain ⟨s1, s2, s3, s4⟩ := hi.small hM
  have hf := hi.full
  have hr := hi.room
  by_cases hq : q ∈ p.keys
  · exact rask_hit w hc hb q hq u hu (fun b e => (hub b e).1) hql (by omega) hi.nd s2
  · by_cases hlt : p.keys.length < p.room
    · exact rask_low w hc hb q hq hlt u hu hub hql (by omega) s3 s4
    · exact rask_full w hc hb q hq (by omega) (by omega) u hu hub hql (by omega) s3 s4

/-- What Turn, Decode of the reference leave. -/
def RTold (w : World) (base : Nat) (G : Nat → Prop) (rb : Nat) (v : Value) (p' : PS) (er : Int) (R : List (List B)) (e : Ending) (w' : World) : Prop :=
  ∃ vr v', e = .returned (.tuple #[vr, .int .i64 er]) ∧ (er = 0 → RowsNew w' w.heap.size vr R) ∧ (er ≠ 0 → vr = .slice none 0 0) ∧ RCAt w' base G rb v' p' ∧ Kept (RK rb v) w w' ∧ (∀ b, v'.ownBlock = some b → v.ownBlock = some b ∨ w.heap.size ≤ b)

theorem rcturn_any (w : World) {base rb N R M : Nat} {G : Nat → Prop} {v : Value} {p : PS} (hc : RCAt w base G rb v p) (hG : ∀ i, w.heap.size ≤ i → G i) (hb : base ≤ w.heap.size) (hi : PInv N R M p) (hN : N ≤ 255) (hR : 1 ≤ R) (hR2 : R ≤ 64) (hM : M < 1000000000) (k : Int) (vx : Value) (xs : List Int) (hv : IntsAt w vx xs) (hl : xs.length ≤ 1000) :
    Calls Tryz.prog 12 #[.pointer (some ⟨rb, 0, none⟩), .int .i64 k, vx] w (RTold w base G rb v (p.step k xs) (askErr N k xs) (turnL k.toNat (idxB (xs.take k.toNat)))) := by
  have HC := Lib.hid hc
  have HV := Lib.hid hv
  have HI := Lib.hid hi
  have HGG := Lib.hid hG
  clear hG
  have c0 := hc.c0
  have hpn := hi.n
  rw [hpn] at c0
  obtain ⟨pp, lx, cap, rfl⟩ : ∃ pp lx cap, vx = .slice pp lx cap := by
    obtain ⟨pp, cap, e, _⟩ := hv
    exact ⟨pp, _, cap, e⟩
  by_cases hk : k < 1 ∨ (N : Int) < k
  · have HE := Lib.hid (show askErr N k xs = 2 by unfold askErr; rw [if_pos hk])
    have HST := Lib.hid (show p.step k xs = p by unfold PS.step; rw [hpn, HE.out, if_neg (by decide)])
    have HNB := Lib.hid (rnew_bad w (N : Int) k (by omega))
    clear hc hv hi hpn hk
    go_enter Tryz.func12, Tryz.ntmps12
    go_wp2_with fail
    refine HNB.out.mono ?_
    rintro e w' ⟨rfl, rfl⟩
    go_wp2
    go_ret2
    rw [HE.out]
    exact ⟨.slice none 0 0, v, rfl, fun h => (by cases h), fun _ => rfl, by rw [HST.out]; exact HC.out, Kept.refl _ _, fun b h => .inl h⟩
  · obtain ⟨K, rfl⟩ : ∃ K : Nat, k = K := ⟨k.toNat, by omega⟩
    have hk1 : 1 ≤ K := by omega
    have hk2 : K ≤ N := by omega
    have hee : askErr N (K : Int) xs = askE N K xs := by unfold askErr; rw [if_neg hk, Int.toNat_natCast]
    have HST := Lib.hid (show p.step (K : Int) xs = if askE N K xs = 0 then p.ask (K, xs.take K) else p by unfold PS.step; rw [hpn, hee, Int.toNat_natCast])
    rw [hee, Int.toNat_natCast]
    have HNA := Lib.hid (rnew_any w N K hk1 hk2 hN)
    obtain ⟨er, her⟩ : ∃ er, askE N K xs = er := ⟨_, rfl⟩
    rw [her] at HST ⊢
    have HER := Lib.hid her
    have HSZ := Lib.hid hb
    clear hc hv hi hpn hk hee her hb
    go_enter Tryz.func12, Tryz.ntmps12
    go_wp2_with fail
    refine HNA.out.mono ?_
    rintro e w1 ⟨cb, rfl, hcb, hB1⟩
    have HCB := Lib.hid hcb
    have HB1 := Lib.hid hB1
    have HTU := Lib.hid (rturn_any w1 hcb hk1 hk2 hN _ xs (HV.out.below hB1) (by omega))
    rw [HER.out] at HTU
    clear hcb hB1
    go_wp2_with fail
    refine HTU.out.mono ?_
    rintro e w2 ⟨vr, rfl, hr0, hr1, hB2⟩
    have HB2 := Lib.hid (below_more HB1.out hB2 HB1.out.size)
    have HC2 := Lib.hid (HC.out.below HB2.out)
    have HV2 := Lib.hid (HV.out.below HB2.out)
    by_cases h0 : er = 0
    · subst h0
      have HRN := Lib.hid ((hr0 rfl).weaken HB1.out.size)
      have HAZ := Lib.hid (askE_zero HER.out)
      have HLX := Lib.hid (show K ≤ xs.length from HAZ.out.len)
      have HKK := Lib.hid (rkey_any w2 K _ xs HV2.out (by omega) HLX.out)
      obtain ⟨us, hus, _⟩ := hr0 rfl
      obtain ⟨pr, lr, cr, rfl⟩ : ∃ pr lr cr, vr = .slice pr lr cr := by
        rcases hus.2 with ⟨rfl, _⟩ | ⟨g, c, cur, rfl, _⟩
        · exact ⟨_, _, _, rfl⟩
        · exact ⟨_, _, _, rfl⟩
      have HSTP := Lib.hid (show p.step (K : Int) xs = p.ask (K, xs.take K) by rw [HST.out, if_pos rfl])
      clear hr0 hr1 hB2 hus
      go_wp2_with fail
      refine HKK.out.mono ?_
      rintro e w3 ⟨u, rfl, hu, hub, hB3⟩
      have HB3 := Lib.hid (below_more HB2.out hB3 HB2.out.size)
      have hlr := HC2.out.lt
      have hlv := HC2.out.keys.lt
      have HAS := Lib.hid (rask_any w3 (HC2.out.below hB3) (Nat.le_trans HSZ.out HB3.out.size) HI.out hR hR2 hM (K, xs.take K) u hu (fun b e => ⟨HGG.out b (by have := (hub b e).1; have := HB2.out.size; omega), fun h => by have := (hub b e).1; have := (hlv b h).2; omega⟩) (by rw [List.length_take]; omega))
      have HRN3 := Lib.hid (HRN.out.below hB3)
      clear hu hub hB3 hlr hlv
      go_wp2_with fail
      refine HAS.out.mono ?_
      rintro e w4 ⟨rfl, v', hc4, hk4, hn4⟩
      have HC4 := Lib.hid hc4
      have HK4 := Lib.hid hk4
      have HN4 := Lib.hid hn4
      clear hc4 hk4 hn4
      go_wp2
      go_ret2
      refine ⟨_, v', rfl, fun _ => HRN3.out.kept HK4.out (fun i hi => ?_), fun h => absurd rfl h, by rw [HSTP.out]; exact HC4.out, ?_, fun b e => ?_⟩
      · rcases hi with rfl | hi
        · exact HC.out.lt
        · exact (HC.out.keys.lt i hi).2
      · exact ((Kept.below HB3.out).mono (fun _ _ h => h.elim)).trans HK4.out (fun _ _ h => h)
      · rcases HN4.out b e with h | h
        · exact .inl h
        · exact .inr (Nat.le_trans HB3.out.size h)
    · have he : (er == 0) = false := by simpa using h0
      have HSTP := Lib.hid (show p.step (K : Int) xs = p by rw [HST.out, if_neg h0])
      have HE0 := Lib.hid h0
      obtain rfl := hr1 h0
      clear hr0 hr1 hB2 h0
      go_wp2
      go_ret2
      exact ⟨_, v, rfl, fun h => absurd h HE0.out, fun _ => rfl, by rw [HSTP.out]; exact HC2.out, (Kept.below HB2.out).mono (fun _ _ h => h.elim), fun b e => .inl e⟩
end Go.Proofs.YtlmpagicjgldkaaGreat
