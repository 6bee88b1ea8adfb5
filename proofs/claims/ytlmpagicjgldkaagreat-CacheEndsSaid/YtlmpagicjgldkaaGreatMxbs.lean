/-
  RcB: The reference's cache (layer 6): at, Has.
  StepZ: A region that draws its order, step by step, where something (S) holds of each world ahead of its last operation, which alone may break it.
-/
import Derived.Test.YtlmpagicjgldkaaGreatMxbr
import Derived.Test.YtlmpagicjgldkaaGreatMxbe
import Derived.StillTail
namespace Go.Proofs.YtlmpagicjgldkaaGreat

section -- RcB
open Go.RowKit Go.Maps
set_option linter.unusedVariables false
set_option linter.unusedSimpArgs false
set_option maxRecDepth 100000
set_option maxHeartbeats 4000000

/-- Where a key is kept. -/
def atK (ks : List (Nat × List Int)) (xs : List Int) : Int := match ks.findIdx? (fun q => decide (keyI q = xs)) with
  | some i => (i : Int)
  | none => -1
theorem atK_yes {ks : List (Nat × List Int)} {xs : List Int} {i : Nat} (hi : i < ks.length) (h : keyI (ks.getD i (0, [])) = xs) (hn : ∀ j, j < i → keyI (ks.getD j (0, [])) ≠ xs) : atK ks xs = (i : Int) := by
  have e : ks.findIdx? (fun q => decide (keyI q = xs)) = some i := by
    rw [List.findIdx?_eq_some_iff_getElem]
    refine ⟨hi, ?_, fun j hj => ?_⟩
    · have : ks.getD i (0, []) = ks[i] := by simp [List.getD_eq_getElem?_getD, hi]
      rw [← this, h]
      simp
    · have hj' : j < ks.length := by omega
      have : ks.getD j (0, []) = ks[j] := by simp [List.getD_eq_getElem?_getD, hj']
      rw [← this]
      simpa using hn j hj
  unfold atK
  rw [e]
theorem atK_no {ks : List (Nat × List Int)} {xs : List Int} (hn : ∀ j, j < ks.length → keyI (ks.getD j (0, [])) ≠ xs) : atK ks xs = -1 := by
  have e : ks.findIdx? (fun q => decide (keyI q = xs)) = none := by
    rw [List.findIdx?_eq_none_iff]
    intro q hq
    obtain ⟨j, hj, rfl⟩ := List.mem_iff_getElem.1 hq
    have : ks.getD j (0, []) = ks[j] := by simp [List.getD_eq_getElem?_getD, hj]
    rw [← this]
    simpa using hn j hj
  unfold atK
  rw [e]
/-- Are two lists alike, as far as one has come? -/
def likeB (a b : List Int) (n : Nat) : Bool := decide (a.length = b.length) && decide (a.take n = b.take n)
theorem likeB_zero (a b : List Int) : likeB a b 0 = decide (a.length = b.length) := by simp [likeB]
theorem likeB_len {a b : List Int} {n : Nat} (h : likeB a b n = true) : a.length = b.length := by
  unfold likeB at h
  simp at h
  exact h.1
theorem likeB_succ {a b : List Int} {n : Nat} (h : likeB a b n = true) (hn : n < b.length) : likeB a b (n + 1) = decide (a.getD n 0 = b.getD n 0) := by
  have hl := likeB_len h
  unfold likeB at h ⊢
  simp at h
  rw [take_snocI (by omega), take_snocI hn, h.2]
  simp [hl]
theorem likeB_full (a b : List Int) : likeB a b b.length = decide (a = b) := by
  unfold likeB
  by_cases h : a.length = b.length
  · rw [List.take_length, ← h, List.take_length]
    simp
  · have : a ≠ b := fun e => h (by rw [e])
    simp [h, this]
theorem likeB_false {a b : List Int} {n : Nat} (h : likeB a b n = false) : a ≠ b := by
  rintro rfl
  simp [likeB] at h

theorem KeysAt.cells {w : World} {base : Nat} {G : Nat → Prop} {v : Value} {ks : List (Nat × List Int)} (h : KeysAt w base G v ks) : ∃ p cap, v = .slice p ks.length cap ∧ ks.length ≤ cap ∧ cap ≤ maxLen ∧ (0 < ks.length → ∃ g, p = some ⟨g, 0, none⟩ ∧ g < w.heap.size ∧
    ∀ i, i < ks.length → ∃ u, w.cell? ⟨g, i, none⟩ = some u ∧ IntsAt w u (keyI (ks.getD i (0, [])))) := by
  obtain ⟨us, ⟨h0, h1⟩, hu⟩ := h
  rcases h1 with ⟨rfl, hz⟩ | ⟨g, cap, cur, rfl, h2, h3, h4, h5, h6, h7⟩
  · exact ⟨none, 0, by rw [hz], by omega, by unfold maxLen; omega, fun h => by omega⟩
  · refine ⟨_, cap, rfl, h4, h5, fun hl => ⟨g, rfl, (Array.getElem?_eq_some_iff.1 h3).1, fun i hi => ?_⟩⟩
    have hlu : i < us.length := by omega
    obtain ⟨x, hui⟩ : ∃ x, us[i]? = some x := ⟨_, List.getElem?_eq_getElem hlu⟩
    refine ⟨x, ?_, (hu i _ hui).1⟩
    rw [← h7, List.getElem?_take, if_pos (by omega), Array.getElem?_toList] at hui
    rw [cell_of h3, hui]

theorem rat_any (w : World) {base rb : Nat} {G : Nat → Prop} {v : Value} {p : PS} (hc : RCAt w base G rb v p) (hn : p.keys.length ≤ 1000000) (u : Value) (xs : List Int) (hv : IntsAt w u xs) (hl : xs.length ≤ 1000000) :
    Calls Tryz.prog 39 #[.pointer (some ⟨rb, 0, none⟩), u] w fun e w' => e = .returned (.int .i64 (atK p.keys xs)) ∧ ∃ q, w' = w.drewN q := by
  have c2 := hc.c2
  obtain ⟨pv, cv, rfl, hcv, _, hcells⟩ := hc.keys.cells
  have HK := Lib.hid hcells
  obtain ⟨n, hne⟩ : ∃ n, p.keys.length = n := ⟨_, rfl⟩
  rw [hne] at HK c2 hcv hn
  have HN := Lib.hid hne
  obtain ⟨pu, cu, rfl, hcu, hh⟩ := hv
  have HH := Lib.hid hh
  obtain ⟨L, hL⟩ : ∃ L, xs.length = L := ⟨_, rfl⟩
  rw [hL] at HH hcu hl ⊢
  have HL := Lib.hid hL
  obtain ⟨r, hr⟩ : ∃ r, atK p.keys xs = r := ⟨_, rfl⟩
  rw [hr]
  have HR := Lib.hid hr
  clear hh hc hL hr hcells hne
  go_enter Tryz.func39, Tryz.ntmps39
  go_wp2
  go_loopw [5, 6, 7] (fun i _ _ wr => ∃ (m q : Nat), m ≤ n ∧ i = .int .i64 (m : Int) ∧ (∀ j, j < m → keyI (p.keys.getD j (0, [])) ≠ xs) ∧ wr = w.drewN q) (fun i _ _ _ => n - (intOf i).toNat)
  case atStart => exact ⟨0, 0, Nat.zero_le _, rfl, fun j h => absurd h (by omega), rfl⟩
  case round =>
    obtain ⟨m, q, hm, rfl, hno, rfl⟩ := hrel
    have HNO := Lib.hid hno
    clear hno
    by_cases hlt : m < n
    · obtain ⟨g, rfl, hg, hcc⟩ := HK.out (by omega)
      obtain ⟨ku, y0, hku⟩ := hcc m hlt
      obtain ⟨X, hX⟩ : ∃ X, keyI (p.keys.getD m (0, [])) = X := ⟨_, rfl⟩
      rw [hX] at hku
      have HX := Lib.hid hX
      obtain ⟨px, cx, rfl, hcx, hxx⟩ := hku
      have HXX := Lib.hid hxx
      obtain ⟨lx, hlx⟩ : ∃ lx, X.length = lx := ⟨_, rfl⟩
      rw [hlx] at HXX y0 hcx
      have HLX := Lib.hid hlx
      obtain ⟨sb, hsb⟩ : ∃ sb, ((lx : Int) == (L : Int)) = sb := ⟨_, rfl⟩
      have hsb' : (lx == L) = sb := by rw [← hsb]; rw [Bool.eq_iff_iff, beq_iff_eq, beq_iff_eq]; omega
      have HSB := Lib.hid (show sb = likeB X xs 0 by rw [← hsb', likeB_zero, HLX.out, HL.out]; rw [Bool.eq_iff_iff]; simp)
      clear hcc hX hxx hlx
      go_wp2
      go_loopw [6, 7] (fun s n' wr => ∃ (j q : Nat) (sb : Bool), j ≤ L ∧ n' = .int .i64 (j : Int) ∧ s = .bool sb ∧ sb = likeB X xs j ∧ wr = w.drewN q) (fun _ n' _ => L - (intOf n').toNat)
      case atStart => exact ⟨0, _, sb, Nat.zero_le _, rfl, rfl, HSB.out, rfl⟩
      case round =>
        clear hsb hsb'
        obtain ⟨j, q2, s2, hj, rfl, rfl, hs2, rfl⟩ := hrel
        have HS2 := Lib.hid hs2
        clear hs2
        cases s2 with
        | false =>
          have HNE := Lib.hid (show X ≠ xs from likeB_false HS2.out.symm)
          by_cases hlt2 : j < L
          all_goals
            go_wp2
            go_roundw
            case rel => exact ⟨m + 1, _, by omega, by go_num, fun i hi => by
              by_cases e : i = m
              · subst e; rw [HX.out]; exact HNE.out
              · exact HNO.out i (by omega), rfl⟩
            case measure => simp [intOf]; omega
        | true =>
          by_cases hlt2 : j < L
          · have hlx2 : lx = L := by have := likeB_len HS2.out.symm; rw [HLX.out, HL.out] at this; exact this
            subst hlx2
            obtain ⟨gx, ox, rfl, hxc⟩ := HXX.out (by omega)
            obtain ⟨gk, ok, rfl, hkc⟩ := HH.out (by omega)
            have z1 := hxc j hlt2
            have z2 := hkc j hlt2
            have HSS := Lib.hid (likeB_succ HS2.out.symm (by rw [HL.out]; exact hlt2))
            obtain ⟨x1, h1⟩ : ∃ x, X.getD j 0 = x := ⟨_, rfl⟩
            obtain ⟨x2, h2⟩ : ∃ x, xs.getD j 0 = x := ⟨_, rfl⟩
            rw [h1] at z1 HSS
            rw [h2] at z2 HSS
            clear hxc hkc h1 h2
            obtain ⟨s3, hs3⟩ : ∃ s, (x1 == x2) = s := ⟨_, rfl⟩
            have HS3 := Lib.hid (show s3 = likeB X xs (j + 1) by rw [HSS.out, ← hs3]; rw [Bool.eq_iff_iff]; simp)
            go_wp2_with fail
            go_quiet (fail)
            go_wp2
            go_roundw
            case rel => exact ⟨j + 1, _, s3, by omega, by go_num, rfl, HS3.out, by first | rfl | rw [World.drewN_drewN]⟩
            case measure => simp [intOf]; omega
          · obtain rfl : j = L := by omega
            have HE := Lib.hid (show r = (m : Int) by
              rw [← HR.out]
              refine atK_yes (by rw [HN.out]; exact hlt) ?_ HNO.out
              rw [HX.out]
              have := HS2.out
              rw [← HL.out, likeB_full] at this
              simpa using this.symm)
            go_wp2
            go_ret
            exact ⟨by rw [HE.out]; rfl, _, rfl⟩
    · obtain rfl : m = n := by omega
      have HE := Lib.hid (show r = -1 by rw [← HR.out]; exact atK_no (by rw [HN.out]; exact HNO.out))
      go_wp2
      go_ret
      exact ⟨by rw [HE.out]; rfl, _, rfl⟩
end -- RcB

section -- StepZ
open Go.RowKit Go.Maps
set_option linter.unusedVariables false

section
variable {P : Program} {ops : Array Oper} {Q : Exit → Act → World → Prop} {md : Region.Mode} {S : World → Prop} {z : Nat}

/-- Whatever order is picked from here on: S holds behind each operation, number z alone being free. -/
def wpAnyE (P : Program) (md : Region.Mode) (ops : Array Oper) (Q : Exit → Act → World → Prop) (S : World → Prop) (z : Nat) : Nat → Array Bool → Act → World → Prop
  | 0, listed, a, w => Region.ready md ops listed = [] ∧ Q .normal a w
  | f + 1, listed, a, w => (Region.ready md ops listed = [] → Q .normal a w) ∧
    ∀ i ∈ Region.ready md ops listed, wpOp P ops Q i (fun a' w' => (i ≠ z → S w') ∧ wpAnyE P md ops Q S z f (listed.setIfInBounds i true) a' w') a w

theorem wpAny_of_E : ∀ (f : Nat) (listed : Array Bool) (a : Act) (w : World), wpAnyE P md ops Q S z f listed a w → wpAny P md ops Q f listed a w
  | 0, _, _, _, h => h
  | f + 1, _, _, _, h => ⟨h.1, fun i hi => wpOp_mono (fun a' w' h' => wpAny_of_E f _ a' w' h'.2) (h.2 i hi)⟩

/-- Number z waits for number k. -/
def lastB (md : Region.Mode) (ops : Array Oper) (z k : Nat) : Bool := k == z || match ops[z]? with
  | some o => o.after.any fun e => Region.binds md e && e.on == k
  | none => false
theorem lastB_spec {i : Nat} (h : lastB md ops z i = true) {listed : Array Bool} (hz : z ∈ Region.ready md ops listed) (hi : i ∈ Region.ready md ops listed) : i = z := by
  obtain ⟨hiun, oi, hoi, _⟩ := mem_ready.1 hi
  obtain ⟨_, oz, hoz, hall⟩ := mem_ready.1 hz
  have h1 := h
  unfold lastB at h1
  rw [hoz] at h1
  by_cases e : i = z
  · exact e
  · simp only [Bool.or_eq_true, beq_iff_eq, e, false_or] at h1
    obtain ⟨x, hx, hb⟩ := Array.any_eq_true'.1 h1
    simp only [Bool.and_eq_true, beq_iff_eq] at hb
    have h2 := hall x hx hb.1
    rw [hb.2, getD_both hiun] at h2
    cases h2

theorem wpAnyE_first {i : Nat} {oi : Oper} {v : Value} (hi : ops[i]? = some oi) (hsel : ∀ (j : Nat) (o : Oper) cs b, ops[j]? = some o → o.op ≠ .select cs b)
    (hQ : ∀ c a w, Q (.panic c) (a.put oi.dst v) w → Q (.panic c) a w) (hl : lastB md ops z i = true) :
    ∀ (f : Nat) (listed : Array Bool) (a : Act) (w : World),
      (∀ j oj, ops[j]? = some oj → j ≠ i → listed.getD j true = false → (∀ e ∈ oj.after, Region.binds md e = true → e.on ≠ i) → oi.apart ops oj = true) →
      i ∈ Region.ready md ops listed → YieldsIf P ops S oi v a → S w →
      wpAnyE P md ops Q S z f (listed.setIfInBounds i true) (a.put oi.dst v) w → wpAnyE P md ops Q S z (f + 1) listed a w := by
  intro f
  induction f with
  | zero =>
    intro listed a w _ hr hy hS H
    refine ⟨fun h => (by rw [h] at hr; cases hr), fun j hj => ?_⟩
    by_cases hji : j = i
    · subst hji; exact hy.wpOp hi hS ⟨fun _ => hS, H⟩
    · have := ready_mono hj hji
      rw [H.1] at this
      cases this
  | succ f ih =>
    intro listed a w hfree hr hy hS H
    refine ⟨fun h => (by rw [h] at hr; cases hr), fun j hj => ?_⟩
    by_cases hji : j = i
    · subst hji; exact hy.wpOp hi hS ⟨fun _ => hS, H⟩
    · have hjz : j ≠ z := fun e => hji (by subst e; exact (lastB_spec hl hj hr).symm)
      have h1 := H.2 j (ready_mono hj hji)
      obtain ⟨hjun, oj, hoj, hall⟩ := mem_ready.1 hj
      have hnot : ∀ e ∈ oj.after, Region.binds md e = true → e.on ≠ i := fun e he hb heq => by
        have h2 := hall e he hb
        rw [heq, getD_both (mem_ready.1 hr).1] at h2
        cases h2
      have h2 := wpOp_putIf hoj (hfree j oj hoj hji hjun hnot) (fun cs b => hsel i oi cs b hi) (fun cs b => hsel j oj cs b hoj) hQ hy h1
      have hfree' : ∀ k ok, ops[k]? = some ok → k ≠ i → (listed.setIfInBounds j true).getD k true = false →
          (∀ e ∈ ok.after, Region.binds md e = true → e.on ≠ i) → oi.apart ops ok = true := fun k ok hk hki hun hno => by
        refine hfree k ok hk hki ?_ hno
        by_cases hjk : j = k
        · subst hjk; exact hjun
        · rw [Go.getD_set_ne true hjk] at hun; exact hun
      refine wpOp_mono (fun a' w' h3 => ⟨h3.2.1, ih (listed.setIfInBounds j true) a' w' hfree' (ready_mono hr (Ne.symm hji)) h3.1 (h3.2.1 hjz) ?_⟩) h2
      rw [Array.setIfInBounds_comm _ _ hji]
      exact h3.2.2
end

section
variable {P : Program} {ops : Array Oper} {Q : Exit → Act → World → Prop} {fuel : Nat} {listed : Array Bool} {a : Act} {w : World} {S : World → Prop} {z : Nat}
/-- Those that may come up. -/
def AllReadyE (P : Program) (ops : Array Oper) (Q : Exit → Act → World → Prop) (S : World → Prop) (z : Nat) (fuel : Nat) (listed : Array Bool) (a : Act) (w : World) (rs : List Nat) : Prop :=
  ∀ i ∈ rs, wpOp P ops Q i (fun a' w' => (i ≠ z → S w') ∧ wpAnyE P .any ops Q S z fuel (listed.setIfInBounds i true) a' w') a w
theorem AllReadyE.nil : AllReadyE P ops Q S z fuel listed a w [] := fun _ h => by cases h
theorem z_start {id : Nat} (n : Nat) (S : World → Prop) (z : Nat) (hn : ops.size = n) (hm : P.follows .mixedOrders = true) (h : wpAnyE P .any ops (NoPanic Q) S z n (Array.replicate n false) a w.drew) : (Code.region id ops true).wp P Q a w :=
  wp_region_noPanic (wp_region_any hm (wpAny_of_E (S := S) (z := z) _ _ _ _ (by rw [hn]; exact h)))
theorem z_take (i : Nat) (hs : Region.noSelect ops = true) (hl : lastB .any ops z i = true) (hf : Region.free .any ops listed i = true) (hr : (Region.ready .any ops listed).contains i = true) (hi : (ops[i]?).isSome = true) (hS : S w)
    (H : ∀ oi, ops[i]? = some oi → ∃ v, YieldsIf P ops S oi v a ∧ wpAnyE P .any ops (NoPanic Q) S z fuel (listed.setIfInBounds i true) (a.put oi.dst v) w) : wpAnyE P .any ops (NoPanic Q) S z (fuel + 1) listed a w := by
  obtain ⟨oi, ho⟩ := Option.isSome_iff_exists.1 hi
  obtain ⟨v, hy, h⟩ := H oi ho
  exact wpAnyE_first ho (Region.noSelect_spec hs) (fun _ _ _ h => h) hl fuel listed a w (Region.free_spec ho hf) (by simpa using hr) hy hS h
theorem z_all {rs : List Nat} (hr : Region.ready .any ops listed = rs) (hne : rs ≠ []) (h : AllReadyE P ops (NoPanic Q) S z fuel listed a w rs) : wpAnyE P .any ops (NoPanic Q) S z (fuel + 1) listed a w :=
  ⟨fun h0 => absurd (hr ▸ h0) hne, hr ▸ h⟩
theorem z_step (i : Nat) {rs : List Nat} (hi : (ops[i]?).isSome = true)
    (H : ∀ o, ops[i]? = some o → ∀ K : Act → World → Prop, Shut (∀ a w, S w → wpAnyE P .any ops (NoPanic Q) S z fuel (listed.setIfInBounds i true) a w → K a w) → if Region.wanted o (yielded ops a.tmps) = true then Oper.wp P o a w K (NoPanic Q) else K (a.put o.dst undef) w)
    (hs : AllReadyE P ops (NoPanic Q) S z fuel listed a w rs) : AllReadyE P ops (NoPanic Q) S z fuel listed a w (i :: rs) := fun j hj => by
  rcases List.mem_cons.1 hj with rfl | hj
  · obtain ⟨o, ho⟩ := Option.isSome_iff_exists.1 hi
    exact wpOp_step ho (fun K' hK => H o ho K' (fun a w hS hW => hK a w ⟨fun _ => hS, hW⟩))
  · exact hs j hj
/-- The last one: S may break. -/
theorem z_last (hi : (ops[z]?).isSome = true)
    (H : ∀ o, ops[z]? = some o → ∀ K : Act → World → Prop, Shut (∀ a w, wpAnyE P .any ops (NoPanic Q) S z fuel (listed.setIfInBounds z true) a w → K a w) → if Region.wanted o (yielded ops a.tmps) = true then Oper.wp P o a w K (NoPanic Q) else K (a.put o.dst undef) w) :
    AllReadyE P ops (NoPanic Q) S z fuel listed a w [z] := fun j hj => by
  rw [List.mem_singleton] at hj
  subst hj
  obtain ⟨o, ho⟩ := Option.isSome_iff_exists.1 hi
  exact wpOp_step ho (fun K' hK => H o ho K' (fun a w hW => hK a w ⟨fun h => absurd rfl h, hW⟩))
theorem z_done (hr : Region.ready .any ops listed = []) (h : Q .normal a w) : wpAnyE P .any ops (NoPanic Q) S z fuel listed a w := by
  cases fuel with
  | zero => exact ⟨hr, NoPanic.normal h⟩
  | succ f => exact ⟨fun _ => NoPanic.normal h, by rw [hr]; simp⟩
end
end -- StepZ

end Go.Proofs.YtlmpagicjgldkaaGreat
