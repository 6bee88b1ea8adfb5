/-
  KitC: Walks of the kit: KeptBytes.
  KitD: Rows that are lent: LentRows.
-/
import Derived.Test.YtanjchpkekehgaaGreatMxaw
namespace Go.Proofs.YtanjchpkekehgaaGreat

section -- KitC
open Go.RowKit Go.Maps
set_option linter.unusedVariables false
set_option maxRecDepth 100000
set_option maxHeartbeats 2000000

theorem keptB_any (w : World) (va vb : Value) (l : List B) (base : Nat) (ha : LentAt w base va l) (hb : BytesAt w vb l) (hl : l.length ≤ 1000000) :
    Calls Tryz.prog 34 #[va, vb] w fun e w' => e = .returned (.bool true) ∧ ∃ q, w' = w.drewN q := by
  obtain ⟨ga, ca, rfl, hga, hrow⟩ := ha
  obtain ⟨pb, cb, rfl, hhb⟩ := hb
  have HHB := Lib.hid hhb
  have hlen : (l ++ behindL 12).length = l.length + 12 := by rw [List.length_append, behindL_len]
  have hcap : l.length + 12 ≤ ca := by
    obtain ⟨C, h1, h2, h3, _⟩ := hrow
    omega
  have HLEN := Lib.hid hlen
  have HRW := Lib.hid hrow
  have HLo := Lib.hid (show ∀ i, i < l.length → (l ++ behindL 12).getD i 0 = l.getD i 0 from fun i hi => by
    rw [List.getD_eq_getElem?_getD, List.getD_eq_getElem?_getD, List.getElem?_append_left hi])
  have HHi := Lib.hid (show ∀ j, j < 12 → (l ++ behindL 12).getD (l.length + j) 0 = mkB 1 j from fun j hj => by
    rw [List.getD_eq_getElem?_getD, List.getElem?_append_right (by omega), show l.length + j - l.length = j by omega, ← List.getD_eq_getElem?_getD]
    exact getD_range _ _ hj)
  obtain ⟨n, hn⟩ : ∃ n, l.length = n := ⟨_, rfl⟩
  rw [hn] at HHB hcap HLo HHi hl HLEN ⊢
  clear hhb hrow hlen hn
  go_enter Tryz.func34, Tryz.ntmps34
  go_wp2
  go_loopw [6] (fun i wr => ∃ (k q : Nat), k ≤ n + 12 ∧ i = .int .i64 (k : Int) ∧ wr = w.drewN q) (fun i _ => n + 12 - (intOf i).toNat)
  case atStart => exact ⟨0, 0, by omega, rfl, rfl⟩
  case round =>
    obtain ⟨k, q, hk, rfl, rfl⟩ := hrel
    by_cases hlt : k < n + 12
    · have d1 := HRW.out.cell (i := k) (by rw [HLEN.out]; exact hlt)
      by_cases h1 : k < n
      · obtain ⟨gb, ob, rfl, hcb⟩ := HHB.out (by omega)
        have d2 := hcb k h1
        rw [HLo.out k h1] at d1
        obtain ⟨x, hx⟩ : ∃ x, l.getD k 0 = x := ⟨_, rfl⟩
        rw [hx] at d1 d2
        have hk2 : ¬ n ≤ k := by omega
        have hk3 : ¬ (n : Int) ≤ (k : Int) := by omega
        clear hcb hx
        go_wp2_with fail
        go_quiet (fail)
        go_wp2
        go_roundw
        case rel => exact ⟨k + 1, _, by omega, by go_num, by first | rfl | rw [World.drewN_drewN]⟩
        case measure => simp [intOf]; omega
      · obtain ⟨j, hj⟩ : ∃ j, k = n + j := ⟨k - n, by omega⟩
        have e := HHi.out j (by omega)
        rw [← hj] at e
        rw [e] at d1
        have hk2 : n ≤ k := by omega
        have hk3 : (n : Int) ≤ (k : Int) := by omega
        have hk4 : IntKind.i64.wrap ((k : Int) - (n : Int)) = (j : Int) := by rw [show (k : Int) - (n : Int) = (j : Int) by omega]; exact IntWalk.i64_in _ (by omega)
        have hj2 : j ≤ 1000000 := by omega
        have HM := Lib.hid (fun W => markByte_any W 1 j (by omega) hj2)
        obtain ⟨b, hb⟩ : ∃ b, mkB 1 j = b := ⟨_, rfl⟩
        rw [hb] at HM d1
        clear hj e hb
        go_wp2_with fail
        refine wp_region_quiet_lit (by kernel_rfl) (by kernel_rfl) ?_
        iterate 5 (quiet_step (fail))
        iterate 10 (with_reducible refine wpQuiet_step (fun K hK => ?_); go_simp; with_reducible refine hK _ ?_; clear hK K)
        repeat (quiet_step ((go_at_call 46; exact q_add_same (HM.out _))))
        refine wpQuiet_nil ?_
        rintro w5 ⟨nq, rfl⟩
        go_wp2
        go_roundw
        case rel => exact ⟨k + 1, _, by omega, by go_num, by first | rfl | rw [World.drewN_drewN]⟩
        case measure => simp [intOf]; omega
    · obtain rfl : k = n + 12 := by omega
      go_wp2
      go_ret
      exact ⟨rfl, q, rfl⟩
end -- KitC

section -- KitD
open Go.RowKit Go.Maps
set_option linter.unusedVariables false
set_option maxRecDepth 100000
set_option maxHeartbeats 2000000

/-- Rows that are lent, each one in a block that is no other's. -/
def RowsLent (w : World) (base : Nat) (v : Value) (ls : List (List B)) : Prop := ∃ us, w.ownsRow base 50 1 v ls.length us ∧
  (∀ i u, us[i]? = some u → LentAt w base u (ls.getD i []) ∧ ∀ b, u.ownBlock = some b → v.ownBlock ≠ some b) ∧
  ∀ (i j : Nat) (u z : Value) (b : Nat), us[i]? = some u → us[j]? = some z → u.ownBlock = some b → z.ownBlock = some b → i = j

section
variable {w w' : World} {base : Nat} {v : Value} {ls : List (List B)}
theorem RowsLent.nil (w : World) (base : Nat) : RowsLent w base (.slice none 0 0) [] := ⟨[], World.ownsRow_nil _ _ _ _, fun i u h => by simp at h, fun i j u z b h => by simp at h⟩
theorem RowsLent.own (h : RowsLent w base v ls) : RowsOwn w base v ls := by
  obtain ⟨us, h1, h2, h3⟩ := h
  exact ⟨us, h1, fun i u hi => ⟨(h2 i u hi).1.own.bytes, fun b hb => ⟨((h2 i u hi).1.blk b hb).2, (h2 i u hi).2 b hb⟩⟩⟩
theorem RowsLent.rows (h : RowsLent w base v ls) : RowsAt w v ls := h.own.rows
theorem RowsLent.lt (h : RowsLent w base v ls) : ∀ k, v.ownBlock = some k → base ≤ k ∧ k < w.heap.size := h.own.lt
theorem RowsLent.kept {S : Nat → Prop} (h : RowsLent w base v ls) (hk : Kept S w w') (hS : ∀ k, k < w.heap.size → base ≤ k → ¬ S k) : RowsLent w' base v ls := by
  obtain ⟨us, h1, h2, h3⟩ := h
  exact ⟨us, ownsRow_keptS h1 hk (fun g hg => hS g (h1.lt g hg).2 (h1.lt g hg).1), fun i u hi => ⟨(h2 i u hi).1.kept hk (fun b hb => hS b ((h2 i u hi).1.blk b hb).2 ((h2 i u hi).1.blk b hb).1), (h2 i u hi).2⟩, h3⟩
theorem RowsLent.below (h : RowsLent w base v ls) (hb : Below w.heap.size w w') : RowsLent w' base v ls := h.kept (Kept.below hb) (fun _ _ _ h => h)
theorem RowsLent.weaken {base' : Nat} (h : RowsLent w base v ls) (hb : base' ≤ base) : RowsLent w base' v ls := by
  obtain ⟨us, h1, h2, h3⟩ := h
  exact ⟨us, ownsRow_weaken h1 hb, fun i u hi => ⟨(h2 i u hi).1.weaken hb, (h2 i u hi).2⟩, h3⟩
end

/-- Append of a row that is new. -/
theorem app_lent {ops : Array Oper} {rest : List Oper} {o : Oper} {a : Act} {Q : Exit → Act → World → Prop} {W : World}
    (hgd : o.guard = none) (s x : Operand) (ho : o.op = .call { callee := .builtin .append, args := #[s, x], argTypes := #[22, 22] })
    (base n : Nat) (v : Value) (ls : List (List B)) (hln : ls.length = n) (W0 : World) (hB : Below W0.heap.size W0 W) (hown : RowsLent W0 base v ls) (u : Value) (l : List B) (hu : LentAt W W0.heap.size u l) (hone : u.oneCell' = true)
    (hs : a.eval s = v) (hx : a.eval x = .slice (some ⟨W.heap.size, 0, none⟩) 1 1) (hn : n < 1000000000000) (hbase : base ≤ W0.heap.size)
    (h : ∀ g' c' w', RowsLent w' base (.slice (some ⟨g', 0, none⟩) (n + 1) c') (ls ++ [l]) → Kept (fun k => v.ownBlock = some k) W w' → W.heap.size < w'.heap.size → (v.ownBlock = some g' ∨ W.heap.size < g') →
      wpList Tryz.prog ops Q rest (a.put o.dst (.slice (some ⟨g', 0, none⟩) (n + 1) c')) w') : wpList Tryz.prog ops Q (o :: rest) a (W.alloc (.cells #[u] 50)) := by
  subst hln
  have hv0 : ∀ k, v.ownBlock = some k → k < W0.heap.size := fun k hk => (hown.lt k hk).2
  have hsz := hB.size
  have hown' := hown.below hB
  obtain ⟨us, q1, q2, q3⟩ := hown
  have hr0 : ∀ (i : Nat) (z : Value), us[i]? = some z → ∀ b, z.ownBlock = some b → b < W0.heap.size := fun i z hi b hb => ((q2 i z hi).1.blk b hb).2
  have h1 := ownsRow_keptS q1 (Kept.below hB) (fun _ _ h => h)
  have h2 : ∀ i u, us[i]? = some u → LentAt W base u (ls.getD i []) ∧ ∀ b, u.ownBlock = some b → v.ownBlock ≠ some b := fun i z hi => ⟨(q2 i z hi).1.below hB, (q2 i z hi).2⟩
  have h3 := q3
  clear q1 q2 q3 hown'
  refine app_el 22 50 1 24 (.slice none 0 0) Tryz.underlying22 infoR rfl (by decide) hgd s x ho base ls.length v us hs h1 [u] rfl (by simpa using hone) hx hn (by omega) ?_
  intro g' c' w' ho' hk hs' hg'
  have hul : us.length = ls.length := by have := h1.1; omega
  have get : ∀ i z, (us ++ [u])[i]? = some z → (i < us.length ∧ us[i]? = some z) ∨ (i = us.length ∧ z = u) := by
    intro i z hi
    by_cases e : i < us.length
    · rw [List.getElem?_append_left e] at hi; exact .inl ⟨e, hi⟩
    · have hi' : i = us.length := by
        have := (List.getElem?_eq_some_iff.1 hi).1
        simp at this; omega
      subst hi'
      exact .inr ⟨rfl, by simpa using hi.symm⟩
  have old : ∀ b, v.ownBlock = some b ∨ W.heap.size < b → ∀ c, c < W.heap.size → v.ownBlock ≠ some c → b ≠ c := by
    intro b hb c hc hne e
    subst e
    rcases hb with q | q
    · exact hne q
    · omega
  refine h g' c' w' ⟨us ++ [u], by simpa using ho', fun i z hi => ?_, fun i j y z b hi hj hy hz => ?_⟩ hk hs' hg'
  · rcases get i z hi with ⟨e, hi⟩ | ⟨rfl, rfl⟩
    · obtain ⟨q1, q2⟩ := h2 i z hi
      rw [getD_snoc_lt (by omega)]
      refine ⟨q1.kept hk (fun b hb e => q2 b hb e), fun b hb e => ?_⟩
      exact old g' hg' b (q1.blk b hb).2 (q2 b hb) (by simpa [Value.ownBlock] using e)
    · rw [hul, getD_snoc_last]
      have q2 : ∀ b, z.ownBlock = some b → v.ownBlock ≠ some b := fun b hb e => by have := (hu.blk b hb).1; have := hv0 b e; omega
      refine ⟨(hu.kept hk (fun b hb e => q2 b hb e)).weaken hbase, fun b hb e => ?_⟩
      exact old g' hg' b (hu.blk b hb).2 (q2 b hb) (by simpa [Value.ownBlock] using e)
  · rcases get i y hi with ⟨e1, hi'⟩ | ⟨ei, ey⟩ <;> rcases get j z hj with ⟨e2, hj'⟩ | ⟨ej, ez⟩
    · exact h3 i j y z b hi' hj' hy hz
    · have := hr0 i y hi' b hy
      subst ez
      have := (hu.blk b hz).1
      omega
    · have := hr0 j z hj' b hz
      subst ey
      have := (hu.blk b hy).1
      omega
    · rw [ei, ej]

theorem RowsLent.lone {w : World} {base : Nat} {v : Value} {ls : List (List B)} (h : RowsLent w base v ls) : RowsLone w base v ls := by
  obtain ⟨us, h1, h2, h3⟩ := h
  exact ⟨us, h1, fun i u hi => ⟨(h2 i u hi).1.own, (h2 i u hi).2⟩, h3⟩

theorem lentR_any (w : World) (v : Value) (ls : List (List B)) (hv : RowsAt w v ls) (hl : ls.length ≤ 1000000) (hw : ∀ i, i < ls.length → (ls.getD i []).length ≤ 1000000) :
    Calls Tryz.prog 8 #[v] w fun e w' => ∃ v', e = .returned v' ∧ RowsLent w' w.heap.size v' ls ∧ Below w.heap.size w w' := by
  obtain ⟨p, c, rfl, hh⟩ := hv
  have HH := Lib.hid hh
  have HW := Lib.hid hw
  obtain ⟨n, hn⟩ : ∃ n, ls.length = n := ⟨_, rfl⟩
  rw [hn] at HH HW hl ⊢
  have HN := Lib.hid hn
  clear hh hn hw
  go_enter Tryz.func8, Tryz.ntmps8
  go_wp2
  go_loopw [3, 4] (fun v i wr => ∃ k : Nat, k ≤ n ∧ i = .int .i64 (k : Int) ∧ RowsLent wr w.heap.size v (ls.take k) ∧ Below w.heap.size w wr) (fun _ i _ => n - (intOf i).toNat)
  case atStart => exact ⟨0, Nat.zero_le _, rfl, RowsLent.nil _ _, Below.refl _ _⟩
  case round =>
    obtain ⟨w0, rfl⟩ : ∃ w0, w0 = wr := ⟨_, rfl⟩
    obtain ⟨k, hk, rfl, ho, hB⟩ := hrel
    have HO := Lib.hid ho
    have HBR := Lib.hid hB
    have hsr := hB.size
    have HTL := Lib.hid (show (ls.take k).length = k by rw [List.length_take, HN.out]; omega)
    clear ho
    by_cases hlt : k < n
    · obtain ⟨g, off, rfl, hc⟩ := HH.out (by omega)
      obtain ⟨u, x, hu⟩ := hc k hlt
      have d1 := (hB.cell (p := ⟨g, off + k, none⟩) (blt x)).trans x
      have HU := Lib.hid (hu.below hB)
      have HS := Lib.hid (show ls.take k ++ [ls.getD k []] = ls.take (k + 1) by
        have h : k < ls.length := by rw [HN.out]; exact hlt
        rw [List.take_succ_eq_append_getElem h, List.getD_eq_getElem?_getD, List.getElem?_eq_getElem h]; rfl)
      obtain ⟨l, hl'⟩ : ∃ l, ls.getD k [] = l := ⟨_, rfl⟩
      have hll := HW.out k hlt
      rw [hl'] at HU HS hll
      clear hc x hu hB hl'
      go_wp2_with fail
      refine (lentB_any w0 u l HU.out hll).mono ?_
      rintro e w5 ⟨v5, rfl, hv5, hB5⟩
      have hv5' := hv5
      obtain ⟨g5, c5, e5, _⟩ := hv5'
      subst e5
      have HV5 := Lib.hid hv5
      have HB5 := Lib.hid hB5
      clear hv5 hB5
      go_wp2_with (at_builtin; refine app_lent rfl _ _ rfl w.heap.size k _ _ HTL.out w0 HB5.out HO.out (.slice (some ⟨g5, 0, none⟩) l.length c5) l HV5.out rfl rfl rfl (by omega) hsr ?_; intro g' c' w6 hR6 hk6 hs6 hg6)
      go_roundw
      case rel =>
        refine ⟨k + 1, by omega, by go_num, by rw [← HS.out]; exact hR6, (below_more HBR.out HB5.out hsr).trans (hk6.toBelow (by have := HB5.out.size; omega) (fun i hi => (HO.out.lt i hi).1))⟩
      case measure => simp [intOf]; omega
    · obtain rfl : k = n := by omega
      have HTK := Lib.hid (show ls.take k = ls by rw [← HN.out, List.take_length])
      go_wp2
      go_ret
      exact ⟨_, rfl, by rw [← HTK.out]; exact HO.out, HBR.out⟩
end -- KitD

end Go.Proofs.YtanjchpkekehgaaGreat
