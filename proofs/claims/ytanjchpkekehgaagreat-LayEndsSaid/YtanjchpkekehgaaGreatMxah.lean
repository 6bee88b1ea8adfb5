/-
  CodeLb: Walks of layer 4 (lagr): weights.
  CodeO: Rows of bytes that a call owns, each in its place; they grow by append.
  CodeLc: Walks of layer 4 (lagr): Table; code.New.
-/
import Derived.Test.YtanjchpkekehgaaGreatMxad
import Derived.Test.YtanjchpkekehgaaGreatMxaf
import Derived.Test.YtanjchpkekehgaaGreatQuietTail
import Derived.Deep.RegionWith
import Derived.Test.YtanjchpkekehgaaGreatMxac
namespace Go.Proofs.YtanjchpkekehgaaGreat

section -- CodeLb
open Go.RowKit Go.Maps
set_option linter.unusedVariables false
set_option maxRecDepth 100000
set_option maxHeartbeats 2000000

theorem replicate_set_unit {n k : Nat} (h : k < n) : (List.replicate n (0 : B)).set k 1 = (List.replicate n 0).set k 1 := rfl

/-- The first k are worked out. -/
def partW (xs : List B) (x : B) (k : Nat) : List B := (wtsL xs x).take k ++ List.replicate (xs.length - k) 0
theorem partW_len (xs : List B) (x : B) {k : Nat} (h : k ≤ xs.length) : (partW xs x k).length = xs.length := by
  simp [partW, wtsL_len]; omega
theorem partW_set (xs : List B) (x : B) {k : Nat} (h : k < xs.length) : (partW xs x k).set k (lag xs k x) = partW xs x (k + 1) := by
  have hl : ((wtsL xs x).take k).length = k := by simp [wtsL_len]; omega
  unfold partW
  rw [List.set_append_right _ _ (by omega), hl, Nat.sub_self, show xs.length - k = (xs.length - (k + 1)) + 1 by omega, List.replicate_succ, List.set_cons_zero,
    List.take_succ_eq_append_getElem (by rw [wtsL_len]; exact h), List.append_assoc]
  congr 1
  simp [wtsL]
theorem partW_all (xs : List B) (x : B) : partW xs x xs.length = wtsL xs x := by
  unfold partW
  rw [List.take_of_length_le (by rw [wtsL_len]; exact Nat.le_refl _)]; simp

theorem weights_any (w : World) (bw bf : Nat) (vp va : Value) (xs : List B) (x : B) (h : OverAt w bw bf vp va xs (apartL xs)) (hn : xs.Nodup) (h0 : 0 < xs.length) (hl : xs.length ≤ 255) :
    Calls Tryz.prog 89 #[.pointer (some ⟨bw, 0, none⟩), bv x] w fun e w' => ∃ g, e = .returned (.slice (some ⟨g, 0, none⟩) xs.length xs.length) ∧ RowF w' g (wtsL xs x) ∧ w.heap.size ≤ g ∧ Below w.heap.size w w' := by
  have HO := Lib.hid h
  have HN := Lib.hid hn
  obtain ⟨c0, c1, c2, hf, hp, ha⟩ := h
  have HP := Lib.hid hp
  have HL := Lib.hid (apartL_len xs)
  have hlw := World.block_lt_of_cell? w _ c0
  obtain ⟨p, cap, rfl, hpc⟩ := hp
  obtain ⟨pa, capa, rfl, hac⟩ := ha
  rw [HL.out] at c2 hac
  obtain ⟨gp, op, rfl, hpd⟩ := hpc h0
  obtain ⟨ga, oa, rfl, had⟩ := hac h0
  have HF := Lib.hid hf
  have HPC := Lib.hid hpd
  have HAC := Lib.hid had
  have lp := World.block_lt_of_cell? w _ (hpd 0 h0)
  have la := World.block_lt_of_cell? w _ (had 0 h0)
  clear hn hf hpc hac hpd had
  go_enter Tryz.func89, Tryz.ntmps89
  have hmk := run_make_one (w := w) 50 5 (.int .u8 0) 1 Tryz.underlying50 infoB rfl (by omega) xs.length (by omega)
  go_wp2_with fail
  clear hmk
  have kA := Kept.alloc (fun _ => False) w (.cells (Array.replicate xs.length (.int .u8 0)) 5)
  have HR := Lib.hid (RowF.made w xs.length)
  have HP2 := Lib.hid (HP.out.kept kA (fun _ _ h => h))
  have d0 := (kA.cell (p := ⟨bw, 0, none⟩) hlw (fun h => h)).trans c0
  have d1 := (kA.cell (p := ⟨bw, 1, none⟩) hlw (fun h => h)).trans c1
  have d2 := (kA.cell (p := ⟨bw, 2, none⟩) hlw (fun h => h)).trans c2
  have HF2 := Lib.hid (HF.out.kept kA (fun h => h))
  have sA : w.heap.size < (w.alloc (.cells (Array.replicate xs.length (.int .u8 0)) 5)).heap.size := by simp
  generalize (w.alloc (.cells (Array.replicate xs.length (.int .u8 0)) 5)) = w1 at *
  refine (index_any w1 _ xs x HP2.out (by omega)).mono ?_
  rintro e w' ⟨rfl, ⟨k, hk, hx, rfl⟩ | ⟨hx, rfl⟩⟩
  · have HX := Lib.hid hx
    clear hx
    obtain ⟨v0, y0⟩ : ∃ v, w1.cell? ⟨w.heap.size, k, none⟩ = some v := ⟨_, HR.out.cell (by simpa using hk)⟩
    have yf := HR.out.fz k
    go_wp2
    go_ret
    refine ⟨w.heap.size, rfl, ?_, Nat.le_refl _, ?_⟩
    · have := HR.out.set (i := k) (by simpa using hk) 1
      rw [← HX.out, wtsL_unit HN.out hk]
      exact this
    · exact (kA.trans (Kept.set1 _ _ _ _) (S := fun _ => False) (fun i hi h => by omega)).toBelow (Nat.le_refl _) (fun _ h => h.elim)
  · have hp0 : pr (xs.take 0) x = 1 := rfl
    have HX := Lib.hid hx
    clear hx
    go_wp2
    go_loopw [7, 9, 35] (fun q _ i wi => ∃ (m n : Nat), m ≤ xs.length ∧ i = .int .i64 (m : Int) ∧ q = bv (pr (xs.take m) x) ∧ wi = w1.drewN n) (fun _ _ i _ => xs.length - (intOf i).toNat)
    case atStart => exact ⟨0, 0, Nat.zero_le _, rfl, rfl, rfl⟩
    case round =>
      obtain ⟨m, n, hm, rfl, rfl, rfl⟩ := hrel
      by_cases hmt : m < xs.length
      · have hcm := (kA.cell (p := ⟨gp, op + m, none⟩) lp (fun h => h)).trans (HPC.out m hmt)
        have HS := Lib.hid (pr_take hmt x)
        obtain ⟨y, hy⟩ : ∃ y, xs.getD m 0 = y := ⟨_, rfl⟩
        rw [hy] at hcm
        have HY := Lib.hid hy
        clear hy
        go_wp2_with fail
        go_quiet (first
          | (go_at_call 93; exact q_add_same (fadd_any _ x y))
          | (go_at_call 94; exact q_add (fmul_any _ bf (by exact HF2.out) (pr (xs.take m) x) (x + y))))
        go_wp2
        go_roundw
        case rel => exact ⟨m + 1, _, by omega, by go_num, by rw [HS.out, HY.out], rfl⟩
        case measure => simp [intOf]; omega
      · obtain rfl : m = xs.length := by omega
        have HA := Lib.hid (show pr (xs.take xs.length) x = pr xs x by rw [List.take_of_length_le (Nat.le_refl _)])
        rw [HA.out]
        clear HA
        have HR3 := Lib.hid (show RowF (w1.drewN n) w.heap.size (partW xs x 0) by have : RowF (w1.drewN n) w.heap.size (List.replicate xs.length 0) := HR.out; simpa [partW] using this)
        have kB : Kept (fun i => i = w.heap.size) w1 (w1.drewN n) := (Kept.refl _ w1).drewN n
        go_wp2
        go_loopw [10, 11, 54, 59, 84] (fun _ _ i _ _ wr => ∃ k : Nat, k ≤ xs.length ∧ i = .int .i64 (k : Int) ∧ RowF wr w.heap.size (partW xs x k) ∧ Kept (fun i => i = w.heap.size) w1 wr) (fun _ _ i _ _ _ => xs.length - (intOf i).toNat)
        case atStart => exact ⟨0, Nat.zero_le _, rfl, HR3.out, kB⟩
        case round =>
          obtain ⟨k, hk, rfl, hr, kk⟩ := hrel
          have HR4 := Lib.hid hr
          clear hr
          by_cases hlt : k < xs.length
          · have c0' := (kk.at1 (0) (b := bw) (by omega) (by omega)).trans d0
            have c1' := (kk.at1 (1) (b := bw) (by omega) (by omega)).trans d1
            have c2' := (kk.at1 (2) (b := bw) (by omega) (by omega)).trans d2
            have e1 := (kk.at1 (op + k) (b := gp) (by omega) (by omega)).trans ((kA.cell (p := ⟨gp, op + k, none⟩) lp (fun h => h)).trans (HPC.out k hlt))
            have e2 := (kk.at1 (oa + k) (b := ga) (by omega) (by omega)).trans ((kA.cell (p := ⟨ga, oa + k, none⟩) la (fun h => h)).trans (HAC.out k hlt))
            have e3 := HR4.out.cell (i := k) (by rw [partW_len xs x hk]; exact hlt)
            have e4 := HR4.out.fz k
            have HF4 := Lib.hid (HF2.out.kept kk (by have := HF2.out.lt; have := HF.out.lt; omega))
            have HD := Lib.hid (lag_div HN.out HX.out hlt)
            have HE := Lib.hid (lag_ne HN.out HX.out hlt)
            have HAP := Lib.hid (show (apartL xs).getD k 0 = pr (xs.eraseIdx k) (xs.getD k 0) from getD_range _ _ hlt)
            rw [HAP.out] at e2
            obtain ⟨y, hy⟩ : ∃ y, xs.getD k 0 = y := ⟨_, rfl⟩
            rw [hy] at e1 e2 HD HE
            obtain ⟨z, hz⟩ : ∃ z, pr (xs.eraseIdx k) y = z := ⟨_, rfl⟩
            rw [hz] at e2 HD HE
            clear hy hz
            obtain ⟨q, hq⟩ : ∃ q, pr xs x = q := ⟨_, rfl⟩
            rw [hq] at HD ⊢
            clear hq
            obtain ⟨t, ht⟩ : ∃ t, (partW xs x k).getD k 0 = t := ⟨_, rfl⟩
            rw [ht] at e3
            clear ht
            go_wp2_with fail
            refine wp_quiet_store 27 (by kernel_rfl) (by kernel_rfl) ?_
            simp only [List.take_succ_cons, List.take_zero, List.drop_succ_cons, List.drop_zero]
            repeat (quiet_step (first
              | (go_at_call 93; exact q_one_same (fadd_any _ x y))
              | (go_at_call 94; exact q_one (fmul_any _ bf (by exact HF4.out) (x + y) z))
              | (go_at_call 111; exact q_one (fdiv_any _ bf (by exact HF4.out) q ((x + y) * z) HE.out))))
            refine wpQuiet_nil ?_
            rintro w5 ⟨nq, rfl⟩
            rw [HD.out]
            go_wp2
            refine calmQ.normal ?_
            go_wp2
            go_roundw
            case rel =>
              refine ⟨k + 1, by omega, by go_num, ?_, (kk.drewN nq).trans (Kept.set1 _ _ _ _) (fun _ _ h => h)⟩
              have := (show RowF (wr.drewN nq) w.heap.size (partW xs x k) from HR4.out).set (i := k) (by rw [partW_len xs x hk]; exact hlt) (lag xs k x)
              rw [partW_set xs x hlt] at this
              exact this
            case measure => simp [intOf]; omega
          · obtain rfl : k = xs.length := by omega
            have hr := HR4.out
            rw [partW_all] at hr
            have HR5 := Lib.hid hr
            clear hr
            go_wp2
            go_ret
            exact ⟨_, rfl, HR5.out, Nat.le_refl _, (kA.trans kk (S := fun _ => False) (fun i hi h => by omega)).toBelow (Nat.le_refl _) (fun _ h => h.elim)⟩
end -- CodeLb

section -- CodeO
open Go.RowKit Go.Maps
set_option linter.unusedVariables false

/-- Rows that are owned: the outer cells; what each reads as; none lies in the outer block. -/
def RowsOwn (w : World) (base : Nat) (v : Value) (ls : List (List B)) : Prop := ∃ us, w.ownsRow base 50 1 v ls.length us ∧
  ∀ i u, us[i]? = some u → BytesAt w u (ls.getD i []) ∧ ∀ b, u.ownBlock = some b → b < w.heap.size ∧ v.ownBlock ≠ some b

theorem RowsOwn.nil (w : World) (base : Nat) : RowsOwn w base (.slice none 0 0) [] := ⟨[], World.ownsRow_nil _ _ _ _, fun i u h => by simp at h⟩
theorem RowsOwn.rows {w : World} {base : Nat} {v : Value} {ls : List (List B)} (h : RowsOwn w base v ls) : RowsAt w v ls := by
  obtain ⟨us, h1, h2⟩ := h
  exact RowsAt.of_owns h1 (fun i u hi => (h2 i u hi).1)
theorem RowsOwn.kept {S : Nat → Prop} {w w' : World} {base : Nat} {v : Value} {ls : List (List B)} (h : RowsOwn w base v ls) (hk : Kept S w w') (hS : ∀ k, k < w.heap.size → base ≤ k → ¬ S k) (hu : ∀ k, k < w.heap.size → ¬ S k) : RowsOwn w' base v ls := by
  obtain ⟨us, h1, h2⟩ := h
  refine ⟨us, ownsRow_keptS h1 hk (fun g hg => hS g (h1.lt g hg).2 (h1.lt g hg).1), fun i u hi => ⟨(h2 i u hi).1.kept hk hu, fun b hb => ?_⟩⟩
  have := (h2 i u hi).2 b hb
  exact ⟨Nat.lt_of_lt_of_le this.1 hk.size, this.2⟩
theorem RowsOwn.below {w w' : World} {base : Nat} {v : Value} {ls : List (List B)} (h : RowsOwn w base v ls) (hb : Below w.heap.size w w') : RowsOwn w' base v ls := h.kept (Kept.below hb) (fun _ _ _ h => h) (fun _ _ h => h)
theorem RowsOwn.lt {w : World} {base : Nat} {v : Value} {ls : List (List B)} (h : RowsOwn w base v ls) : ∀ k, v.ownBlock = some k → base ≤ k ∧ k < w.heap.size := by
  obtain ⟨us, h1, _⟩ := h
  exact h1.lt

theorem RowsOwn.weaken {w : World} {base base' : Nat} {v : Value} {ls : List (List B)} (h : RowsOwn w base v ls) (hb : base' ≤ base) : RowsOwn w base' v ls := by
  obtain ⟨us, h1, h2⟩ := h
  exact ⟨us, ownsRow_weaken h1 hb, h2⟩
theorem own_is {g o b len cap : Nat} (hb : (Value.slice (some ⟨g, o, none⟩) len cap).ownBlock = some b) : g = b := by simpa [Value.ownBlock] using hb
theorem RowsAt.shape {w : World} {v : Value} {ls : List (List B)} (h : RowsAt w v ls) : ∃ p c, v = .slice p ls.length c := by
  obtain ⟨p, c, e, _⟩ := h
  exact ⟨p, c, e⟩
theorem BytesAt.shape {w : World} {v : Value} {l : List B} (h : BytesAt w v l) : ∃ p c, v = .slice p l.length c := by
  obtain ⟨p, c, e, _⟩ := h
  exact ⟨p, c, e⟩

/-- Append of a row. -/
theorem app_row {ops : Array Oper} {rest : List Oper} {o : Oper} {a : Act} {Q : Exit → Act → World → Prop} {W : World}
    (hgd : o.guard = none) (s x : Operand) (ho : o.op = .call { callee := .builtin .append, args := #[s, x], argTypes := #[22, 22] })
    (base n : Nat) (v : Value) (ls : List (List B)) (hln : ls.length = n) (hs : a.eval s = v) (hown : RowsOwn W base v ls) (u : Value) (l : List B) (hu : BytesAt W u l) (hub : ∀ b, u.ownBlock = some b → b < W.heap.size ∧ v.ownBlock ≠ some b) (hone : u.oneCell' = true)
    (hx : a.eval x = .slice (some ⟨W.heap.size, 0, none⟩) 1 1) (hn : n < 1000000000000) (hbase : base ≤ W.heap.size)
    (h : ∀ g' c' w', RowsOwn w' base (.slice (some ⟨g', 0, none⟩) (n + 1) c') (ls ++ [l]) → Kept (fun k => v.ownBlock = some k) W w' → W.heap.size < w'.heap.size → (v.ownBlock = some g' ∨ W.heap.size < g') →
      wpList Tryz.prog ops Q rest (a.put o.dst (.slice (some ⟨g', 0, none⟩) (n + 1) c')) w') : wpList Tryz.prog ops Q (o :: rest) a (W.alloc (.cells #[u] 50)) := by
  subst hln
  obtain ⟨us, h1, h2⟩ := hown
  refine app_el 22 50 1 24 (.slice none 0 0) Tryz.underlying22 infoR rfl (by decide) hgd s x ho base ls.length v us hs h1 [u] rfl (by simpa using hone) hx hn hbase ?_
  intro g' c' w' ho' hk hs' hg'
  refine h g' c' w' ⟨us ++ [u], by simpa using ho', fun i z hi => ?_⟩ hk hs' hg'
  have hul : us.length = ls.length := by have := h1.1; omega
  by_cases e : i < us.length
  · rw [List.getElem?_append_left e] at hi
    obtain ⟨q1, q2⟩ := h2 i z hi
    rw [getD_snoc_lt (by omega)]
    refine ⟨q1.kept1 hk (fun k hk' e => (q2 k hk').2 e), fun b hb => ?_⟩
    have := q2 b hb
    refine ⟨by omega, fun e => ?_⟩
    have e' : g' = b := by simpa [Value.ownBlock] using e
    rcases hg' with q | q
    · exact this.2 (by rw [q, e'])
    · omega
  · have hi' : i = us.length := by
      have := (List.getElem?_eq_some_iff.1 hi).1
      simp at this; omega
    subst hi'
    have hz : z = u := by simpa using hi.symm
    subst hz
    rw [hul, getD_snoc_last]
    refine ⟨hu.kept1 hk (fun k hk' e => (hub k hk').2 e), fun b hb => ?_⟩
    have := hub b hb
    refine ⟨by omega, fun e => ?_⟩
    have e' : g' = b := by simpa [Value.ownBlock] using e
    rcases hg' with q | q
    · exact this.2 (by rw [q, e'])
    · omega
end -- CodeO

section -- CodeLc
open Go.RowKit Go.Maps
set_option linter.unusedVariables false
set_option maxRecDepth 100000
set_option maxHeartbeats 2000000

/-- The weights of the first n bytes by the first k. -/
def tblL (k n : Nat) : List (List B) := (List.range n).map fun i => wtsL (ptsL k) (ofB i)
theorem tblL_len (k n : Nat) : (tblL k n).length = n := by simp [tblL]
theorem tblL_succ (k n : Nat) : tblL k (n + 1) = tblL k n ++ [wtsL (ptsL k) (ofB n)] := by simp [tblL, List.range_succ]
theorem ptsL_succ (k : Nat) : ptsL (k + 1) = ptsL k ++ [ofB k] := by simp [ptsL, List.range_succ]
theorem ofB_v {k : Nat} (h : k < 256) : (ofB k).v = k := by simp only [ofB]; omega
theorem tblL_get {k n i : Nat} (h : i < n) : (tblL k n).getD i [] = wtsL (ptsL k) (ofB i) := getD_range _ _ h

theorem table_bad (w : World) (k n : Int) (h : k < 1 ∨ n < k ∨ 255 < n) :
    Calls Tryz.prog 63 #[.int .i64 k, .int .i64 n] w fun e w' => e = .returned (.tuple #[.slice none 0 0, .int .i64 2]) ∧ w = w' := by
  by_cases h1 : k < 1
  · go_enter Tryz.func63, Tryz.ntmps63
    go_wp2
    go_ret2
    exact ⟨rfl, rfl⟩
  · have e1 : decide (k < 1) = false := by simpa using h1
    by_cases h2 : n < k
    · go_enter Tryz.func63, Tryz.ntmps63
      go_wp2
      go_ret2
      exact ⟨rfl, rfl⟩
    · have h3 : 255 < n := by omega
      have e2 : decide (n < k) = false := by simpa using h2
      go_enter Tryz.func63, Tryz.ntmps63
      go_wp2
      go_ret2
      exact ⟨rfl, rfl⟩

theorem table_any (w : World) (k n : Nat) (h1 : 1 ≤ k) (h2 : k ≤ n) (h3 : n ≤ 255) :
    Calls Tryz.prog 63 #[.int .i64 (k : Int), .int .i64 (n : Int)] w fun e w' => ∃ v, e = .returned (.tuple #[v, .int .i64 0]) ∧ RowsAt w' v (tblL k n) ∧ Below w.heap.size w w' := by
  have e1 : decide ((k : Int) < 1) = false := by simp; omega
  have e2 : ¬ n < k := by omega
  have e3 : ¬ (255 : Int) < n := by omega
  have e4 : decide (n < k) = false := by simp; omega
  have e5 : decide ((255 : Int) < n) = false := by simp; omega
  go_enter Tryz.func63, Tryz.ntmps63
  go_wp2
  clear e1 e2 e3 e4 e5
  go_loopw [6, 7, 22] (fun v _ i wr => ∃ j : Nat, j ≤ k ∧ i = .int .i64 (j : Int) ∧ wr.ownsRow w.heap.size 5 1 v j ((ptsL j).map bv) ∧ Below w.heap.size w wr) (fun _ _ i _ => k - (intOf i).toNat)
  case atStart => exact ⟨0, Nat.zero_le _, rfl, World.ownsRow_nil _ _ _ _, Below.refl _ _⟩
  case round =>
    obtain ⟨j, hj, rfl, ho, hB⟩ := hrel
    have HO := Lib.hid ho
    clear ho
    have hsz := hB.size
    by_cases hlt : j < k
    · go_wp2_with (at_builtin; refine app_el 50 5 1 1 (.int .u8 0) Tryz.underlying50 infoB rfl (by decide) rfl _ _ rfl w.heap.size j _ _ rfl HO.out [.int .u8 (j : Int)] rfl (by simp [Value.oneCell']) rfl (by omega) hsz ?_; intro g' c' w3 ho3 hk3 hs3 hg3)
      go_roundw
      case rel =>
        refine ⟨j + 1, by omega, by go_num, ?_, ?_⟩
        · rw [ptsL_succ, ← map_snoc_bv]
          have : bv (ofB j) = .int .u8 (j : Int) := by show Value.int .u8 (((ofB j).v : Nat) : Int) = _; rw [ofB_v (by omega)]
          rw [this]
          exact ho3
        · exact hB.trans (hk3.toBelow hsz (fun i h => (HO.out.lt i h).1))
      case measure => simp [intOf]; omega
    · obtain rfl : j = k := by omega
      have hp : BytesAt wr u6 (ptsL j) := BytesAt.of_owns (base := w.heap.size) (by rw [ptsL_len]; exact HO.out)
      have HP := Lib.hid hp
      clear hp
      go_wp2_with fail
      refine (over_any wr u6 (ptsL j) HP.out (by rw [ptsL_len]; omega)).mono ?_
      rintro e w2 ⟨bw, bf, va, rfl, hov, hB2⟩
      have HOV := Lib.hid hov
      have hB3 : Below w.heap.size w w2 := hB.trans ⟨hB2.os, hB2.tape, hB2.output, hB2.size, fun i hi => hB2.block i (by omega)⟩
      clear hov hB2 hB hlt hsz
      have HNN := Lib.hid (ptsL_nodup (k := j) (by omega))
      have HPL := Lib.hid (ptsL_len j)
      go_wp2
      go_loopw [4, 9, 34] (fun v _ i w4 => ∃ m : Nat, m ≤ n ∧ i = .int .i64 (m : Int) ∧ RowsOwn w4 w2.heap.size v (tblL j m) ∧ Below w2.heap.size w2 w4) (fun _ _ i _ => n - (intOf i).toNat)
      case atStart => exact ⟨0, Nat.zero_le _, rfl, RowsOwn.nil _ _, Below.refl _ _⟩
      case round =>
        obtain ⟨m, hm, rfl, ho, hB4⟩ := hrel
        have HR := Lib.hid ho
        clear ho
        have hs4 := hB4.size
        by_cases hlt : m < n
        · have HW := Lib.hid (HOV.out.kept (Kept.below hB4) (fun _ _ h => h))
          have hmm : bv (ofB m) = .int .u8 (m : Int) := by show Value.int .u8 (((ofB m).v : Nat) : Int) = _; rw [ofB_v (by omega)]
          have HMM := Lib.hid hmm
          clear hmm
          go_wp2_with fail
          rw [← HMM.out]
          refine (weights_any _ bw bf _ va (ptsL j) (ofB m) HW.out HNN.out (by rw [HPL.out]; omega) (by rw [HPL.out]; omega)).mono ?_
          rintro e w5 ⟨g, rfl, hrw, hgb, hB5⟩
          rw [HPL.out]
          have HB := Lib.hid (hrw.toBytes j)
          have hgl := hrw.lt
          have hs5 := hB5.size
          have HR5 := Lib.hid (HR.out.below hB5)
          have hlv := HR.out.lt
          have hb6 : Below w2.heap.size w2 w5 := hB4.trans ⟨hB5.os, hB5.tape, hB5.output, hB5.size, fun i hi => hB5.block i (by omega)⟩
          have HLV := Lib.hid hlv
          have HL2 := Lib.hid (show BytesAt w5 (.slice (some ⟨g, 0, none⟩) j j) (wtsL (ptsL j) (ofB m)) by have := HB.out; rw [wtsL_len, HPL.out] at this; exact this)
          clear hrw hB5 hB4 hlv
          go_wp2_with (at_builtin; refine app_row rfl _ _ rfl w2.heap.size m _ _ (tblL_len j m) rfl HR5.out (.slice (some ⟨g, 0, none⟩) j j) _ HL2.out (fun b hb => own_is hb ▸ ⟨hgl, fun h => by have := (HLV.out _ h).2; omega⟩) rfl rfl (by omega) (by omega) ?_; intro g' c' w6 hR6 hk6 hs6 hg6)
          go_roundw
          case rel =>
            refine ⟨m + 1, by omega, by go_num, by rw [tblL_succ]; exact hR6, hb6.trans (hk6.toBelow (by omega) (fun i h => (HLV.out i h).1))⟩
          case measure => simp [intOf]; omega
        · obtain rfl : m = n := by omega
          go_wp2
          go_ret2
          exact ⟨_, rfl, HR.out.rows, hB3.trans ⟨hB4.os, hB4.tape, hB4.output, hB4.size, fun i hi => hB4.block i (by have := hB3.size; omega)⟩⟩

/-- A coder of n symbols, k of which are enough. -/
structure CoderAt (w : World) (bc n k : Nat) (bf : Nat) (vt : Value) : Prop where
  cells : w.heap[bc]? = some (.cells #[.pointer (some ⟨bf, 0, none⟩), vt, .int .i64 (k : Int)] 115 (0, 0))
  field : FieldAt w bf
  table : RowsAt w vt (tblL k n)
  k1 : 1 ≤ k
  kn : k ≤ n
  n255 : n ≤ 255
section
variable {w w' : World} {bc n k bf : Nat} {vt : Value}
theorem CoderAt.c0 (h : CoderAt w bc n k bf vt) : w.cell? ⟨bc, 0, none⟩ = some (.pointer (some ⟨bf, 0, none⟩)) := by rw [cell_of h.cells]; rfl
theorem CoderAt.c1 (h : CoderAt w bc n k bf vt) : w.cell? ⟨bc, 1, none⟩ = some vt := by rw [cell_of h.cells]; rfl
theorem CoderAt.c2 (h : CoderAt w bc n k bf vt) : w.cell? ⟨bc, 2, none⟩ = some (.int .i64 (k : Int)) := by rw [cell_of h.cells]; rfl
theorem CoderAt.lt (h : CoderAt w bc n k bf vt) : bc < w.heap.size := (Array.getElem?_eq_some_iff.1 h.cells).1
theorem CoderAt.kept {S : Nat → Prop} (h : CoderAt w bc n k bf vt) (hk : Kept S w w') (hS : ∀ i, i < w.heap.size → ¬ S i) : CoderAt w' bc n k bf vt :=
  ⟨(hk.block bc h.lt (hS _ h.lt)).trans h.cells, h.field.kept hk (hS _ h.field.lt), h.table.kept hk hS, h.k1, h.kn, h.n255⟩
theorem CoderAt.below (h : CoderAt w bc n k bf vt) (hb : Below w.heap.size w w') : CoderAt w' bc n k bf vt := h.kept (Kept.below hb) (fun _ _ h => h)
theorem CoderAt.dr (h : CoderAt w bc n k bf vt) (m : Nat) : CoderAt (w.drewN m) bc n k bf vt := ⟨h.cells, h.field, h.table, h.k1, h.kn, h.n255⟩
end

theorem cnew_bad (w : World) (n k : Int) (h : k < 1 ∨ n < k ∨ 255 < n) :
    Calls Tryz.prog 47 #[.int .i64 n, .int .i64 k] w fun e w' => e = .returned (.tuple #[.pointer none, .int .i64 2]) ∧ w = w' := by
  have HT := Lib.hid (table_bad w k n h)
  clear h
  go_enter Tryz.func47, Tryz.ntmps47
  go_wp2_with fail
  refine HT.out.mono ?_
  rintro e w' ⟨rfl, rfl⟩
  go_wp2
  go_ret2
  exact ⟨rfl, rfl⟩

theorem cnew_any (w : World) (n k : Nat) (h1 : 1 ≤ k) (h2 : k ≤ n) (h3 : n ≤ 255) :
    Calls Tryz.prog 47 #[.int .i64 (n : Int), .int .i64 (k : Int)] w fun e w' => ∃ bc bf vt, e = .returned (.tuple #[.pointer (some ⟨bc, 0, none⟩), .int .i64 0]) ∧ CoderAt w' bc n k bf vt ∧ Below w.heap.size w w' := by
  have HT := Lib.hid (table_any w k n h1 h2 h3)
  go_enter Tryz.func47, Tryz.ntmps47
  go_wp2_with fail
  refine HT.out.mono ?_
  rintro e w1 ⟨vt, rfl, hr, hB⟩
  obtain ⟨pt, ct, rfl⟩ := hr.shape
  have HR := Lib.hid hr
  clear hr
  have HTL := Lib.hid (tblL_len k n)
  go_wp2_with fail
  refine (fnew_any w1).mono ?_
  rintro e w2 ⟨bf, rfl, hf, hfb, hB2⟩
  have HF := Lib.hid hf
  have HR2 := Lib.hid (HR.out.below hB2)
  have hb3 : Below w.heap.size w w2 := hB.trans ⟨hB2.os, hB2.tape, hB2.output, hB2.size, fun i hi => hB2.block i (by have := hB.size; omega)⟩
  have hs3 := hb3.size
  clear hf hB hB2
  go_wp2
  go_ret2
  exact ⟨_, bf, _, rfl, ⟨heap_alloc_new w2 _, HF.out.kept (Kept.alloc (fun _ => False) _ _) (fun h => h), HR2.out.kept (Kept.alloc (fun _ => False) _ _) (fun _ _ h => h), h1, h2, h3⟩, hb3.alloc hs3 _⟩
end -- CodeLc

end Go.Proofs.YtanjchpkekehgaaGreat
