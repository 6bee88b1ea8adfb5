/-
  CaY: CacheLast: a Turn, whatever it answers.
  RcA: The reference's cache (layer 6): what it looks like in memory; append of headers within a region; key.
-/
import Derived.Test.YtlmpagicjgldkaaGreatMxbq
import Derived.Test.YtlmpagicjgldkaaGreatKitJ
import Derived.Test.YtlmpagicjgldkaaGreatMxbb
namespace Go.Proofs.YtlmpagicjgldkaaGreat

section -- CaY
open Go.RowKit Go.Maps
set_option linter.unusedVariables false
set_option maxRecDepth 100000
set_option maxHeartbeats 2000000

/-- What an ask makes of a cache. -/
def PS.step (p : PS) (k : Int) (xs : List Int) : PS := if askErr p.n k xs = 0 then p.ask (k.toNat, xs.take k.toNat) else p
theorem turn_step (w : World) {F : Nat → Prop} {b bm : Nat} {s : CS} (hc : CacheAt w F b bm s) (hF : ∀ i, F i → i < w.heap.size) (k : Int) (v : Value) (xs : List Int) (hv : IntsAt w v xs) (hl : xs.length ≤ 1000)
    (h : s.now < 1000000000 ∧ s.hits < 1000000000 ∧ s.misses < 1000000000 ∧ s.dropped < 1000000000) :
    Calls Tryz.prog 11 #[.pointer (some ⟨b, 0, none⟩), .int .i64 k, v] w fun e w' => ∃ pv lv cv s', e = .returned (.tuple #[.slice pv lv cv, .int .i64 (askErr s.n k xs)]) ∧ CacheAt w' F b bm s' ∧ s'.plain = s.plain.step k xs ∧ Kept (CK b bm) w w' := by
  by_cases h0 : askErr s.n k xs = 0
  · obtain ⟨K, rfl, h1, h2, ho⟩ := askErr_zero h0
    refine (turn_c_any w hc hF K v xs hv (by omega) h1 h2 ho h.1 h.2.1 h.2.2.1 h.2.2.2).mono ?_
    rintro e w' ⟨s', base, vv, rfl, hlone, _, hbw, hca, hpp, hk⟩
    obtain ⟨pv, cv, rfl⟩ := hlone.rows.shape
    refine ⟨_, _, _, s', by rw [h0], hca w' (Below.refl _ _), ?_, hk⟩
    unfold PS.step
    rw [if_pos (show askErr s.plain.n (K : Int) xs = 0 from h0), hpp, Int.toNat_natCast]
  · refine (turn_c_bad w hc k v xs hv (by omega) h0).mono ?_
    rintro e w' ⟨rfl, hB⟩
    refine ⟨_, _, _, s, rfl, hc.below hB, ?_, (Kept.below hB).mono (fun _ _ h => h.elim)⟩
    unfold PS.step
    rw [if_neg (show ¬ askErr s.plain.n k xs = 0 from h0)]
end -- CaY

section -- RcA
open Go.RowKit Go.Maps
set_option linter.unusedVariables false
set_option linter.unusedSimpArgs false
set_option maxRecDepth 100000
set_option maxHeartbeats 4000000

theorem IntsAt.keptB {S : Nat → Prop} {w w' : World} {v : Value} {xs : List Int} (h : IntsAt w v xs) (hk : Kept S w w') (hS : ∀ b, v.ownBlock = some b → ¬ S b) : IntsAt w' v xs := by
  obtain ⟨p, cap, rfl, hcap, hh⟩ := h
  refine ⟨p, cap, rfl, hcap, fun hl => ?_⟩
  obtain ⟨g, off, rfl, hc⟩ := hh hl
  exact ⟨g, off, rfl, fun i hi => (hk.cell (p := ⟨g, off + i, none⟩) (blt (hc 0 hl)) (hS g rfl)).trans (hc i hi)⟩
theorem IntsAt.one {w : World} {v : Value} {xs : List Int} (h : IntsAt w v xs) : v.oneCell' = true := by
  obtain ⟨p, cap, rfl, _⟩ := h
  rfl

/-- Append of nothing. -/
theorem run_none {W : World} (t e ot : TypeId) (size bytes : Nat) (z : Value) (ht : Tryz.prog.underlying t = some (.slice e))
    (hinfo : (Tryz.prog.info? e).map (fun i => (i.zero, i.size, i.bytes)) = some (some z, size, bytes)) (base n : Nat) (v : Value) (us : List Value) (hown : W.ownsRow base e size v n us) (p : Option Addr) (c : Nat) :
    (Builtin.append_ #[t, t] ot #[v, .slice p 0 c]).run Tryz.prog W = .ok v W := by
  obtain ⟨i, hi, hz, hsize, hbytes⟩ := info_parts hinfo
  have hld : ∀ b : Addr, (loadCells b 0).run Tryz.prog W = .ok #[] W := fun b => run_loadCells_list (P := Tryz.prog) (w := W) b [] (fun j v h => by simp at h)
  rcases hown.2 with ⟨rfl, rfl⟩ | ⟨g, cap, cur, rfl, _, _, hnc, _⟩
  · cases p <;> simp [Builtin.append_, run_underlying ht, sizeOf, typeInfo, hi, Builtin.lenOf, Builtin.firstCells, hld]
  · cases p <;> simp [Builtin.append_, run_underlying ht, sizeOf, typeInfo, hi, Builtin.lenOf, Builtin.firstCells, hnc, storeCells, hld]

/-- Append of elements of one cell each, however many. -/
theorem run_many {W : World} (t e ot : TypeId) (bytes : Nat) (z : Value) (ht : Tryz.prog.underlying t = some (.slice e))
    (hinfo : (Tryz.prog.info? e).map (fun i => (i.zero, i.size, i.bytes)) = some (some z, 1, bytes)) (hzs : z.cells.size = 1) (hby : bytes ≤ 64) (base n m : Nat) (v : Value) (us us2 : List Value) (hm : us2.length = m) (h1 : ∀ u ∈ us2, u.oneCell' = true)
    (hown : W.ownsRow base e 1 v n us) (p : Option Addr) (c : Nat) (hc : 0 < m → ∃ g off, p = some ⟨g, off, none⟩ ∧ ∀ i, i < m → W.cell? ⟨g, off + i, none⟩ = us2[i]?) (hnm : n + m < 1000000000000) (hbase : base ≤ W.heap.size) :
    ∃ p' c' w', (Builtin.append_ #[t, t] ot #[v, .slice p m c]).run Tryz.prog W = .ok (.slice p' (n + m) c') w' ∧ w'.ownsRow base e 1 (.slice p' (n + m) c') (n + m) (us ++ us2) ∧ Kept (fun k => v.ownBlock = some k) W w' ∧
      (∀ b, (Value.slice p' (n + m) c').ownBlock = some b → v.ownBlock = some b ∨ W.heap.size ≤ b) := by
  by_cases h0 : m = 0
  · subst h0
    obtain rfl : us2 = [] := List.eq_nil_of_length_eq_zero hm
    have hv : ∃ p' c', v = .slice p' n c' := by
      rcases hown.2 with ⟨rfl, hz⟩ | ⟨g, cap, cur, rfl, _⟩
      · exact ⟨none, 0, by rw [hz]⟩
      · exact ⟨_, cap, rfl⟩
    obtain ⟨p', c', rfl⟩ := hv
    exact ⟨p', c', W, run_none t e ot 1 bytes z ht hinfo base n _ us hown p c, by rw [List.append_nil, Nat.add_zero]; exact hown, Kept.refl _ _, fun b hb => .inl hb⟩
  · obtain ⟨g, off, rfl, hcc⟩ := hc (by omega)
    obtain ⟨i, hi, hz, hsize, hbytes⟩ := info_parts hinfo
    have hown' : W.ownsRow base e i.size v n us := by rw [hsize]; exact hown
    obtain ⟨g', c', w', hr, h2, h3, h4⟩ := run_app (P := Tryz.prog) (w := W) base t ot e i z ht hi hz (by rw [hsize]; exact hzs) v n us hown' g off m c us2 (by rw [hsize, Nat.mul_one]; exact hm) (by omega) (fun j u hj => by
      have hjm : j < us2.length := (List.getElem?_eq_some_iff.1 hj).1
      rw [add_off, hcc j (by omega)]
      exact hj) h1 (by omega) (by rw [hbytes]; have := Nat.mul_le_mul_left (n + m) hby; omega) hbase
    rw [hsize] at h2
    exact ⟨_, c', w', hr, h2, h3, fun b hb => by
      have e : g' = b := own_is hb
      subst e
      exact h4⟩

/-- The same within a region. -/
theorem step_many {ops : Array Oper} {o : Oper} {a : Act} {W : World} {K : Act → World → Prop} {Q : Exit → Act → World → Prop} {E : Prop} (t e : TypeId) (bytes : Nat) (z : Value) (ht : Tryz.prog.underlying t = some (.slice e))
    (hinfo : (Tryz.prog.info? e).map (fun i => (i.zero, i.size, i.bytes)) = some (some z, 1, bytes)) (hzs : z.cells.size = 1) (hby : bytes ≤ 64) (hgd : o.guard = none) (s x : Operand) (ho : o.op = .call { callee := .builtin .append, args := #[s, x], argTypes := #[t, t] })
    (base n m k : Nat) (hk : n + m = k) (v : Value) (us us2 : List Value) (hm : us2.length = m) (h1 : ∀ u ∈ us2, u.oneCell' = true) (hs : a.eval s = v) (hown : W.ownsRow base e 1 v n us) (p : Option Addr) (c : Nat) (hx : a.eval x = .slice p m c)
    (hc : 0 < m → ∃ g off, p = some ⟨g, off, none⟩ ∧ ∀ i, i < m → W.cell? ⟨g, off + i, none⟩ = us2[i]?) (hnm : n + m < 1000000000000) (hbase : base ≤ W.heap.size)
    (h : ∀ p' c' w', w'.ownsRow base e 1 (.slice p' k c') k (us ++ us2) → Kept (fun k => v.ownBlock = some k) W w' → (∀ b, (Value.slice p' k c').ownBlock = some b → v.ownBlock = some b ∨ W.heap.size ≤ b) →
      K (a.put o.dst (.slice p' k c')) w') :
    if Region.wanted o (yielded ops a.tmps) = true then Oper.wp Tryz.prog o a W K Q else E := by
  subst hk
  have hw : Region.wanted o (yielded ops a.tmps) = true := by simp [Region.wanted, hgd]
  rw [if_pos hw]
  obtain ⟨p', c', w', hr, h2, h3, h4⟩ := run_many (W := W) t e o.type bytes z ht hinfo hzs hby base n m v us us2 hm h1 hown p c hc hnm hbase
  have h5 := h p' c' w' h2 h3 h4
  unfold Oper.wp execOp
  simp only [ho, resolve, invoke, builtin, Sem.run_bind, Sem.run_pure, Result.andThen_ok, List.map_toArray, List.map_cons, List.map_nil, hs, hx, hr]
  exact h5
/-- The same in the order of the text. -/
theorem app_many {ops : Array Oper} {rest : List Oper} {o : Oper} {a : Act} {Q : Exit → Act → World → Prop} {W : World} (t e : TypeId) (bytes : Nat) (z : Value) (ht : Tryz.prog.underlying t = some (.slice e))
    (hinfo : (Tryz.prog.info? e).map (fun i => (i.zero, i.size, i.bytes)) = some (some z, 1, bytes)) (hzs : z.cells.size = 1) (hby : bytes ≤ 64) (hgd : o.guard = none) (s x : Operand) (ho : o.op = .call { callee := .builtin .append, args := #[s, x], argTypes := #[t, t] })
    (base n m k : Nat) (hk : n + m = k) (v : Value) (us us2 : List Value) (hm : us2.length = m) (h1 : ∀ u ∈ us2, u.oneCell' = true) (hs : a.eval s = v) (hown : W.ownsRow base e 1 v n us) (p : Option Addr) (c : Nat) (hx : a.eval x = .slice p m c)
    (hc : 0 < m → ∃ g off, p = some ⟨g, off, none⟩ ∧ ∀ i, i < m → W.cell? ⟨g, off + i, none⟩ = us2[i]?) (hnm : n + m < 1000000000000) (hbase : base ≤ W.heap.size)
    (h : ∀ p' c' w', w'.ownsRow base e 1 (.slice p' k c') k (us ++ us2) → Kept (fun k => v.ownBlock = some k) W w' → (∀ b, (Value.slice p' k c').ownBlock = some b → v.ownBlock = some b ∨ W.heap.size ≤ b) →
      wpList Tryz.prog ops Q rest (a.put o.dst (.slice p' k c')) w') : wpList Tryz.prog ops Q (o :: rest) a W := by
  subst hk
  refine wpList_plain hgd fun K hK => ?_
  obtain ⟨p', c', w', hr, h2, h3, h4⟩ := run_many (W := W) t e o.type bytes z ht hinfo hzs hby base n m v us us2 hm h1 hown p c hc hnm hbase
  have h5 := h p' c' w' h2 h3 h4
  unfold Oper.wp execOp
  simp only [ho, resolve, invoke, builtin, Sem.run_bind, Sem.run_pure, Result.andThen_ok, List.map_toArray, List.map_cons, List.map_nil, hs, hx, hr]
  exact hK _ _ h5

theorem infoIS : (Tryz.prog.info? 32).map (fun i => (i.zero, i.size, i.bytes)) = some (some (.slice none 0 0), 1, 24) := by kernel_rfl

/-- A key as the document keeps it: how many are enough, and which. -/
def keyI (q : Nat × List Int) : List Int := (q.1 : Int) :: q.2
theorem keyI_inj {q q' : Nat × List Int} (h : keyI q = keyI q') : q = q' := by
  obtain ⟨a, b⟩ := q
  obtain ⟨a', b'⟩ := q'
  unfold keyI at h
  obtain ⟨h1, h2⟩ := List.cons.inj h
  have h1 : (a : Int) = (a' : Int) := h1
  have h2 : b = b' := h2
  subst h2
  have : a = a' := by omega
  subst this
  rfl
/-- Keys: a row of headers of its own; each key's numbers lie neither in that row nor in the cache. -/
def KeysAt (w : World) (base : Nat) (G : Nat → Prop) (v : Value) (ks : List (Nat × List Int)) : Prop :=
  ∃ us, w.ownsRow base 32 1 v ks.length us ∧ ∀ i u, us[i]? = some u → IntsAt w u (keyI (ks.getD i (0, []))) ∧ ∀ b, u.ownBlock = some b → G b ∧ v.ownBlock ≠ some b
/-- The reference's cache. -/
structure RCAt (w : World) (base : Nat) (G : Nat → Prop) (rb : Nat) (v : Value) (p : PS) : Prop where
  blk : w.heap[rb]? = some (.cells #[.int .i64 (p.n : Int), .int .i64 (p.room : Int), v, .int .i64 (p.hits : Int), .int .i64 (p.misses : Int), .int .i64 (p.dropped : Int)] 67 (0, 0))
  keys : KeysAt w base G v p.keys
  ne : v.ownBlock ≠ some rb
  le : base ≤ rb
  gr : ¬ G rb
/-- The blocks of the reference's cache that turn. -/
def RK (rb : Nat) (v : Value) (i : Nat) : Prop := i = rb ∨ v.ownBlock = some i
section
variable {w w' : World} {base rb : Nat} {G : Nat → Prop} {v : Value} {p : PS}
theorem RCAt.lt (h : RCAt w base G rb v p) : rb < w.heap.size := (Array.getElem?_eq_some_iff.1 h.blk).1
theorem RCAt.c0 (h : RCAt w base G rb v p) : w.cell? ⟨rb, 0, none⟩ = some (.int .i64 (p.n : Int)) := by rw [cell_of h.blk]; rfl
theorem RCAt.c1 (h : RCAt w base G rb v p) : w.cell? ⟨rb, 1, none⟩ = some (.int .i64 (p.room : Int)) := by rw [cell_of h.blk]; rfl
theorem RCAt.c2 (h : RCAt w base G rb v p) : w.cell? ⟨rb, 2, none⟩ = some v := by rw [cell_of h.blk]; rfl
theorem RCAt.c3 (h : RCAt w base G rb v p) : w.cell? ⟨rb, 3, none⟩ = some (.int .i64 (p.hits : Int)) := by rw [cell_of h.blk]; rfl
theorem RCAt.c4 (h : RCAt w base G rb v p) : w.cell? ⟨rb, 4, none⟩ = some (.int .i64 (p.misses : Int)) := by rw [cell_of h.blk]; rfl
theorem RCAt.c5 (h : RCAt w base G rb v p) : w.cell? ⟨rb, 5, none⟩ = some (.int .i64 (p.dropped : Int)) := by rw [cell_of h.blk]; rfl
theorem KeysAt.lt {ks : List (Nat × List Int)} (h : KeysAt w base G v ks) : ∀ b, v.ownBlock = some b → base ≤ b ∧ b < w.heap.size := by
  obtain ⟨us, ho, _⟩ := h
  exact World.ownsRow.lt ho
theorem KeysAt.kept {S : Nat → Prop} {ks : List (Nat × List Int)} (h : KeysAt w base G v ks) (hk : Kept S w w') (hv : ∀ b, v.ownBlock = some b → ¬ S b) (hS : ∀ i, S i → ¬ G i ∨ v.ownBlock = some i ∨ ∀ us, w.ownsRow base 32 1 v ks.length us → ∀ (j : Nat) u, us[j]? = some u → u.ownBlock ≠ some i) : KeysAt w' base G v ks := by
  obtain ⟨us, ho, hu⟩ := h
  refine ⟨us, ownsRow_keptS ho hk hv, fun i u hi => ⟨(hu i u hi).1.keptB hk (fun b hb hs => ?_), (hu i u hi).2⟩⟩
  rcases hS b hs with h | h | h
  · exact h ((hu i u hi).2 b hb).1
  · exact ((hu i u hi).2 b hb).2 h
  · exact h us ho i u hi hb
theorem KeysAt.below {ks : List (Nat × List Int)} (h : KeysAt w base G v ks) (hb : Below w.heap.size w w') : KeysAt w' base G v ks := h.kept (Kept.below hb) (fun _ _ h => h) (fun _ h => h.elim)
theorem RCAt.below (h : RCAt w base G rb v p) (hb : Below w.heap.size w w') : RCAt w' base G rb v p := ⟨(hb.block rb h.lt).trans h.blk, h.keys.below hb, h.ne, h.le, h.gr⟩
/-- Other blocks may turn, if no key's numbers lie there. -/
theorem RCAt.kept {S : Nat → Prop} (h : RCAt w base G rb v p) (hk : Kept S w w') (hS : ∀ i, S i → ¬ G i ∧ i ≠ rb ∧ v.ownBlock ≠ some i) : RCAt w' base G rb v p :=
  ⟨(hk.block rb h.lt (fun hs => (hS _ hs).2.1 rfl)).trans h.blk, h.keys.kept hk (fun b hb hs => (hS b hs).2.2 hb) (fun i hs => .inl (hS i hs).1), h.ne, h.le, h.gr⟩
end

/-- key, where there are too few. -/
theorem rkey_bad (w : World) (k : Int) (v : Value) (xs : List Int) (hv : IntsAt w v xs) (h : k < 0 ∨ xs.length < k) :
    Calls Tryz.prog 32 #[.int .i64 k, v] w fun e w' => e = .returned (.slice none 0 0) ∧ w = w' := by
  obtain ⟨p, cap, rfl, hcap, _⟩ := hv
  obtain ⟨L, hL⟩ : ∃ L, xs.length = L := ⟨_, rfl⟩
  rw [hL] at h hcap ⊢
  clear hL
  by_cases h0 : k < 0
  · clear h
    go_enter Tryz.func32, Tryz.ntmps32
    go_wp2
    go_ret
    exact ⟨rfl, rfl⟩
  · have h1 : (L : Int) < k := by omega
    clear h
    go_enter Tryz.func32, Tryz.ntmps32
    go_wp2
    go_ret
    exact ⟨rfl, rfl⟩

theorem rkey_any (w : World) (K : Nat) (v : Value) (xs : List Int) (hv : IntsAt w v xs) (hl : xs.length ≤ 1000000) (hk : K ≤ xs.length) :
    Calls Tryz.prog 32 #[.int .i64 (K : Int), v] w fun e w' => ∃ u, e = .returned u ∧ IntsAt w' u (keyI (K, xs.take K)) ∧ (∀ b, u.ownBlock = some b → w.heap.size ≤ b ∧ b < w'.heap.size) ∧ Below w.heap.size w w' := by
  obtain ⟨p, cap, rfl, hcap, hh⟩ := hv
  have HH := Lib.hid hh
  obtain ⟨L, hL⟩ : ∃ L, xs.length = L := ⟨_, rfl⟩
  rw [hL] at HH hcap hk hl ⊢
  have HL := Lib.hid hL
  clear hh hL
  have HA := Lib.hid (fun (W : World) => Below.refl W.heap.size W)
  have h1 : ¬ (K : Int) < 0 := by omega
  have h2 : ¬ (L : Int) < (K : Int) := by omega
  have hcK : (K : Int) ≤ (cap : Int) := by omega
  have HC := Lib.hid (show ∀ (x : Obj), 0 < K → ∃ g off, p = some ⟨g, off, none⟩ ∧ ∀ i, i < K → (w.alloc x).cell? ⟨g, off + i, none⟩ = some (.int .i64 ((xs.take K).getD i 0)) from fun x h0 => by
    obtain ⟨g, off, rfl, hc⟩ := HH.out (by omega)
    refine ⟨g, off, rfl, fun i hi => ?_⟩
    rw [getD_take hi]
    exact alloc_cell (hc i (by omega)) x)
  go_enter Tryz.func32, Tryz.ntmps32
  have HL1 := Lib.hid (show (xs.take K).length = K by rw [List.length_take, HL.out]; omega)
  have HO1 := Lib.hid (World.ownsRow_lit (size := 1) (e := 3) w #[.int .i64 (K : Int)] 1 (Nat.le_refl _) (by unfold maxLen; omega) rfl)
  have HS1 := Lib.hid (show w.heap.size ≤ (w.alloc (.cells #[.int .i64 (K : Int)] 3)).heap.size by simp)
  go_wp2_with (at_builtin; refine app_int_many rfl _ _ rfl w.heap.size 1 K _ [(K : Int)] (xs.take K) rfl HL1.out HO1.out p _ (HC.out _) rfl rfl (by omega) HS1.out ?_; intro p' c' w' ho hk' hn)
  have HO := Lib.hid ho
  have HK := Lib.hid hk'
  have HN := Lib.hid hn
  clear ho hk' hn
  go_wp2
  go_ret
  have HO2 := HO.out
  rw [Nat.add_comm 1 K] at HO2
  refine ⟨.slice p' (1 + K) c', rfl, ?_, fun b hb => ?_, ?_⟩
  · rw [Nat.add_comm 1 K]
    refine IntsAt.of_owns (base := w.heap.size) ?_
    unfold keyI
    rw [List.length_cons, List.length_take, HL.out, Nat.min_eq_left hk]
    exact HO2
  · exact World.ownsRow.lt HO.out b hb
  · exact ((Below.refl w.heap.size w).alloc (Nat.le_refl _) _).trans (HK.out.toBelow (by simp) (fun i hi => by have := own_is hi; omega))
end -- RcA

end Go.Proofs.YtlmpagicjgldkaaGreat
