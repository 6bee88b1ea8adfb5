/-
  What the laws of layer 5 use: bytesOf, sum.
-/
import Derived.Test.YtaaahbpeaamjgaaCodeUa
namespace Go.Proofs.Ytaaahbpeaamjgaa
open Go.RowKit Go.Maps
set_option linter.unusedVariables false
set_option maxRecDepth 100000
set_option maxHeartbeats 2000000

/-- Append of one row's header; only memory bounds it. -/
theorem app_head {ops : Array Oper} {rest : List Oper} {o : Oper} {a : Act} {Q : Exit → Act → World → Prop} {W : World}
    (hgd : o.guard = none) (s x : Operand) (ho : o.op = .call { callee := .builtin .append, args := #[s, x], argTypes := #[23, 23] })
    (base n : Nat) (v : Value) (us : List Value) (hs : a.eval s = v) (hown : W.ownsRow base 34 1 v n us) (u : Value) (h1 : u.oneCell' = true)
    (hx : a.eval x = .slice (some ⟨W.heap.size, 0, none⟩) 1 1) (hn : n < 5000000000000) (hbase : base ≤ W.heap.size)
    (h : ∀ g' c' w', w'.ownsRow base 34 1 (.slice (some ⟨g', 0, none⟩) (n + 1) c') (n + 1) (us ++ [u]) → Kept (fun k => v.ownBlock = some k) W w' → W.heap.size < w'.heap.size → (v.ownBlock = some g' ∨ W.heap.size < g') →
      wpList Try.prog ops Q rest (a.put o.dst (.slice (some ⟨g', 0, none⟩) (n + 1) c')) w') : wpList Try.prog ops Q (o :: rest) a (W.alloc (.cells #[u] 34)) := by
  obtain ⟨i, hi, hz, hsize, hbytes⟩ := info_parts infoR
  rw [← hsize] at hown
  obtain ⟨g', c', w', hr, h2, h3, h4⟩ := run_app (P := Try.prog) (w := W.alloc (.cells #[u] 34)) base 23 o.type 34 i (.slice none 0 0) Try.underlying23 hi hz (by rw [hsize]; rfl) v n us (hown.alloc _) W.heap.size 0 1 1 [u] (by simp [hsize]) (by omega) (fun j y hj => by
      rw [add_zero_off]
      exact (World.cell?_alloc_new W _ _ j).trans (by simpa using hj)) (by simpa using h1) (by omega) (by rw [hbytes]; omega) (by simp; omega)
  rw [hsize] at h2
  refine wpList_plain hgd fun K hK => ?_
  have h5 := h g' c' w' h2 ⟨h3.os, h3.tape, h3.output, Nat.le_trans (by simp) h3.size, fun k hk hn => (h3.block k (by simp; omega) hn).trans (Below.heap_alloc W _ k hk)⟩
    (Nat.lt_of_lt_of_le (by simp) h3.size) (h4.imp id (fun q => by simp at q; omega))
  unfold Oper.wp execOp
  simp only [ho, resolve, invoke, builtin, Sem.run_bind, Sem.run_pure, Result.andThen_ok, List.map_toArray, List.map_cons, List.map_nil, hs, hx, hr]
  exact hK _ _ h5

theorem bytesOf_any (w : World) (v : Value) (hs : List (Int × List B)) (hv : HeldAt w v hs) (hl : hs.length ≤ 4500000000000) :
    Calls Try.prog 7 #[v] w fun e w' => ∃ v, e = .returned v ∧ RowsIn w w' v (hRow hs) ∧ Below w.heap.size w w' := by
  obtain ⟨p, cap, rfl, hcap, hh⟩ := hv
  have HH := Lib.hid hh
  clear hh
  go_enter Try.func7, Try.ntmps7
  go_wp2
  go_loopw [3, 4] (fun v i wr => ∃ m : Nat, m ≤ hs.length ∧ i = .int .i64 (m : Int) ∧ RowsIn w wr v (hRow (hs.take m)) ∧ Below w.heap.size w wr) (fun _ i _ => hs.length - (intOf i).toNat)
  case atStart => exact ⟨0, Nat.zero_le _, rfl, ⟨[], World.ownsRow_nil _ _ _ _, fun i z h => by simp at h⟩, Below.refl _ _⟩
  case round =>
    obtain ⟨m, hm, rfl, hr, hB⟩ := hrel
    have HR := Lib.hid hr
    have HB := Lib.hid hB
    have hsr := hB.size
    clear hr
    by_cases hlt : m < hs.length
    · obtain ⟨gh, oh, rfl, hhc⟩ := HH.out (by omega)
      obtain ⟨x1, u, x2, x3⟩ := hhc m hlt
      obtain ⟨pu, cu, rfl⟩ := x3.shape
      obtain ⟨lm, hlm⟩ : ∃ lm, (hs.getD m (0, [])).2.length = lm := ⟨_, rfl⟩
      rw [hlm] at x2
      have HX3 := Lib.hid x3
      have HLM := Lib.hid hlm
      have y2 := (hB.cell (p := ⟨gh, oh + m * 2 + 1, none⟩) (blt x2)).trans x2
      have HS := Lib.hid (hRow_snoc hlt)
      obtain ⟨us, ho, hz⟩ := HR.out
      have hul : (hRow (hs.take m)).length = m := by simp [hRow]; omega
      rw [hul] at ho
      have HO := Lib.hid ho
      have HZ := Lib.hid hz
      clear x1 x2 x3 hhc hB hlm ho hz hul
      go_wp2_with (at_builtin; refine app_head rfl _ _ rfl w.heap.size m _ us rfl HO.out _ rfl rfl (by omega) hsr ?_; intro g' c' w6 hR6 hk6 hs6 hg6)
      go_roundw
      case rel =>
        refine ⟨m + 1, by omega, by go_num, ?_, HB.out.trans (hk6.toBelow (by omega) (fun i h => (HO.out.lt i h).1))⟩
        rw [← HS.out]
        exact rowsIn_snoc (by simp [hRow]; omega) (by have := HO.out.1; omega) HZ.out (by rw [← HLM.out]; exact HX3.out) hR6
      case measure => simp [intOf]; omega
    · obtain rfl : m = hs.length := by omega
      have hr := HR.out
      rw [List.take_length] at hr
      have HR2 := Lib.hid hr
      clear hr
      go_wp2
      go_ret
      exact ⟨_, rfl, HR2.out, HB.out⟩

/-- Rows, added. -/
def addR (a b : List B) (wide : Nat) : List B := rowL wide fun j => a.getD j 0 + b.getD j 0
def addL (n : Nat) (a b : List (List B)) (wide : Nat) : List (List B) := (List.range n).map fun i => addR (a.getD i []) (b.getD i []) wide
theorem addL_len (n : Nat) (a b : List (List B)) (wide : Nat) : (addL n a b wide).length = n := by simp [addL]
theorem addL_succ (n : Nat) (a b : List (List B)) (wide : Nat) : addL (n + 1) a b wide = addL n a b wide ++ [addR (a.getD n []) (b.getD n []) wide] := by simp [addL, List.range_succ]
theorem addR_len (a b : List B) (wide : Nat) : (addR a b wide).length = wide := rowL_len _ _

theorem sum_any (w : World) (va vb : Value) (la lb : List (List B)) (n wide : Nat) (ha : RowsAt w va la) (hb : RowsAt w vb lb) (hla : la.length = n) (hlb : lb.length = n) (hn : n ≤ 1000000000)
    (hwa : ∀ i, i < n → (la.getD i []).length = wide) (hwb : ∀ i, i < n → (lb.getD i []).length = wide) (hw : wide ≤ 1000000000) :
    Calls Try.prog 13 #[va, vb] w fun e w' => ∃ v, e = .returned v ∧ RowsOwn w' w.heap.size v (addL n la lb wide) ∧ Below w.heap.size w w' := by
  obtain ⟨pa, ca, rfl, hha⟩ := ha
  obtain ⟨pb, cb, rfl, hhb⟩ := hb
  rw [hla] at hha ⊢
  rw [hlb] at hhb ⊢
  have HA := Lib.hid hha
  have HB := Lib.hid hhb
  have HWA := Lib.hid hwa
  have HWB := Lib.hid hwb
  clear hha hhb hwa hwb hla hlb
  go_enter Try.func13, Try.ntmps13
  go_wp2
  go_loopw [5, 6, 7, 8] (fun v i _ _ wr => ∃ m : Nat, m ≤ n ∧ i = .int .i64 (m : Int) ∧ RowsOwn wr w.heap.size v (addL m la lb wide) ∧ Below w.heap.size w wr) (fun _ i _ _ _ => n - (intOf i).toNat)
  case atStart => exact ⟨0, Nat.zero_le _, rfl, RowsOwn.nil _ _, Below.refl _ _⟩
  case round =>
    obtain ⟨w0, rfl⟩ : ∃ w0, w0 = wr := ⟨_, rfl⟩
    obtain ⟨m, hm, rfl, hr, hB⟩ := hrel
    have HR := Lib.hid hr
    have HBB := Lib.hid hB
    have hsr := hB.size
    clear hr
    by_cases hlt : m < n
    · obtain ⟨ga, oa, rfl, hca⟩ := HA.out (by omega)
      obtain ⟨gb, ob, rfl, hcb⟩ := HB.out (by omega)
      obtain ⟨ua, x, xa⟩ := hca m hlt
      obtain ⟨ub, y, yb⟩ := hcb m hlt
      obtain ⟨qa, da, rfl⟩ := xa.shape
      obtain ⟨qb, db, rfl⟩ := yb.shape
      rw [HWA.out m hlt] at x
      rw [HWB.out m hlt] at y
      have HXA := Lib.hid xa
      have HYB := Lib.hid yb
      have lx := blt x
      have ly := blt y
      have x' := (hB.cell (p := ⟨ga, oa + m, none⟩) lx).trans x
      have y' := (hB.cell (p := ⟨gb, ob + m, none⟩) ly).trans y
      have hmk := run_make_one (w := w0) 34 5 (.int .u8 0) 1 Try.underlying34 infoB rfl (by omega) wide (by omega)
      clear hca hcb xa yb x y hB
      go_wp2
      clear hmk
      have kA := Kept.alloc (fun _ => False) w0 (.cells (Array.replicate wide (.int .u8 0)) 5)
      have kA1 := Kept.alloc (fun i => i = w0.heap.size) w0 (.cells (Array.replicate wide (.int .u8 0)) 5)
      have HF := Lib.hid (RowF.made w0 wide)
      have sA : w0.heap.size < (w0.alloc (.cells (Array.replicate wide (.int .u8 0)) 5)).heap.size := by simp
      have x1 := (kA.at0 (oa + m) (b := ga) (by omega)).trans x'
      have y1 := (kA.at0 (ob + m) (b := gb) (by omega)).trans y'
      have HBA := Lib.hid (HBB.out.trans (kA.toBelow (by omega) (fun _ h => h.elim)))
      clear x' y'
      generalize (w0.alloc (.cells (Array.replicate wide (.int .u8 0)) 5)) = w1 at *
      have HMS := Lib.hid (show List.replicate wide (0 : B) = progL wide (fun j => (la.getD m []).getD j 0 + (lb.getD m []).getD j 0) (fun _ => 0) 0 by
        rw [progL_zero]; unfold rowL; apply List.ext_getElem <;> simp)
      go_loopw [8] (fun i wr => ∃ t : Nat, t ≤ wide ∧ i = .int .i64 (t : Int) ∧ RowF wr w0.heap.size (progL wide (fun j => (la.getD m []).getD j 0 + (lb.getD m []).getD j 0) (fun _ => 0) t) ∧ Kept (fun i => i = w0.heap.size) w1 wr) (fun i _ => wide - (intOf i).toNat)
      case atStart => exact ⟨0, Nat.zero_le _, rfl, by rw [← HMS.out]; exact HF.out, Kept.refl _ _⟩
      case round =>
        obtain ⟨t, ht, rfl, hr, kk⟩ := hrel
        have HR2 := Lib.hid hr
        clear hr
        by_cases hlt2 : t < wide
        · have HXA' := HXA.out
          have HYB' := HYB.out
          obtain ⟨_, _, e1, hxa⟩ := HXA'
          obtain ⟨_, _, e2, hyb⟩ := HYB'
          cases e1
          cases e2
          obtain ⟨g1, o1, rfl, hx1⟩ := hxa (by rw [HWA.out m hlt]; omega)
          obtain ⟨g2, o2, rfl, hy1⟩ := hyb (by rw [HWB.out m hlt]; omega)
          have z1 := hx1 t (by rw [HWA.out m hlt]; omega)
          have z2 := hy1 t (by rw [HWB.out m hlt]; omega)
          have l1 := blt z1
          have l2 := blt z2
          have b1 := HBA.out.cell (p := ⟨g1, o1 + t, none⟩) (by simpa using l1)
          have b2 := HBA.out.cell (p := ⟨g2, o2 + t, none⟩) (by simpa using l2)
          have d1 := (kk.at1 (o1 + t) (b := g1) (by omega) (by omega)).trans (b1.trans z1)
          have d2 := (kk.at1 (o2 + t) (b := g2) (by omega) (by omega)).trans (b2.trans z2)
          have d3 := (kk.at1 (oa + m) (b := ga) (by omega) (by omega)).trans x1
          have d4 := (kk.at1 (ob + m) (b := gb) (by omega) (by omega)).trans y1
          have d5 := HR2.out.cell (i := t) (by rw [progL_len]; exact hlt2)
          have d6 := HR2.out.fz t
          have HS := Lib.hid (progL_set (fun j => (la.getD m []).getD j 0 + (lb.getD m []).getD j 0) (fun _ => 0) hlt2)
          clear hxa hyb hx1 hy1 z1 z2 b1 b2
          obtain ⟨p, hp⟩ : ∃ p, (la.getD m []).getD t 0 = p := ⟨_, rfl⟩
          obtain ⟨q, hq⟩ : ∃ q, (lb.getD m []).getD t 0 = q := ⟨_, rfl⟩
          rw [hp] at d1
          rw [hq] at d2
          have HPQ := Lib.hid (show (la.getD m []).getD t 0 + (lb.getD m []).getD t 0 = p + q by rw [hp, hq])
          have hxor := u8_xor_nat p.v q.v p.lt q.lt
          clear hp hq
          go_wp2_with fail
          refine wp_quiet_store 18 (by kernel_rfl) (by kernel_rfl) ?_
          simp only [List.take_succ_cons, List.take_zero, List.drop_succ_cons, List.drop_zero]
          repeat (quiet_step (fail))
          refine wpQuiet_nil ?_
          rintro w5 ⟨nq, rfl⟩
          go_wp2
          refine calmQ.normal ?_
          go_wp2
          go_roundw
          case rel =>
            refine ⟨t + 1, by omega, by go_num, ?_, (kk.drewN nq).trans (Kept.set1 _ _ _ _) (fun _ _ h => h)⟩
            have := (show RowF (World.drewN _ nq) w0.heap.size (progL wide (fun j => (la.getD m []).getD j 0 + (lb.getD m []).getD j 0) (fun _ => 0) t) from HR2.out).set (i := t) (by rw [progL_len]; exact hlt2) (p + q)
            have e := HS.out
            rw [HPQ.out] at e
            rw [e] at this
            exact this
          case measure => simp [intOf]; omega
        · obtain rfl : t = wide := by omega
          have hr := HR2.out
          rw [progL_all] at hr
          have HR3 := Lib.hid hr
          have HRO := Lib.hid (HR.out.kept (kA1.trans kk (fun _ _ h => h)) (fun k hk hb e => by omega) (fun k hk e => by omega))
          have HBO := Lib.hid (HBB.out.trans ((kA1.trans kk (fun _ _ h => h)).toBelow (by omega) (fun i h => by omega)))
          have hgl := HR3.out.lt
          have hs2 := HBO.out.size
          have HLV := Lib.hid (HR.out.lt)
          have HBY := Lib.hid (show BytesAt wr (.slice (some ⟨w0.heap.size, 0, none⟩) t t) (addR (la.getD m []) (lb.getD m []) t) by have := HR3.out.toBytes t; rw [rowL_len] at this; exact this)
          clear hr
          go_wp2_with (at_builtin; refine app_row rfl _ _ rfl w.heap.size m _ _ (addL_len _ _ _ _) rfl HRO.out (.slice (some ⟨w0.heap.size, 0, none⟩) t t) _ HBY.out (fun b hb => own_is hb ▸ ⟨hgl, fun h => by have := (HLV.out _ h).2; omega⟩) rfl rfl (by omega) (by omega) ?_; intro g' c' w6 hR6 hk6 hs6 hg6)
          go_roundw
          case rel =>
            refine ⟨m + 1, by omega, by go_num, by rw [addL_succ]; exact hR6, HBO.out.trans (hk6.toBelow (by omega) (fun i h => (HLV.out i h).1))⟩
          case measure => simp [intOf]; omega
    · obtain rfl : m = n := by omega
      go_wp2
      go_ret
      exact ⟨_, rfl, HR.out, HBB.out⟩

end Go.Proofs.Ytaaahbpeaamjgaa
