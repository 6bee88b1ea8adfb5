/-
  Walks of layer 22 (tell): Tick.
-/
import Derived.Test.YtacbmpffpfaciaaTellB
import Derived.Deep.RegionHeld3
namespace Go.Proofs.Ytacbmpffpfaciaa
open Go.RowKit Go.Maps Go.Shelf Go.Sort

set_option maxRecDepth 100000
set_option maxHeartbeats 2000000

section
variable {bt be bv br b bm n : Nat} {stream every seq : Int} {f : Int → Int}

theorem Kept.setCell {S : Nat → Prop} {a w : World} (h : Kept S a w) {p : Addr} (hp : a.heap.size ≤ p.block) (u : Value) : Kept S a (w.setCell p u) :=
  ⟨h.os, h.tape, h.output, Nat.le_trans h.size (by simp [World.setCell]), fun k hk hn => (Below.heap_setCell w p u k (by omega)).trans (h.block k hk hn)⟩
theorem Kept.setCell' {S : Nat → Prop} {a w : World} (h : Kept S a w) {p : Addr} (hp : S p.block) (u : Value) : Kept S a (w.setCell p u) :=
  ⟨h.os, h.tape, h.output, Nat.le_trans h.size (by simp [World.setCell]), fun k hk hn => (Below.heap_setCell w p u k (fun e => hn (e ▸ hp))).trans (h.block k hk hn)⟩

theorem tick_no (w : World) (h : TellerAt w bt be bv br b bm n stream every seq f) (now : Int) (ht : tickB now every seq n f = false) :
    Calls Try.prog 20 #[.pointer (some ⟨bt, 0, none⟩), .int .i64 now] w fun e w' => e = .returned (.tuple #[.agg #[.int .i64 0, .int .i64 0, .int .i64 0, .slice none 0 0], .bool false]) ∧ Kept (fun _ => False) w w' := by
  have hA : TellerAt (w.alloc (.cells #[.int .i64 0, .int .i64 0, .int .i64 0, .slice none 0 0] 48)) bt be bv br b bm n stream every seq f := h.kept (Kept.alloc (fun _ => False) _ _) (fun i h => h.elim)
  have HA := Lib.hid hA
  have d0 := hA.c0
  have HT := Lib.hid ht
  have HH := Lib.hid (hold_any _ hA now)
  clear hA h ht
  go_enter Try.func20, Try.ntmps20
  go_wp2_with fail
  refine (tmade_yes _ HA.out).mono ?_
  rintro e w' ⟨rfl, rfl⟩
  go_wp2_with fail
  refine HH.out.mono ?_
  rintro e w1 ⟨rfl, hk⟩
  rw [HT.out]
  have k0 : Kept (fun _ => False) w w1 := (Kept.alloc (fun _ => False) w _).trans hk (fun _ _ h => h)
  have hblk : w1.heap[w.heap.size]? = some (.cells #[.int .i64 0, .int .i64 0, .int .i64 0, .slice none 0 0] 48 (0, 0)) := (hk.block _ (by simp) (fun h => h)).trans (World.alloc_heap_new w _)
  have x0 : w1.cell? ⟨w.heap.size, 0, none⟩ = some (.int .i64 0) := by simp [World.cell?, hblk]
  have x1 : w1.cell? ⟨w.heap.size, 1, none⟩ = some (.int .i64 0) := by simp [World.cell?, hblk]
  have x2 : w1.cell? ⟨w.heap.size, 2, none⟩ = some (.int .i64 0) := by simp [World.cell?, hblk]
  have x3 : w1.cell? ⟨w.heap.size, 3, none⟩ = some (.slice none 0 0) := by simp [World.cell?, hblk]
  have xf : ∀ o, w1.frozen? ⟨w.heap.size, o, none⟩ = false := by intro o; simp [World.frozen?, hblk]
  have xs : w.heap.size < w1.heap.size := by have := hk.size; simp at this; omega
  clear hblk hk
  go_wp2
  refine bodyPost_ret (v := .tuple #[.agg #[.int .i64 0, .int .i64 0, .int .i64 0, .slice none 0 0], .bool false]) ?_ rfl ⟨rfl, ?_⟩
  · simp [results, Try.f20, go_sem, x0, x1, x2, x3]
  · exact (((k0.setCell (Nat.le_refl _) _).setCell (Nat.le_refl _) _).setCell (Nat.le_refl _) _).setCell (Nat.le_refl _) _

theorem HistAt.drewK {w : World} {b bm n : Nat} {f : Int → Int} (h : HistAt w b bm n f) : HistAt w.drew b bm n f := h.kept (S := fun _ => False) ((Kept.refl _ w).drew) (fun h => h) (fun h => h)

theorem TellerAt.drewK {w : World} (h : TellerAt w bt be bv br b bm n stream every seq f) : TellerAt w.drew bt be bv br b bm n stream every seq f := h.kept (S := fun _ => False) ((Kept.refl _ w).drew) (fun _ h => h.elim)

theorem TellerAt.setSeq {w : World} (h : TellerAt w bt be bv br b bm n stream every seq f) (s' : Int) (h1 : 0 ≤ s') (h2 : s' ≤ 2147483647) : TellerAt (w.setCell ⟨bt, 4, none⟩ (.int .i64 s')) bt be bv br b bm n stream every s' f := by
  have hb : ∀ i, i ≠ bt → (w.setCell ⟨bt, 4, none⟩ (.int .i64 s')).heap[i]? = w.heap[i]? := fun i hi => Below.heap_setCell w ⟨bt, 4, none⟩ _ i hi
  have hk : Kept (fun i => i = bt) w (w.setCell ⟨bt, 4, none⟩ (.int .i64 s')) := (Kept.refl (fun i => i = bt) w).setCell' (S := fun i => i = bt) (p := ⟨bt, 4, none⟩) rfl _
  refine ⟨?_, (hb _ h.ne_be).trans h.evr, (hb _ h.ne_bv).trans h.var, (hb _ h.ne_br).trans h.rules, h.hist.kept hk h.ne_b h.ne_bm, h.ev1, h.ev2, h1, h2⟩
  have hc := h.cells
  show (w.heap.modify bt _)[bt]? = _
  rw [Array.getElem?_modify, if_pos rfl, hc]
  rfl

theorem TellerAt.lts {w : World} (h : TellerAt w bt be bv br b bm n stream every seq f) : bt < w.heap.size ∧ be < w.heap.size ∧ bv < w.heap.size ∧ br < w.heap.size ∧ b < w.heap.size ∧ bm < w.heap.size :=
  ⟨h.lt, (Array.getElem?_eq_some_iff.1 h.evr).1, (Array.getElem?_eq_some_iff.1 h.var).1, (Array.getElem?_eq_some_iff.1 h.rules).1, h.hist.lt, h.hist.ltm⟩

theorem ownsRow_weaken {w : World} {base base' size k : Nat} {e : TypeId} {v : Value} {xs : List Value} (h : w.ownsRow base e size v k xs) (hb : base' ≤ base) : w.ownsRow base' e size v k xs := by
  refine ⟨h.1, ?_⟩
  rcases h.2 with hn | ⟨g, cap, cur, hv, hg, rest⟩
  · exact .inl hn
  · exact .inr ⟨g, cap, cur, hv, Nat.le_trans hb hg, rest⟩

theorem setNote_cell {w : World} {k j o : Nat} {x0 x1 x2 x3 v : Value} (hj : j ≠ k) (h : w.cell? ⟨j, o, none⟩ = some v) :
    ((((w.setCell ⟨k, 0, none⟩ x0).setCell ⟨k, 1, none⟩ x1).setCell ⟨k, 2, none⟩ x2).setCell ⟨k, 3, none⟩ x3).cell? ⟨j, o, none⟩ = some v := by
  have e : ∀ (W : World) (i : Nat) (x : Value), (W.setCell ⟨k, i, none⟩ x).cell? ⟨j, o, none⟩ = W.cell? ⟨j, o, none⟩ := fun W i x => World.cell?_of_block (w := W) (Below.heap_setCell W ⟨k, i, none⟩ x j hj)
  rw [e, e, e, e]
  exact h

theorem noteBox {w : World} {k : Nat} (h : w.heap[k]? = some (.cells #[.int .i64 0, .int .i64 0, .int .i64 0, .slice none 0 0] 48 (0, 0))) :
    w.cell? ⟨k, 0, none⟩ = some (.int .i64 0) ∧ w.cell? ⟨k, 1, none⟩ = some (.int .i64 0) ∧ w.cell? ⟨k, 2, none⟩ = some (.int .i64 0) ∧ w.cell? ⟨k, 3, none⟩ = some (.slice none 0 0) ∧ ∀ o, w.frozen? ⟨k, o, none⟩ = false := by
  refine ⟨?_, ?_, ?_, ?_, fun o => ?_⟩ <;> simp [World.cell?, World.frozen?, h]

theorem tick_yes (w : World) (h : TellerAt w bt be bv br b bm n stream every seq f) (now : Int) (ht : tickB now every seq n f = true) :
    Calls Try.prog 20 #[.pointer (some ⟨bt, 0, none⟩), .int .i64 now] w fun e w' => ∃ v, e = .returned (.tuple #[.agg #[.int .i64 stream, .int .i64 (seq + 1), .int .i64 (n : Int), v], .bool true]) ∧
      w'.ownsRow w.heap.size 32 2 v (countsOf n f).length (flat (countsOf n f)) ∧ TellerAt w' bt be bv br b bm n stream every (seq + 1) emptyF ∧ Kept (fun i => i = bt ∨ i = bm) w w' := by
  have hsq : seq < 2147483647 := by
    have := ht
    unfold tickB at this
    simp at this
    exact this.2
  have hA : TellerAt (w.alloc (.cells #[.int .i64 0, .int .i64 0, .int .i64 0, .slice none 0 0] 48)) bt be bv br b bm n stream every seq f := h.kept (Kept.alloc (fun _ => False) _ _) (fun i h => h.elim)
  have HA := Lib.hid hA
  have d0 := hA.c0
  have HT := Lib.hid ht
  have HH := Lib.hid (hold_any _ hA now)
  have hs0 := h.sq1
  have HLT := Lib.hid h.lts
  clear hA h ht
  go_enter Try.func20, Try.ntmps20
  go_wp2_with fail
  refine (tmade_yes _ HA.out).mono ?_
  rintro e w' ⟨rfl, rfl⟩
  go_wp2_with fail
  refine HH.out.mono ?_
  rintro e w1 ⟨rfl, hk⟩
  rw [HT.out]
  have k0 : Kept (fun _ => False) w w1 := (Kept.alloc (fun _ => False) w _).trans hk (fun _ _ h => h)
  have hA1 := HA.out.kept hk (fun i h => h.elim)
  have hblk : w1.heap[w.heap.size]? = some (.cells #[.int .i64 0, .int .i64 0, .int .i64 0, .slice none 0 0] 48 (0, 0)) := (hk.block _ (by simp) (fun h => h)).trans (World.alloc_heap_new w _)
  have y4 := hA1.c4
  have yf := hA1.fz 4
  have HA1 := Lib.hid hA1
  have HBK := Lib.hid hblk
  clear hblk hk hA1
  go_wp2_with fail
  have hA2 := HA1.out.setSeq (seq + 1) (by omega) (by omega)
  have k2 : Kept (fun i => i = bt ∨ i = bm) w (w1.setCell ⟨bt, 4, none⟩ (.int .i64 (seq + 1))) := (k0.mono (fun _ _ h => h.elim)).setCell' (p := ⟨bt, 4, none⟩) (.inl rfl) _
  have hbt : bt ≠ w.heap.size := by
    rintro rfl
    have := HA1.out.cells
    rw [HBK.out] at this
    simp at this
  have hblk2 : (w1.setCell ⟨bt, 4, none⟩ (.int .i64 (seq + 1))).heap[w.heap.size]? = some (.cells #[.int .i64 0, .int .i64 0, .int .i64 0, .slice none 0 0] 48 (0, 0)) := (Below.heap_setCell w1 ⟨bt, 4, none⟩ _ _ (Ne.symm hbt)).trans HBK.out
  generalize w1.setCell ⟨bt, 4, none⟩ (.int .i64 (seq + 1)) = W2 at *
  clear y4 yf
  have x1 := hA2.c1
  have x2 := hA2.c2
  have x3 := hA2.c3
  have x4 := hA2.c4
  have hlt := hA2.lt
  have hnm : ¬ bt = bm := fun e => hA2.ne_bm e.symm
  have HA2 := Lib.hid hA2
  have HB2 := Lib.hid hblk2
  have hbx : ¬ w.heap.size = bm := by
    intro e
    obtain ⟨es, ck, hm, _⟩ := HA2.out.hist.map
    rw [← e, HB2.out] at hm
    cases hm
  have hblk3 : ∀ w3, Kept (fun i => i = bm) W2.drew w3 → w3.heap[w.heap.size]? = some (.cells #[.int .i64 0, .int .i64 0, .int .i64 0, .slice none 0 0] 48 (0, 0)) := fun w3 hk =>
    (hk.block _ (Array.getElem?_eq_some_iff.1 HB2.out).1 hbx).trans HB2.out
  clear hA2 hblk2
  go_region_held3 (fun w' => w'.cell? ⟨bt, 1, none⟩ = some (.pointer (some ⟨b, 0, none⟩)) ∧ w'.cell? ⟨bt, 2, none⟩ = some (.int .i64 stream) ∧ w'.cell? ⟨bt, 3, none⟩ = some (.int .i64 (n : Int)) ∧ w'.cell? ⟨bt, 4, none⟩ = some (.int .i64 (seq + 1)))
    (first | exact ⟨x1, x2, x3, x4⟩ | exact ⟨z1, z2, z3, z4⟩ | exact ⟨setNote_cell hbt z1, setNote_cell hbt z2, setNote_cell hbt z3, setNote_cell hbt z4⟩)
    ((go_at_call 15; refine (take_any _ b bm n f (by first | exact HA2.out.hist | exact HA2.out.hist.drewK)).mono ?_; rintro e w3 ⟨v, rfl, hr, hn, hh, hk⟩; obtain ⟨p, cp, rfl⟩ := (countsAt_of_row hr).shape; have HR := Lib.hid hr; have HN := Lib.hid hn; have H3 := Lib.hid hh; clear hr hn hh; obtain ⟨u0, u1, u2, u3, uf⟩ := noteBox (hblk3 w3 hk); have z1 := (hk.cell (p := ⟨bt, 1, none⟩) hlt hnm).trans x1; have z2 := (hk.cell (p := ⟨bt, 2, none⟩) hlt hnm).trans x2; have z3 := (hk.cell (p := ⟨bt, 3, none⟩) hlt hnm).trans x3; have z4 := (hk.cell (p := ⟨bt, 4, none⟩) hlt hnm).trans x4))
  have HL := HLT.out
  have hs2 : w.heap.size < W2.heap.size := (Array.getElem?_eq_some_iff.1 HB2.out).1
  have hz := hk.size
  go_wp2
  have q4 : Kept (fun i => i = w.heap.size) w3 ((((w3.setCell ⟨w.heap.size, 0, none⟩ (.int .i64 stream)).setCell ⟨w.heap.size, 1, none⟩ (.int .i64 (seq + 1))).setCell ⟨w.heap.size, 2, none⟩ (.int .i64 (n : Int))).setCell ⟨w.heap.size, 3, none⟩ (.slice p (countsOf n f).length cp)) :=
    (((((Kept.refl (fun i => i = w.heap.size) w3).setCell' (S := fun i => i = w.heap.size) (p := ⟨w.heap.size, 0, none⟩) rfl _).setCell' (S := fun i => i = w.heap.size) (p := ⟨w.heap.size, 1, none⟩) rfl _).setCell' (S := fun i => i = w.heap.size) (p := ⟨w.heap.size, 2, none⟩) rfl _).setCell' (S := fun i => i = w.heap.size) (p := ⟨w.heap.size, 3, none⟩) rfl _)
  have hT3 : TellerAt w3 bt be bv br b bm n stream every (seq + 1) emptyF := (HA2.out.kept (S := fun _ => False) ((Kept.refl _ W2).drew) (fun i h => h.elim)).tally hk H3.out
  refine bodyPost_ret (v := .tuple #[.agg #[.int .i64 stream, .int .i64 (seq + 1), .int .i64 (n : Int), .slice p (countsOf n f).length cp], .bool true]) ?_ rfl ⟨_, rfl, ?_, ?_, ?_⟩
  · simp [results, Try.f20, go_sem, u0, u1, u2, u3]
  · refine ownsRow_weaken (ownsRow_keptS HR.out q4 ?_) (Nat.le_of_lt hs2)
    intro g hg
    rcases HR.out.2 with ⟨e, _⟩ | ⟨g', cap, cur, e, hb, _⟩
    · rw [e] at hg; simp [Value.ownBlock] at hg
    · rw [e] at hg
      have : g' = g := by simpa [Value.ownBlock] using hg
      have hb' : W2.heap.size ≤ g' := hb
      omega
  · exact hT3.kept q4 (fun i (e : i = _) => by omega)
  · exact (k2.trans ((Kept.refl (fun i => i = bt ∨ i = bm) W2).drew.trans hk (fun i _ e => .inr e)) (fun _ _ h => h)).trans q4 (fun i h (e : i = _) => by omega)

end
end Go.Proofs.Ytacbmpffpfaciaa
