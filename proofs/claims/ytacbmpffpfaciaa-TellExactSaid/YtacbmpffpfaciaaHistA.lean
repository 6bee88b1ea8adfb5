/-
  Walks of layer 21 (hist): the leaves: made, within, New, count.
-/
import Derived.Test.YtacbmpffpfaciaaHistPlain
import Derived.Test.YtacbmpffpfaciaaChecked
import Derived.WalkKit
import Derived.OwnWalkIn
import Derived.WalkLawsBesides
import Derived.WalkSpells
import Derived.BigQuiet
import Derived.Deep.QuietTactic
import Derived.IntWalk
import Derived.Lib.Hide
import Derived.Maps.OwnOps
import Derived.Maps.RangeWalk
import Derived.StillTailTactics
import Derived.Outline
namespace Go.Proofs.Ytacbmpffpfaciaa
open Go.RowKit Go.Maps

/-- What turns from w to w': among the blocks of w those of S alone. -/
structure Kept (S : Nat → Prop) (w w' : World) : Prop where
  os : w'.os = w.os
  tape : w'.tape = w.tape
  output : w'.output = w.output
  size : w.heap.size ≤ w'.heap.size
  block : ∀ k, k < w.heap.size → ¬ S k → w'.heap[k]? = w.heap[k]?

theorem Kept.refl (S : Nat → Prop) (w : World) : Kept S w w := ⟨rfl, rfl, rfl, Nat.le_refl _, fun _ _ _ => rfl⟩
theorem Kept.trans {S S' : Nat → Prop} {a b c : World} (h : Kept S a b) (k : Kept S' b c) (hs : ∀ i, i < a.heap.size → S' i → S i) : Kept S a c :=
  ⟨k.os.trans h.os, k.tape.trans h.tape, k.output.trans h.output, Nat.le_trans h.size k.size, fun i hi hn => (k.block i (Nat.lt_of_lt_of_le hi h.size) (fun hh => hn (hs i hi hh))).trans (h.block i hi hn)⟩
theorem Kept.mono {S S' : Nat → Prop} {a b : World} (h : Kept S a b) (hs : ∀ i, i < a.heap.size → S i → S' i) : Kept S' a b :=
  ⟨h.os, h.tape, h.output, h.size, fun i hi hn => h.block i hi (fun hh => hn (hs i hi hh))⟩
theorem Kept.grown {w w' : World} {row : Option Nat} (h : w.grownBy w' row) : Kept (fun k => some k = row) w w' := ⟨h.os, h.tape, h.output, h.size, fun k hk hn => h.block k hk hn⟩
theorem Kept.below {w w' : World} (h : Below w.heap.size w w') : Kept (fun _ => False) w w' := ⟨h.os, h.tape, h.output, h.size, fun k hk _ => h.block k hk⟩
theorem Kept.toBelow {S : Nat → Prop} {w w' : World} (h : Kept S w w') {B : Nat} (hB : B ≤ w.heap.size) (hs : ∀ i, S i → B ≤ i) : Below B w w' :=
  ⟨h.os, h.tape, h.output, h.size, fun k hk => h.block k (Nat.lt_of_lt_of_le hk hB) (fun hh => by have := hs k hh; omega)⟩
theorem Kept.cell {S : Nat → Prop} {w w' : World} (h : Kept S w w') {p : Addr} (hp : p.block < w.heap.size) (hn : ¬ S p.block) : w'.cell? p = w.cell? p := World.cell?_of_block (w := w) (h.block p.block hp hn)
theorem Kept.alloc (S : Nat → Prop) (w : World) (o : Obj) : Kept S w (w.alloc o) := ⟨rfl, rfl, rfl, by simp, fun k hk _ => Below.heap_alloc w o k hk⟩
theorem Kept.drew {S : Nat → Prop} {a w : World} (h : Kept S a w) : Kept S a w.drew := ⟨h.os, h.tape, h.output, h.size, h.block⟩

/-- A region that draws its order: reads, then one call or store: walked in the order of the text (the world's spelling is the walk's). -/
theorem wp_still_tail {P : Program} {id : Nat} {Q : Exit → Act → World → Prop} {a : Act} {w : World} {l : List Oper} (n : Nat) (hm : P.follows .mixedOrders = true) (hB : Region.lexTailB .any l.toArray n = true)
    (h : wpStill P l.toArray w.drew (fun a' => wpList P l.toArray Q (l.drop n) a' w.drew) (l.take n) a) : (Code.region id l.toArray true).wp P Q a w := wp_region_still_tail n hm hB h

/-- A histogram lies at block b: its map at block bm, which reads as the tally f. -/
structure HistAt (w : World) (b bm n : Nat) (f : Int → Int) : Prop where
  cells : w.heap[b]? = some (.cells #[.map (some bm), .int .i64 (n : Int)] 69 (0, 0))
  map : w.ownsMap Try.prog 3 (plainElem Try.prog 3) bm 256 (tallyD n f)
  good : Good n f

theorem HistAt.c0 {w : World} {b bm n : Nat} {f : Int → Int} (h : HistAt w b bm n f) : w.cell? ⟨b, 0, none⟩ = some (.map (some bm)) := by simp [World.cell?, h.cells]
theorem HistAt.c1 {w : World} {b bm n : Nat} {f : Int → Int} (h : HistAt w b bm n f) : w.cell? ⟨b, 1, none⟩ = some (.int .i64 (n : Int)) := by simp [World.cell?, h.cells]
theorem HistAt.lt {w : World} {b bm n : Nat} {f : Int → Int} (h : HistAt w b bm n f) : b < w.heap.size := (Array.getElem?_eq_some_iff.1 h.cells).1
theorem HistAt.ltm {w : World} {b bm n : Nat} {f : Int → Int} (h : HistAt w b bm n f) : bm < w.heap.size := h.map.lt
theorem HistAt.ne {w : World} {b bm n : Nat} {f : Int → Int} (h : HistAt w b bm n f) : b ≠ bm := by
  rintro rfl
  obtain ⟨es, ck, hh, _⟩ := h.map
  rw [h.cells] at hh
  cases hh

theorem HistAt.kept {w w' : World} {b bm n : Nat} {f : Int → Int} {S : Nat → Prop} (h : HistAt w b bm n f) (hk : Kept S w w') (hb : ¬ S b) (hm : ¬ S bm) : HistAt w' b bm n f := by
  refine ⟨(hk.block b h.lt hb).trans h.cells, ?_, h.good⟩
  have hl := h.ltm
  obtain ⟨es, ck, hh, F, hs, hD⟩ := h.map
  exact ⟨es, ck, (hk.block bm hl hm).trans hh, F, hs, hD⟩

theorem ownsMap_shrink {w : World} {P : Program} {k : TypeId} {R : Value → Option (DataW Unit × List MemPlace)} {b n : Nat} {D : DataW Unit} (h : w.ownsMap P k R b n D) {m : Nat} (hm : Maps.size D ≤ m) : w.ownsMap P k R b m D := by
  obtain ⟨es, ck, hh, F, hs, hD⟩ := h
  refine ⟨es, ck, hh, F, ?_, hD⟩
  subst hD
  simpa [Maps.size, length_sorted] using hm

theorem wf64 {x : Int} (h1 : -9223372036854775808 ≤ x) (h2 : x ≤ 9223372036854775807) : (Lit.int .i64 x).wf = true := by
  simp [Lit.wf, IntKind.min, IntKind.max, IntKind.signed, IntKind.bits]; omega

set_option maxRecDepth 100000

/-- made: of a histogram. -/
theorem made_yes (w : World) (b bm n : Nat) (f : Int → Int) (h : HistAt w b bm n f) :
    Calls Try.prog 31 #[.pointer (some ⟨b, 0, none⟩)] w fun e w' => e = .returned (.bool true) ∧ w = w' := by
  have hc := h.c0
  clear h
  have e1 := fun (w : World) (m) => run_neq_map_nil (P := Try.prog) w 67 3 3 m Try.underlying67
  go_enter Try.func31, Try.ntmps31
  go_wp2
  go_ret
  exact ⟨rfl, rfl⟩

theorem made_nil (w : World) :
    Calls Try.prog 31 #[.pointer none] w fun e w' => e = .returned (.bool false) ∧ w = w' := by
  go_enter Try.func31, Try.ntmps31
  go_wp2
  go_ret
  exact ⟨rfl, rfl⟩

/-- New. -/
theorem new_no (w : World) (n : Int) (h : n < 1 ∨ 255 < n) :
    Calls Try.prog 9 #[.int .i64 n] w fun e w' => e = .returned (.tuple #[.pointer none, .int .i64 2]) ∧ w = w' := by
  rcases h with h | h
  · have h' : n ≤ 0 := by omega
    go_enter Try.func9, Try.ntmps9
    go_wp2
    go_ret2
    exact ⟨rfl, rfl⟩
  · have h' : ¬ n ≤ 0 := by omega
    go_enter Try.func9, Try.ntmps9
    go_wp2
    go_ret2
    exact ⟨rfl, rfl⟩

theorem new_yes (w : World) (n : Int) (h1 : 1 ≤ n) (h2 : n ≤ 255) :
    Calls Try.prog 9 #[.int .i64 n] w fun e w' => e = .returned (.tuple #[.pointer (some ⟨w.heap.size + 1, 0, none⟩), .int .i64 0]) ∧ (w.alloc (.map #[] 0)).alloc (.cells #[.map (some w.heap.size), .int .i64 n] 69) = w' := by
  have hmm := @run_makeMap Try.prog
  have h' : ¬ n ≤ 0 := by omega
  have h'' : ¬ 255 < n := by omega
  go_enter Try.func9, Try.ntmps9
  go_wp2
  go_ret2
  exact ⟨rfl, rfl⟩

/-- within. -/
theorem within_any (w : World) (b : Nat) (n c : Int) (hc : w.cell? ⟨b, 1, none⟩ = some (.int .i64 n)) :
    Calls Try.prog 35 #[.pointer (some ⟨b, 0, none⟩), .int .i64 c] w fun e w' => e = .returned (.bool (decide (1 ≤ c) && decide (c ≤ n))) ∧ w = w' := by
  by_cases h1 : 1 ≤ c
  · go_enter Try.func35, Try.ntmps35
    go_wp2
    go_ret
    exact ⟨by simp [h1], rfl⟩
  · go_enter Try.func35, Try.ntmps35
    go_wp2
    go_ret
    have h1' : decide (1 ≤ c) = false := decide_eq_false (by omega)
    exact ⟨by rw [h1']; rfl, rfl⟩

/-- count: 'if times > 0 { t[k] += times }'. -/
theorem count_zero (w : World) (bm : Nat) (k t : Int) (ht : t ≤ 0) :
    Calls Try.prog 37 #[.map (some bm), .int .i64 k, .int .i64 t] w fun e w' => e = .returned (.tuple #[]) ∧ w = w' := by
  go_enter Try.func37, Try.ntmps37
  go_wp2
  go_end0
  exact ⟨rfl, rfl⟩

theorem count_some (w : World) (bm n : Nat) (f : Int → Int) (k t : Int) (ht : 0 < t) (h1 : 1 ≤ k) (h2 : k ≤ n) (hg : Good n f) (htop : f k + t ≤ 1099511627776)
    (hown : w.ownsMap Try.prog 3 (plainElem Try.prog 3) bm 256 (tallyD n f)) :
    Calls Try.prog 37 #[.map (some bm), .int .i64 k, .int .i64 t] w fun e w' => e = .returned (.tuple #[]) ∧
      w'.ownsMap Try.prog 3 (plainElem Try.prog 3) bm 256 (tallyD n (upd f k t)) ∧ Kept (fun i => i = bm) w w' := by
  have h255 := hg.n255
  have hkey := Maps.keyOf_int_mk (k := 3) Try.underlying3 (wf64 (x := k) (by omega) (by omega))
  have hp := hg.pos k
  have HT := Lib.hid (atKey_tally0 hg k)
  have HW : (Lit.int .i64 (f k + t)).wf = true := wf64 (by omega) (by omega)
  have HP : Good n (upd f k t) := hg.upd h1 h2 (by omega) htop
  go_enter Try.func37, Try.ntmps37
  go_wp2_with (first
    | (at_lookup; refine wpList_lookup_own_int _ rfl _ _ 67 rfl 3 3 .i64 (Maps.int_keyed Try.underlying3) Try.underlying67 Try.underlying3 (Try.zeroValue3 _) bm 256 _ rfl hown _ _ rfl hkey ?_; intro c hat hwc; obtain rfl : f k = c := by (rw [HT.out] at hat; simpa using hat))
    | (at_mapUpdate; refine wpList_mapUpdate_own _ rfl _ _ _ 67 rfl 3 3 (Maps.int_keyed Try.underlying3) Try.underlying67 _ bm 256 _ rfl hown (by unfold maxLen; omega) _ _ _ rfl rfl hkey _ [] (plainElem_int Try.underlying3 HW) ?_; intro w1 hown1 hgrow1))
  go_end0
  have e1 := tallyD_put (f := f) h1 h2 (by omega) (hown1.canon (Maps.int_keyed Try.underlying3))
  rw [e1] at hown1
  refine ⟨rfl, ownsMap_shrink hown1 ?_, (Kept.grown hgrow1).mono (fun i _ hi => by simpa using hi)⟩
  rw [tallyD_size]
  have := keysOf_length_le n (upd f k t)
  omega

end Go.Proofs.Ytacbmpffpfaciaa
