/-
  The chapter's example: awake.
-/
import Derived.Test.YtlmpagicjgldkaaCaL
import Derived.Test.YtlmpagicjgldkaaCaM
namespace Go.Proofs.Ytlmpagicjgldkaa
open Go.RowKit Go.Maps
set_option linter.unusedVariables false
set_option linter.unusedSimpArgs false
set_option maxRecDepth 100000
set_option maxHeartbeats 2000000

def aw0 : PS := ⟨4, 1, 0, 0, 0, 0, []⟩
def aw1 : PS := ⟨4, 1, 1, 0, 1, 0, [(2, [0, 1])]⟩
def aw2 : PS := ⟨4, 1, 2, 0, 2, 1, [(2, [0, 2])]⟩
def aw3 : PS := ⟨4, 1, 3, 0, 3, 2, [(2, [0, 1])]⟩
def aw4 : PS := ⟨4, 1, 4, 1, 3, 2, [(2, [0, 1])]⟩
theorem aw01 : aw0.ask (2, [0, 1]) = aw1 := by rfl
theorem aw12 : aw1.ask (2, [0, 2]) = aw2 := by rfl
theorem aw23 : aw2.ask (2, [0, 1]) = aw3 := by rfl
theorem aw34 : aw3.ask (2, [0, 1]) = aw4 := by rfl
theorem ok01 : AskOk 4 2 [0, 1] := ⟨by decide, by decide, by decide⟩
theorem ok02 : AskOk 4 2 [0, 2] := ⟨by decide, by decide, by decide⟩
theorem lit2 (w : World) (a b : Int) : IntsAt (w.alloc (.cells #[.int .i64 a, .int .i64 b] 3)) (.slice (some ⟨w.heap.size, 0, none⟩) 2 2) [a, b] :=
  ⟨_, _, rfl, Nat.le_refl _, fun _ => ⟨_, 0, rfl, fun i hi => by
    rw [Nat.zero_add]
    refine (World.cell?_alloc_new w _ _ i).trans ?_
    have hi' : i < 2 := hi
    obtain rfl | rfl : i = 0 ∨ i = 1 := by omega
    all_goals rfl⟩⟩
/-- A cache of this plain kind. -/
def Live (w : World) (b bm : Nat) (p : PS) : Prop := ∃ s, CacheAt w (CK b bm) b bm s ∧ s.plain = p
theorem Live.below {w w' : World} {b bm : Nat} {p : PS} (h : Live w b bm p) (hb : Below w.heap.size w w') : Live w' b bm p := by
  obtain ⟨s, hc, hp⟩ := h
  exact ⟨s, hc.below hb, hp⟩
theorem turn_live (w : World) {b bm : Nat} {p p' : PS} (h : Live w b bm p) (K : Nat) (v : Value) (xs : List Int) (hv : IntsAt w v xs) (hl : xs.length ≤ 1000000) (h1 : 1 ≤ K) (h2 : K ≤ p.n) (ho : AskOk p.n K xs) (hs : p.now < 1000000000 ∧ p.hits < 1000000000 ∧ p.misses < 1000000000 ∧ p.dropped < 1000000000) (hp : p.ask (K, xs.take K) = p') :
    Calls Try.prog 9 #[.pointer (some ⟨b, 0, none⟩), .int .i64 (K : Int), v] w fun e w' => ∃ u, e = .returned (.tuple #[u, .int .i64 0]) ∧ Live w' b bm p' ∧ Kept (CK b bm) w w' := by
  obtain ⟨s, hc, rfl⟩ := h
  refine (turn_c_any w hc (fun i hi => by rcases hi with rfl | rfl; exact hc.lt; exact hc.map.lt) K v xs hv hl h1 h2 ho hs.1 hs.2.1 hs.2.2.1 hs.2.2.2).mono (fun e w' ⟨s', base, u, q1, q2, q3, q4, q5, q6, q7⟩ => ?_)
  exact ⟨u, q1, ⟨s', q5 w' (Below.refl _ _), q6.trans hp⟩, q7⟩

theorem awake_any (w : World) :
    Calls Try.prog 5 #[] w fun e w' => e = .returned (.bool true) ∧ Below w.heap.size w w' := by
  go_enter Try.func5, Try.ntmps5
  go_wp2_with fail
  refine (new_any w 4 1 (by omega) (by omega) (by omega) (by omega)).mono ?_
  rintro e w1 ⟨b, bm, rfl, hb, hbm, hc, hB1⟩
  have HB1 := Lib.hid hB1
  have HL1 := Lib.hid (show Live w1 b bm aw0 from ⟨_, hc (CK b bm) (.inl rfl) (.inr rfl), rfl⟩)
  have HCK := Lib.hid (show ∀ i, CK b bm i → w.heap.size ≤ i from fun i hi => by rcases hi with rfl | rfl; exact hb; exact hbm)
  clear hc hB1
  go_wp2_with fail
  refine (turn_live _ (HL1.out.below (balC w1 _)) 2 _ [0, 1] (lit2 w1 0 1) (by decide) (by omega) (by decide) ok01 (by decide) aw01).mono ?_
  rintro e w2 ⟨u2, rfl, hL, hk⟩
  have HB2 := Lib.hid (show Below w.heap.size w w2 from (HB1.out.trans ((balC w1 _).mono HB1.out.size)).trans (hk.toBelow (by have := HB1.out.size; simp; omega) (fun i hi => HCK.out i hi)))
  have HL2 := Lib.hid hL
  clear hL hk
  go_wp2_with fail
  refine (turn_live _ (HL2.out.below (balC w2 _)) 2 _ [0, 2] (lit2 w2 0 2) (by decide) (by omega) (by decide) ok02 (by decide) aw12).mono ?_
  rintro e w3 ⟨u3, rfl, hL, hk⟩
  have HB3 := Lib.hid (show Below w.heap.size w w3 from (HB2.out.trans ((balC w2 _).mono HB2.out.size)).trans (hk.toBelow (by have := HB2.out.size; simp; omega) (fun i hi => HCK.out i hi)))
  have HL3 := Lib.hid hL
  clear hL hk
  go_wp2_with fail
  refine (turn_live _ (HL3.out.below (balC w3 _)) 2 _ [0, 1] (lit2 w3 0 1) (by decide) (by omega) (by decide) ok01 (by decide) aw23).mono ?_
  rintro e w4 ⟨u4, rfl, hL, hk⟩
  have HB4 := Lib.hid (show Below w.heap.size w w4 from (HB3.out.trans ((balC w3 _).mono HB3.out.size)).trans (hk.toBelow (by have := HB3.out.size; simp; omega) (fun i hi => HCK.out i hi)))
  have HL4 := Lib.hid hL
  clear hL hk
  go_wp2_with fail
  refine (turn_live _ (HL4.out.below (balC w4 _)) 2 _ [0, 1] (lit2 w4 0 1) (by decide) (by omega) (by decide) ok01 (by decide) aw34).mono ?_
  rintro e w5 ⟨u5, rfl, hL, hk⟩
  have HB5 := Lib.hid (show Below w.heap.size w w5 from (HB4.out.trans ((balC w4 _).mono HB4.out.size)).trans (hk.toBelow (by have := HB4.out.size; simp; omega) (fun i hi => HCK.out i hi)))
  obtain ⟨s, hc, hp⟩ := hL
  have p1 : s.es.length = 1 := by have := congrArg (fun p => p.keys.length) hp; simpa [CS.plain, aw4] using this
  have p2 : s.hits = 1 := congrArg PS.hits hp
  have p3 : s.misses = 3 := congrArg PS.misses hp
  have p4 : s.dropped = 2 := congrArg PS.dropped hp
  have HST := Lib.hid (stat_any w5 hc)
  rw [p1, p2, p3, p4] at HST
  clear hk hc hp p1 p2 p3 p4
  go_wp2_with fail
  refine HST.out.mono ?_
  rintro e w6 ⟨rfl, hB6⟩
  have HB6 := Lib.hid (below_more HB5.out hB6 HB5.out.size)
  clear hB6
  go_wp2
  go_ret
  exact ⟨rfl, HB6.out⟩
end Go.Proofs.Ytlmpagicjgldkaa
