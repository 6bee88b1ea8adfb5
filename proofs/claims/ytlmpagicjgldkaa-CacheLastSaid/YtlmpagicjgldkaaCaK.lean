/-
  ask, said of plain keys: which are kept, the one that was used last at the end.
-/
import Derived.Test.YtlmpagicjgldkaaCaI
import Derived.Test.YtlmpagicjgldkaaCaJ
namespace Go.Proofs.Ytlmpagicjgldkaa
open Go.RowKit Go.Maps
set_option linter.unusedVariables false
set_option linter.unusedSimpArgs false
set_option maxRecDepth 100000
set_option maxHeartbeats 1000000

/-- A cache, plain. -/
structure PS where
  n : Nat
  room : Nat
  now : Nat
  hits : Nat
  misses : Nat
  dropped : Nat
  keys : List (Nat × List Int)
def CE.key (e : CE) : Nat × List Int := (e.k, e.xs)
def CS.plain (s : CS) : PS := ⟨s.n, s.room, s.now, s.hits, s.misses, s.dropped, s.es.map CE.key⟩
def PS.ask (p : PS) (q : Nat × List Int) : PS :=
  if q ∈ p.keys then { p with now := p.now + 1, hits := p.hits + 1, keys := p.keys.filter (fun x => decide (x ≠ q)) ++ [q] }
  else if p.keys.length < p.room then { p with now := p.now + 1, misses := p.misses + 1, keys := p.keys ++ [q] }
  else { p with now := p.now + 1, misses := p.misses + 1, dropped := p.dropped + 1, keys := p.keys.tail ++ [q] }

theorem kl_k {k k' : Int} {xs xs' : List Int} (h : Idx k xs) (h' : Idx k' xs') (e : kl k xs = kl k' xs') : k = k' := by
  have h1 := kl_key h
  rw [e] at h1
  have h2 := keyed.inj h1 (kl_key h')
  unfold keyV at h2
  have h3 : kcells k xs = kcells k' xs' := by
    have := Value.agg.inj h2
    simpa using congrArg Array.toList this
  unfold kcells at h3
  exact (Value.int.inj (List.cons.inj h3).1).2
theorem key_of_L {x : CE} {n now K : Nat} {ys : List Int} (hx : x.Good n now) (hn : n ≤ 255) (hi : Idx (K : Int) ys) (hy : ys.length = K) : x.L = kl (K : Int) ys ↔ x.key = (K, ys) := by
  constructor
  · intro h
    have h1 := kl_k (hx.idx hn) hi h
    have h2 : x.k = K := by omega
    have h3 := (kl_inj (hx.idx hn) hi (by rw [hx.len, hy, h2]) h).2
    unfold CE.key
    rw [h2, h3]
  · intro h
    unfold CE.key at h
    obtain ⟨a, b⟩ := Prod.mk.inj h
    unfold CE.L
    rw [a, b]
theorem addE_keys {es : List CE} {n now : Nat} (hg : ∀ x ∈ es, x.Good n now) (hn : n ≤ 255) (e : CE) (hi : Idx (e.k : Int) e.xs) (hy : e.xs.length = e.k) (u : Nat) : (addE es e u).map CE.key = (es.map CE.key).filter (fun x => decide (x ≠ e.key)) ++ [e.key] := by
  unfold addE
  rw [List.map_append, List.filter_map]
  congr 1
  congr 1
  apply List.filter_congr
  intro x hx
  rw [Bool.eq_iff_iff, neK_iff (l := e.L) (kl_is hi)]
  simp only [Function.comp, decide_eq_true_eq]
  exact not_congr (key_of_L (hg x hx) hn hi hy)

/-- A matrix that was asked for. -/
def Asked (w : World) (F : Nat → Prop) (b bm : Nat) (s : CS) (K : Nat) (ys : List Int) (e : Ending) (w' : World) : Prop :=
  ∃ s' x, e = .returned (.tuple #[CE.v x, .int .i64 0]) ∧ x ∈ s'.es ∧ x.k = K ∧ x.xs = ys ∧ CacheAt w' F b bm s' ∧ s'.plain = s.plain.ask (K, ys) ∧ Kept (CK b bm) w w'

theorem askErr_zero {n : Nat} {k : Int} {xs : List Int} (h : askErr n k xs = 0) : ∃ K : Nat, k = K ∧ 1 ≤ K ∧ K ≤ n ∧ AskOk n K xs := by
  unfold askErr at h
  by_cases q : k < 1 ∨ n < k
  · rw [if_pos q] at h; cases h
  · rw [if_neg q] at h
    exact ⟨k.toNat, by omega, by omega, by omega, askE_zero h⟩

theorem ask_any (w : World) {F : Nat → Prop} {b bm : Nat} {s : CS} (hc : CacheAt w F b bm s) (hF : ∀ i, F i → i < w.heap.size) (K : Nat) (v : Value) (xs : List Int) (hv : IntsAt w v xs) (hl : xs.length ≤ 1000000) (h1 : 1 ≤ K) (h2 : K ≤ s.n) (ho : AskOk s.n K xs)
    (hnow : s.now < 1000000000) (hhit : s.hits < 1000000000) (hmis : s.misses < 1000000000) (hdrp : s.dropped < 1000000000) :
    Calls Try.prog 19 #[.pointer (some ⟨b, 0, none⟩), .int .i64 (K : Int), v] w (Asked w F b bm s K (xs.take K)) := by
  have h255 := hc.n255
  have h3 : K ≤ xs.length := ho.len
  have hr : ∀ x ∈ xs.take K, 0 ≤ x ∧ x < s.n := fun x hx => ho.range x (List.mem_of_mem_take hx)
  have hx : decide (askE s.n 1 xs = 0) = true := by
    rw [decide_eq_true_eq]
    exact askE_ok ⟨ho.range, ho.nodup, by omega⟩
  have hylen : (xs.take K).length = K := by rw [List.length_take]; omega
  have hi : Idx (K : Int) (xs.take K) := ⟨by omega, by omega, by rw [hylen]; omega, fun y hy => by have := hr y hy; omega⟩
  have hpl : s.plain.keys = s.es.map CE.key := rfl
  by_cases hin : (K, xs.take K) ∈ s.plain.keys
  · rw [hpl] at hin
    obtain ⟨x, hxe, hxk⟩ := List.mem_map.1 hin
    have hxk2 := hxk
    unfold CE.key at hxk2
    obtain ⟨a1, a2⟩ := Prod.mk.inj hxk2
    refine (ask_hit w hc K v xs hv hl h1 h2 h3 hr hx x hxe a1 a2 hnow hhit).mono (fun e w' ⟨q1, q2, q3⟩ => ?_)
    refine ⟨_, x.now (s.now + 1), q1, ?_, a1, a2, q2, ?_, q3⟩
    · show x.now (s.now + 1) ∈ addE s.es x (s.now + 1)
      unfold addE
      simp
    · unfold PS.ask
      rw [if_pos (by rw [hpl]; exact hin)]
      have := addE_keys hc.good h255 x (by rw [a1, a2]; exact hi) (by rw [a1, a2]; exact hylen) (s.now + 1)
      rw [hxk] at this
      unfold CS.plain
      simp only [this]
  · have hno : ∀ x ∈ s.es, x.L ≠ kl K (xs.take K) := fun x hx h => hin (by
      rw [hpl]
      exact List.mem_map.2 ⟨x, hx, (key_of_L (hc.good x hx) h255 hi hylen).1 h⟩)
    have hkeys : ∀ gm, (addE s.es ⟨K, xs.take K, 0, gm⟩ (s.now + 1)).map CE.key = s.es.map CE.key ++ [(K, xs.take K)] := fun gm => by
      have := addE_keys hc.good h255 ⟨K, xs.take K, 0, gm⟩ hi hylen (s.now + 1)
      rw [this]
      congr 1
      exact List.filter_eq_self.2 (fun q hq => by
        simp only [decide_eq_true_eq]
        rintro rfl
        exact hin (by rw [hpl]; exact hq))
    by_cases hroom : s.es.length < s.room
    · refine (ask_low w hc hF K v xs hv hl h1 h2 h3 hr hx hno hnow hmis hdrp hroom).mono (fun e w' ⟨gm, q1, q2, q3⟩ => ?_)
      refine ⟨_, (CE.now ⟨K, xs.take K, 0, gm⟩ (s.now + 1)), q1, ?_, rfl, rfl, q2, ?_, q3⟩
      · show _ ∈ addE s.es _ (s.now + 1)
        unfold addE
        simp
      · unfold PS.ask
        rw [if_neg hin, if_pos (by rw [hpl, List.length_map]; exact hroom)]
        unfold CS.plain
        simp only [hkeys]
    · have hful : s.es.length = s.room := Nat.le_antisymm hc.full (by omega)
      have hr1 := hc.r1
      obtain ⟨e0, r0, hes⟩ : ∃ e0 r0, s.es = e0 :: r0 := by
        cases q : s.es with
        | nil => rw [q] at hful; simp at hful; omega
        | cons a r => exact ⟨a, r, rfl⟩
      refine (ask_full w hc hF K v xs hv hl h1 h2 h3 hr hx hno hnow hmis hdrp e0 r0 hes hful).mono (fun e w' ⟨gm, q1, q2, q3⟩ => ?_)
      refine ⟨_, (CE.now ⟨K, xs.take K, 0, gm⟩ (s.now + 1)), q1, ?_, rfl, rfl, q2, ?_, q3⟩
      · show _ ∈ addE r0 _ (s.now + 1)
        unfold addE
        simp
      · unfold PS.ask
        rw [if_neg hin, if_neg (by rw [hpl, List.length_map]; exact hroom)]
        have := addE_keys (es := r0) (n := s.n) (now := s.now) (fun x hx => hc.good x (by rw [hes]; exact List.mem_cons_of_mem _ hx)) h255 ⟨K, xs.take K, 0, gm⟩ hi hylen (s.now + 1)
        have h9 : (r0.map CE.key).filter (fun x => decide (x ≠ (K, xs.take K))) = r0.map CE.key := List.filter_eq_self.2 (fun q hq => by
          simp only [decide_eq_true_eq]
          rintro rfl
          exact hin (by rw [hpl, hes]; exact List.mem_cons_of_mem _ hq))
        unfold CS.plain
        simp only [this, hes, List.map_cons, List.tail_cons]
        rw [show (CE.key ⟨K, xs.take K, 0, gm⟩) = (K, xs.take K) from rfl, h9]
end Go.Proofs.Ytlmpagicjgldkaa
