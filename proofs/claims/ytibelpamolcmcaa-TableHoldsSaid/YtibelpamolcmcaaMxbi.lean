/-
  TcA: Layer 18: plain laws: what holds of a table's groups, where one of them grows.
  TcB: Layer 18: plain laws: what holds of a table's groups holds behind every put.
  TcC: Layer 18: the law's deeds: each lies in nine cells.
-/
import Derived.Test.YtibelpamolcmcaaMxbh
namespace Go.Proofs.Ytibelpamolcmcaa

section -- TcA
set_option linter.unusedVariables false
set_option linter.unusedSimpArgs false
set_option maxHeartbeats 1000000

theorem entG_set {L : List GD} {p : Nat} {y : GD} (hp : p < L.length) (e : entG y = entG (L.getD p default)) : (L.set p y).map entG = L.map entG := by
  rw [List.map_set, e]
  refine List.ext_getElem (by simp) fun i h1 h2 => ?_
  rw [List.getElem_set]
  split
  · next q =>
    subst q
    simp [List.getD_eq_getElem?_getD, hp]
  · rfl
theorem total_set : ∀ {L : List GD} {p : Nat} {y : GD}, p < L.length → totalG (L.set p y) + bytesG (L.getD p default) = totalG L + bytesG y
  | [], p, y, h => absurd h (Nat.not_lt_zero _)
  | x :: L, 0, y, _ => by
    rw [List.set_cons_zero, totalG_cons, totalG_cons]
    show bytesG y + totalG L + bytesG x = _
    omega
  | x :: L, p + 1, y, h => by
    have ih := total_set (L := L) (p := p) (y := y) (by simpa using h)
    rw [List.set_cons_succ, totalG_cons, totalG_cons]
    show bytesG x + totalG (L.set p y) + bytesG (L.getD p default) = _
    omega
theorem set_tabP {gn cn : Int} {L : List GD} {p : Nat} {y : GD} (hp : TabP gn cn L) (hl : p < L.length) (e : entG y = entG (L.getD p default)) (e2 : y.H = (L.getD p default).H) (ht : (totalG (L.set p y) : Int) ≤ cn) : TabP gn cn (L.set p y) :=
  ⟨by rw [entG_set hl e]; exact hp.srt, by rw [framesG_set hl e2]; exact hp.nod, by rw [List.length_set]; exact hp.cnt, ht, hp.few, hp.low, hp.pos⟩
end -- TcA

section -- TcB
set_option linter.unusedVariables false
set_option linter.unusedSimpArgs false
set_option maxHeartbeats 1000000

theorem PutR.tabP {gs gs' outs : List GD} {h : HeadV} {l : List B} {gn cn : Int} {m : Nat} (H : PutR gs h l gn cn gs' outs m) (hp : TabP gn cn gs) (he : refE gs h l.length cn = 0) : TabP gn cn gs' := by
  obtain ⟨hok, hn, hlk⟩ := refE_zero he
  have hL := hp.sub (cutsO_sub h.frame gs m)
  have hf := H.fits
  rcases H.now with ⟨V', h1, _, hgs⟩ | ⟨h1, h2, k, g, h3, h4, h5, h6, h7, hgs⟩
  · obtain ⟨q1, q2⟩ := own_same hp.nod m h1
    have hr := (hlk q1).1
    rw [← q2] at hr
    have hrows : ((cutsO h.frame gs m).getD (posG h.frame (cutsO h.frame gs m)) default).H.rows = h.rows := by
      obtain ⟨_, _, _, _, e⟩ := hr
      first | exact e | exact e.symm
    rw [hgs]
    refine set_tabP hL h1 rfl rfl ?_
    have ht := total_set (L := cutsO h.frame gs m) (y := { (cutsO h.frame gs m).getD (posG h.frame (cutsO h.frame gs m)) default with hs := insH h.index l ((cutsO h.frame gs m).getD (posG h.frame (cutsO h.frame gs m)) default).hs, V := V' }) h1
    have hb : bytesG { (cutsO h.frame gs m).getD (posG h.frame (cutsO h.frame gs m)) default with hs := insH h.index l ((cutsO h.frame gs m).getD (posG h.frame (cutsO h.frame gs m)) default).hs, V := V' } = bytesG ((cutsO h.frame gs m).getD (posG h.frame (cutsO h.frame gs m)) default) + l.length := by
      unfold bytesG
      rw [insH_len, Nat.succ_mul, hrows, hn]
    rw [hb] at ht
    omega
  · have hb : bytesG g = l.length := by
      unfold bytesG
      rw [h7, h6, hn]
      simp
    rw [hgs]
    refine put_tabP hL h3 ?_ h4 h5 h2 (by rw [hb]; exact hf)
    rw [h6]
    exact fun q => h1 ((cutsO_frame m).1 q)
end -- TcB

section -- TcC
set_option linter.unusedVariables false
set_option linter.unusedSimpArgs false
set_option maxHeartbeats 1000000

/-- One deed: what, when, a header, a body. -/
structure DeedV where
  what : Int
  at_ : Int
  head : HeadV
  body : List B
instance : Inhabited DeedV := ⟨⟨0, 0, ⟨0, 0, 0, 0, 0, []⟩, []⟩⟩
structure DeedAt (w : World) (g o : Nat) (x : DeedV) (vr vb : Value) : Prop where
  c0 : w.cell? ⟨g, o, none⟩ = some (.int .i64 x.what)
  c1 : w.cell? ⟨g, o + 1, none⟩ = some (.int .i64 x.at_)
  c2 : w.cell? ⟨g, o + 2, none⟩ = some (.int .i64 x.head.stream)
  c3 : w.cell? ⟨g, o + 3, none⟩ = some (.int .i64 x.head.frame)
  c4 : w.cell? ⟨g, o + 4, none⟩ = some (.int .i64 x.head.index)
  c5 : w.cell? ⟨g, o + 5, none⟩ = some (.int .i64 x.head.n)
  c6 : w.cell? ⟨g, o + 6, none⟩ = some (.int .i64 x.head.deadline)
  c7 : w.cell? ⟨g, o + 7, none⟩ = some vr
  c8 : w.cell? ⟨g, o + 8, none⟩ = some vb
  rows : TableAt w vr x.head.rows
  body : BytesAt w vb x.body
def DeedsAt (w : World) (v : Value) (L : List DeedV) : Prop := ∃ p c, v = .slice p L.length c ∧ L.length ≤ c ∧ (0 < L.length → ∃ g off, p = some ⟨g, off, none⟩ ∧ ∀ i, i < L.length → ∃ vr vb, DeedAt w g (off + i * 9) (L.getD i default) vr vb)
theorem DeedAt.below {w w' : World} {g o : Nat} {x : DeedV} {vr vb : Value} (h : DeedAt w g o x vr vb) (hB : Go.RowKit.Below w.heap.size w w') : DeedAt w' g o x vr vb := by
  have hl := blt h.c0
  have hc : ∀ k u, w.cell? ⟨g, k, none⟩ = some u → w'.cell? ⟨g, k, none⟩ = some u := fun k u e => (hB.cell (p := ⟨g, k, none⟩) hl).trans e
  exact ⟨hc _ _ h.c0, hc _ _ h.c1, hc _ _ h.c2, hc _ _ h.c3, hc _ _ h.c4, hc _ _ h.c5, hc _ _ h.c6, hc _ _ h.c7, hc _ _ h.c8, h.rows.below hB, h.body.below hB⟩
end -- TcC

end Go.Proofs.Ytibelpamolcmcaa
