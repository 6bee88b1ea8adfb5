/-
  TbZ: Layer 18: plain laws: what holds of a table's groups, behind a put where a new group comes.
  TcA: Layer 18: plain laws: what holds of a table's groups, where one of them grows.
  TcB: Layer 18: plain laws: what holds of a table's groups holds behind every put.
-/
import Derived.Test.YtibelpamolcmcaaMxbg
namespace Go.Proofs.Ytibelpamolcmcaa

section -- TbZ
set_option linter.unusedVariables false
set_option linter.unusedSimpArgs false
set_option maxHeartbeats 1000000

theorem put_nod {L : List GD} {g : GD} {k : Nat} (hs : (framesG L).Nodup) (hn : g.H.frame ∉ framesG L) : (framesG (L.take k ++ g :: L.drop k)).Nodup := by
  have e : framesG L = framesG (L.take k) ++ framesG (L.drop k) := by
    unfold framesG
    rw [← List.map_append, List.take_append_drop]
  have e2 : framesG (L.take k ++ g :: L.drop k) = framesG (L.take k) ++ g.H.frame :: framesG (L.drop k) := by
    unfold framesG
    rw [List.map_append, List.map_cons]
  rw [e2]
  rw [e] at hs hn
  exact (List.perm_middle.nodup_iff).2 (List.nodup_cons.2 ⟨hn, hs⟩)
theorem put_total {L : List GD} {g : GD} {k : Nat} : totalG (L.take k ++ g :: L.drop k) = totalG L + bytesG g := by
  have h := totalG_app (L.take k) (L.drop k)
  rw [List.take_append_drop] at h
  rw [totalG_app, totalG_cons]
  omega
theorem put_tabP {gn cn : Int} {L : List GD} {g : GD} {k : Nat} (hp : TabP gn cn L) (hk : k ≤ L.length) (hn : g.H.frame ∉ framesG L)
    (h1 : ∀ j, j < k → AheadO ((L.map entG).getD j (0, 0, 0)) (entG g)) (h2 : ∀ j, k ≤ j → j < L.length → ¬ AheadO ((L.map entG).getD j (0, 0, 0)) (entG g)) (hc : (L.length : Int) + 1 ≤ gn) (ht : (totalG L : Int) + (bytesG g : Int) ≤ cn) : TabP gn cn (L.take k ++ g :: L.drop k) :=
  ⟨put_srt hk hp.srt hn h1 h2, put_nod hp.nod hn, by rw [List.length_append, List.length_cons, List.length_take, List.length_drop]; omega, by rw [put_total]; omega, hp.few, hp.low, hp.pos⟩
end -- TbZ

section -- TcA
set_option linter.unusedVariables false
set_option linter.unusedSimpArgs false
set_option maxHeartbeats 1000000

theorem entG_set {L : List GD} {p : Nat} {y : GD} (hp : p < L.length) (e : entG y = entG (L.getD p default)) : (L.set p y).map entG = L.map entG := by
  rw [List.map_set, e]
  refine List.ext_getElem (by simp) fun i h1 h2 => ?_
  rw [List.getElem_set]
  split
  · next q =>
    subst q
    simp [List.getD_eq_getElem?_getD, hp]
  · rfl
theorem total_set : ∀ {L : List GD} {p : Nat} {y : GD}, p < L.length → totalG (L.set p y) + bytesG (L.getD p default) = totalG L + bytesG y
  | [], p, y, h => absurd h (Nat.not_lt_zero _)
  | x :: L, 0, y, _ => by
    rw [List.set_cons_zero, totalG_cons, totalG_cons]
    show bytesG y + totalG L + bytesG x = _
    omega
  | x :: L, p + 1, y, h => by
    have ih := total_set (L := L) (p := p) (y := y) (by simpa using h)
    rw [List.set_cons_succ, totalG_cons, totalG_cons]
    show bytesG x + totalG (L.set p y) + bytesG (L.getD p default) = _
    omega
theorem set_tabP {gn cn : Int} {L : List GD} {p : Nat} {y : GD} (hp : TabP gn cn L) (hl : p < L.length) (e : entG y = entG (L.getD p default)) (e2 : y.H = (L.getD p default).H) (ht : (totalG (L.set p y) : Int) ≤ cn) : TabP gn cn (L.set p y) :=
  ⟨by rw [entG_set hl e]; exact hp.srt, by rw [framesG_set hl e2]; exact hp.nod, by rw [List.length_set]; exact hp.cnt, ht, hp.few, hp.low, hp.pos⟩
end -- TcA

section -- TcB
set_option linter.unusedVariables false
set_option linter.unusedSimpArgs false
set_option maxHeartbeats 1000000

theorem PutR.tabP {gs gs' outs : List GD} {h : HeadV} {l : List B} {gn cn : Int} {m : Nat} (H : PutR gs h l gn cn gs' outs m) (hp : TabP gn cn gs) (he : refE gs h l.length cn = 0) : TabP gn cn gs' := by
  obtain ⟨hok, hn, hlk⟩ := refE_zero he
  have hL := hp.sub (cutsO_sub h.frame gs m)
  have hf := H.fits
  rcases H.now with ⟨V', h1, _, hgs⟩ | ⟨h1, h2, k, g, h3, h4, h5, h6, h7, hgs⟩
  · obtain ⟨q1, q2⟩ := own_same hp.nod m h1
    have hr := (hlk q1).1
    rw [← q2] at hr
    have hrows : ((cutsO h.frame gs m).getD (posG h.frame (cutsO h.frame gs m)) default).H.rows = h.rows := by
      obtain ⟨_, _, _, _, e⟩ := hr
      first | exact e | exact e.symm
    rw [hgs]
    refine set_tabP hL h1 rfl rfl ?_
    have ht := total_set (L := cutsO h.frame gs m) (y := { (cutsO h.frame gs m).getD (posG h.frame (cutsO h.frame gs m)) default with hs := insH h.index l ((cutsO h.frame gs m).getD (posG h.frame (cutsO h.frame gs m)) default).hs, V := V' }) h1
    have hb : bytesG { (cutsO h.frame gs m).getD (posG h.frame (cutsO h.frame gs m)) default with hs := insH h.index l ((cutsO h.frame gs m).getD (posG h.frame (cutsO h.frame gs m)) default).hs, V := V' } = bytesG ((cutsO h.frame gs m).getD (posG h.frame (cutsO h.frame gs m)) default) + l.length := by
      unfold bytesG
      rw [insH_len, Nat.succ_mul, hrows, hn]
    rw [hb] at ht
    omega
  · have hb : bytesG g = l.length := by
      unfold bytesG
      rw [h7, h6, hn]
      simp
    rw [hgs]
    refine put_tabP hL h3 ?_ h4 h5 h2 (by rw [hb]; exact hf)
    rw [h6]
    exact fun q => h1 ((cutsO_frame m).1 q)
end -- TcB

end Go.Proofs.Ytibelpamolcmcaa
