/-
  TellExact's callee told: do counts tell just these times?
-/
import Derived.Test.YtacbmpffpfaciaaTellN
namespace Go.Proofs.Ytacbmpffpfaciaa
open Go.RowKit Go.Maps Go.Shelf Go.Sort

set_option maxRecDepth 100000
set_option maxHeartbeats 2000000

/-- An array of 256 numbers lies at block t. -/
def ArrAt (w : World) (t : Nat) (f : Int → Int) : Prop := ∃ C : Array Value, w.heap[t]? = some (.cells C 62 (0, 0)) ∧ ArrV C f
section
variable {w w' : World} {t : Nat} {f : Int → Int}
theorem ArrAt.lt (h : ArrAt w t f) : t < w.heap.size := by
  obtain ⟨C, h1, _⟩ := h
  exact (Array.getElem?_eq_some_iff.1 h1).1
theorem ArrAt.cell (h : ArrAt w t f) {k : Int} (h1 : 0 ≤ k) (h2 : k < 256) : w.cell? ⟨t, k.toNat, none⟩ = some (.int .i64 (f k)) := by
  obtain ⟨C, d1, d2, d3⟩ := h
  have := d3 k.toNat (by omega)
  rw [show (k.toNat : Int) = k from by omega] at this
  simp [World.cell?, d1, this]
theorem ArrAt.fz (h : ArrAt w t f) (o : Nat) : w.frozen? ⟨t, o, none⟩ = false := by
  obtain ⟨C, d1, _⟩ := h
  simp [World.frozen?, d1]
theorem ArrAt.kept {S : Nat → Prop} (h : ArrAt w t f) (hk : Kept S w w') (hS : ¬ S t) : ArrAt w' t f := by
  obtain ⟨C, d1, d2⟩ := h
  exact ⟨C, (hk.block t (Array.getElem?_eq_some_iff.1 d1).1 hS).trans d1, d2⟩
theorem ArrAt.set (h : ArrAt w t f) {k : Int} (h1 : 0 ≤ k) (h2 : k < 256) {x : Int} {g : Int → Int} (hx : g k = x) (hy : ∀ j, j ≠ k → g j = f j) :
    ArrAt (w.setCell ⟨t, k.toNat, none⟩ (.int .i64 x)) t g := by
  obtain ⟨C, d1, d2, d3⟩ := h
  refine ⟨C.set! k.toNat (.int .i64 x), ?_, by simp [d2], fun j hj => ?_⟩
  · show (w.heap.modify t _)[t]? = _
    rw [Array.getElem?_modify, if_pos rfl, d1]
    rfl
  · rw [Array.set!_eq_setIfInBounds, Array.getElem?_setIfInBounds]
    by_cases e : k.toNat = j
    · subst e
      rw [if_pos rfl, if_pos (by omega), show (k.toNat : Int) = k from by omega, hx]
    · rw [if_neg (by omega), d3 j hj, hy j (by omega)]
theorem ArrAt.new (w : World) {C : Array Value} (h : ArrV C f) : ArrAt (w.alloc (.cells C 62)) w.heap.size f := ⟨C, World.alloc_heap_new w _, h⟩
end

/-- Without the first keys. -/
def lessK (ks : List Int) (f : Int → Int) : Int → Int := fun j => if j ∈ ks then 0 else f j
theorem lessK_nil (f : Int → Int) : lessK [] f = f := by funext j; simp [lessK]
theorem lessK_snoc (ks : List Int) (a : Int) (f : Int → Int) : lessK (ks ++ [a]) f a = 0 := by simp [lessK]
theorem lessK_other (ks : List Int) (a : Int) (f : Int → Int) {j : Int} (h : j ≠ a) : lessK (ks ++ [a]) f j = lessK ks f j := by simp [lessK, h]
theorem lessK_at {n : Nat} {f : Int → Int} {i : Nat} {a : Int} (h : (keysOf n f)[i]? = some a) : lessK ((keysOf n f).take i) f a = f a := by
  unfold lessK
  rw [if_neg]
  intro hm
  obtain ⟨j, hj, e⟩ := List.mem_iff_getElem.1 hm
  have hj' : j < i := by simp at hj; omega
  rw [List.getElem_take] at e
  obtain ⟨hi, e2⟩ := List.getElem?_eq_some_iff.1 h
  have := List.pairwise_iff_getElem.1 (keysOf_sorted n f) j i (by omega) hi hj'
  omega
theorem lessK_all {n : Nat} {f : Int → Int} (h : Good n f) : noneB (lessK (keysOf n f) f) = true := by
  unfold noneB
  rw [List.all_eq_true]
  intro k _
  simp only [decide_eq_true_eq]
  unfold lessK
  by_cases hm : (k : Int) ∈ keysOf n f
  · rw [if_pos hm]
  · rw [if_neg hm]
    have h1 := h.pos (k : Int)
    have h2 := h.off (k : Int)
    have h3 := fun q => hm (mem_keysOf.2 q)
    by_cases h4 : 0 < f (k : Int)
    · exact absurd ⟨h2 h4, h4⟩ h3
    · omega

theorem told_true (w : World) (v : Value) (C : Array Value) (n : Nat) (f : Int → Int) (hg : Good n f) (ht : ∀ k, f k ≤ 65535) (hx : ArrV C f) (hc : CountsAt w v (countsOf n f)) :
    Calls Try.prog 30 #[v, .agg C] w fun e w' => e = .returned (.bool true) ∧ Kept (fun _ => False) w w' := by
  obtain ⟨p, cap, rfl⟩ := hc.shape
  have HA := Lib.hid (ArrAt.new w hx)
  have k0 : Kept (fun _ => False) w (w.alloc (.cells C 62)) := Kept.alloc _ _ _
  have HC := Lib.hid hc
  have hlen : (countsOf n f).length = (keysOf n f).length := by simp [countsOf]
  have hle := keysOf_length_le n f
  have h255 := hg.n255
  have HG := Lib.hid hg
  have HT := Lib.hid ht
  clear hx hc hg ht
  rw [hlen]
  go_enter Try.func30, Try.ntmps30
  go_wp2_with fail
  go_loopw [5] (fun i wr => ∃ k : Nat, k ≤ (keysOf n f).length ∧ i = .int .i64 (k : Int) ∧ ArrAt wr w.heap.size (lessK ((keysOf n f).take k) f) ∧ Kept (fun i => i = w.heap.size) (w.alloc (.cells C 62)) wr) (fun i _ => (keysOf n f).length - (intOf i).toNat)
  case atStart => exact ⟨0, Nat.zero_le _, rfl, by rw [List.take_zero, lessK_nil]; exact HA.out, Kept.refl _ _⟩
  case round =>
    obtain ⟨k, hk, rfl, hr, hK⟩ := hrel
    have HR := Lib.hid hr
    clear hr
    by_cases hlt : k < (keysOf n f).length
    · obtain ⟨a, ha⟩ : ∃ a, (keysOf n f)[k]? = some a := ⟨_, List.getElem?_eq_getElem hlt⟩
      have hm := mem_keysOf.1 (List.mem_of_getElem? ha)
      obtain ⟨⟨a1, a2⟩, a3⟩ := hm
      obtain ⟨c, hcc⟩ : ∃ c, (countsOf n f)[k]? = some c := ⟨_, List.getElem?_eq_getElem (by omega)⟩
      obtain ⟨e1, e2⟩ := countsOf_get hcc
      have hca : c.1 = a := by rw [e1] at ha; exact Option.some.inj ha
      have hcb : c.2 = f a := by rw [e2, hca]; have := HT.out a; omega
      obtain ⟨g, off, hp, hgl, hcs⟩ : ∃ g off, p = some ⟨g, off, none⟩ ∧ g < w.heap.size ∧ ∀ j c, (countsOf n f)[j]? = some c → w.cell? ⟨g, off + j * 2, none⟩ = some (.int .i64 c.1) ∧ w.cell? ⟨g, off + j * 2 + 1, none⟩ = some (.int .i64 c.2) := by
        rcases HC.out with ⟨_, hz⟩ | ⟨g, off, cap', hv, hgl, hcs⟩
        · rw [hz] at hcc; simp at hcc
        · injection hv with hv1 hv2 hv3
          exact ⟨g, off, hv1, hgl, hcs⟩
      subst hp
      have kk := k0.trans hK (fun i h1 h2 => by omega)
      have c1 : wr.cell? ⟨g, off + k * 2, none⟩ = some (.int .i64 a) := by rw [kk.cell (p := ⟨g, off + k * 2, none⟩) hgl (fun h => h), (hcs k c hcc).1, hca]
      have c2 : wr.cell? ⟨g, off + k * 2 + 1, none⟩ = some (.int .i64 (f a)) := by rw [kk.cell (p := ⟨g, off + k * 2 + 1, none⟩) hgl (fun h => h), (hcs k c hcc).2, hcb]
      have c3 := HR.out.cell (k := a) (by omega) (by omega)
      rw [lessK_at ha] at c3
      have cf := HR.out.fz a.toNat
      have q1 : ¬ a < 1 := by omega
      have q2 : ¬ 255 < a := by omega
      have q3 : a < 256 := by omega
      have q4 : 0 ≤ a := by omega
      have HS := Lib.hid ha
      obtain ⟨x, hxf⟩ : ∃ x, x = f a := ⟨_, rfl⟩
      rw [← hxf] at c2 c3 a3
      have q5 : (x == 0) = false := by simp; omega
      clear hcs hcc e1 e2 hca hcb ha kk hxf
      go_wp2_with fail
      go_quiet (fail)
      go_wp2
      go_roundw
      case rel =>
        have e : (keysOf n f).take (k + 1) = (keysOf n f).take k ++ [a] := by rw [List.take_add_one, HS.out]; rfl
        have kD : Kept (fun i => i = w.heap.size) wr (wr.drewN nq) := ⟨rfl, rfl, rfl, Nat.le_refl _, fun _ _ _ => rfl⟩
        refine ⟨k + 1, by omega, by go_num, ?_, (hK.trans kD (fun _ _ h => h)).setCell' (p := ⟨w.heap.size, a.toNat, none⟩) rfl _⟩
        rw [e]
        exact (HR.out.kept (S := fun _ => False) (w' := wr.drewN nq) ⟨rfl, rfl, rfl, Nat.le_refl _, fun _ _ _ => rfl⟩ (fun h => h)).set q4 q3 (lessK_snoc _ _ _) (fun j hj => lessK_other _ _ _ hj)
      case measure => simp [intOf]; omega
    · obtain rfl : k = (keysOf n f).length := by omega
      have h0 := HR.out
      rw [List.take_length] at h0
      obtain ⟨D, hd1, hd2⟩ := h0
      have hs : (Try.prog.info? 62).map (·.size) = some D.size := by rw [hd2.1]; exact size62
      have HD := Lib.hid hd1
      have HS := Lib.hid (some_any wr D _ hd2)
      have hall := Lib.hid (lessK_all HG.out)
      clear hd1 hd2
      go_wp2_with fail
      refine wp_load_row _ _ rfl w.heap.size rfl _ D (0, 0) _ HD.out und62 rfl hs ?_
      go_wp2_with fail
      refine HS.out.mono ?_
      rintro e w2 ⟨rfl, hk2⟩
      rw [hall.out]
      go_wp2
      go_ret
      exact ⟨rfl, (k0.trans hK (fun i h1 h2 => by omega)).trans hk2 (fun _ _ h => h)⟩

end Go.Proofs.Ytacbmpffpfaciaa
