/-
  CodeEnds: rows, held symbols that grow; a drawn region step by step.
-/
import Derived.Test.YtaaahbpeaamjgaaGreatMd
import Derived.Deep.RegionHeld3
namespace Go.Proofs.YtaaahbpeaamjgaaGreat

section -- EndA
open Go.RowKit Go.Maps
set_option linter.unusedVariables false
set_option maxRecDepth 100000
set_option maxHeartbeats 8000000

/-- No coder: none, or one of nothing. -/
def NoCoder (w : World) (v : Value) : Prop := v = .pointer none ∨ ∃ b, v = .pointer (some ⟨b, 0, none⟩) ∧ w.cell? ⟨b, 2, none⟩ = some (.int .i64 0)
theorem NoCoder.below {w w' : World} {v : Value} (h : NoCoder w v) (hb : Below w.heap.size w w') : NoCoder w' v := by
  rcases h with e | ⟨b, e, hc⟩
  · exact .inl e
  · exact .inr ⟨b, e, (hb.cell (p := ⟨b, 2, none⟩) (blt hc)).trans hc⟩

theorem there_no (w : World) (v : Value) (h : NoCoder w v) :
    Calls Tryz.prog 33 #[v] w fun e w' => e = .returned (.bool false) ∧ w = w' := by
  rcases h with rfl | ⟨b, rfl, d2⟩
  · go_enter Tryz.func33, Tryz.ntmps33
    go_wp2
    go_ret
    exact ⟨rfl, rfl⟩
  · go_enter Tryz.func33, Tryz.ntmps33
    go_wp2
    go_ret
    exact ⟨rfl, rfl⟩

theorem encode_no (w : World) (v v2 : Value) (h : NoCoder w v) :
    Calls Tryz.prog 23 #[v, v2] w fun e w' => e = .returned (.tuple #[.slice none 0 0, .int .i64 1]) ∧ w = w' := by
  go_enter Tryz.func23, Tryz.ntmps23
  go_wp2_with fail
  refine (there_no w v h).mono ?_
  rintro e w' ⟨rfl, rfl⟩
  go_wp2
  go_ret2
  exact ⟨rfl, rfl⟩

theorem symbol_no (w : World) (v v2 : Value) (x : Int) (h : NoCoder w v) :
    Calls Tryz.prog 25 #[v, v2, .int .i64 x] w fun e w' => e = .returned (.tuple #[.slice none 0 0, .int .i64 1]) ∧ w = w' := by
  go_enter Tryz.func25, Tryz.ntmps25
  go_wp2_with fail
  refine (there_no w v h).mono ?_
  rintro e w' ⟨rfl, rfl⟩
  go_wp2
  go_ret2
  exact ⟨rfl, rfl⟩

theorem decode_no (w : World) (v v2 : Value) (h : NoCoder w v) :
    Calls Tryz.prog 13 #[v, v2] w fun e w' => e = .returned (.tuple #[.slice none 0 0, .int .i64 1]) ∧ w = w' := by
  go_enter Tryz.func13, Tryz.ntmps13
  go_wp2_with fail
  refine (there_no w v h).mono ?_
  rintro e w' ⟨rfl, rfl⟩
  go_wp2
  go_ret2
  exact ⟨rfl, rfl⟩

theorem turn_no (w : World) (v v2 : Value) (h : NoCoder w v) :
    Calls Tryz.prog 16 #[v, v2] w fun e w' => e = .returned (.tuple #[.slice none 0 0, .int .i64 1]) ∧ w = w' := by
  go_enter Tryz.func16, Tryz.ntmps16
  go_wp2_with fail
  refine (there_no w v h).mono ?_
  rintro e w' ⟨rfl, rfl⟩
  go_wp2
  go_ret2
  exact ⟨rfl, rfl⟩

theorem none_any (w : World) :
    Calls Tryz.prog 28 #[] w fun e w' => e = .returned (.bool true) ∧ Below w.heap.size w w' := by
  go_enter Tryz.func28, Tryz.ntmps28
  go_wp2
  obtain ⟨g, hg⟩ : ∃ g, g = w.heap.size + 1 := ⟨_, rfl⟩
  have e0 : ((w.alloc (.cells #[.pointer none, .slice none 0 0, .int .i64 0] 62)).alloc (.cells #[.pointer none, .pointer (some ⟨w.heap.size, 0, none⟩)] 28)).cell? ⟨w.heap.size + 1, 0, none⟩ = some (.pointer none) := by
    have := World.cell?_alloc_new (w.alloc (.cells #[.pointer none, .slice none 0 0, .int .i64 0] 62)) #[.pointer none, .pointer (some ⟨w.heap.size, 0, none⟩)] 28 0
    rw [show (w.alloc (.cells #[.pointer none, .slice none 0 0, .int .i64 0] 62)).heap.size = w.heap.size + 1 by simp] at this
    exact this
  have e1 : ((w.alloc (.cells #[.pointer none, .slice none 0 0, .int .i64 0] 62)).alloc (.cells #[.pointer none, .pointer (some ⟨w.heap.size, 0, none⟩)] 28)).cell? ⟨w.heap.size + 1, 1, none⟩ = some (.pointer (some ⟨w.heap.size, 0, none⟩)) := by
    have := World.cell?_alloc_new (w.alloc (.cells #[.pointer none, .slice none 0 0, .int .i64 0] 62)) #[.pointer none, .pointer (some ⟨w.heap.size, 0, none⟩)] 28 1
    rw [show (w.alloc (.cells #[.pointer none, .slice none 0 0, .int .i64 0] 62)).heap.size = w.heap.size + 1 by simp] at this
    exact this
  have e2 : ((w.alloc (.cells #[.pointer none, .slice none 0 0, .int .i64 0] 62)).alloc (.cells #[.pointer none, .pointer (some ⟨w.heap.size, 0, none⟩)] 28)).cell? ⟨w.heap.size, 2, none⟩ = some (.int .i64 0) := alloc_cell (World.cell?_alloc_new w #[.pointer none, .slice none 0 0, .int .i64 0] 62 2) _
  have HB0 := Lib.hid (show Below w.heap.size w ((w.alloc (.cells #[.pointer none, .slice none 0 0, .int .i64 0] 62)).alloc (.cells #[.pointer none, .pointer (some ⟨w.heap.size, 0, none⟩)] 28)) from bb (bal' w _) (bal' _ _))
  have HN := Lib.hid (show ∀ m : Nat, m < 2 → ∃ p, ((w.alloc (.cells #[.pointer none, .slice none 0 0, .int .i64 0] 62)).alloc (.cells #[.pointer none, .pointer (some ⟨w.heap.size, 0, none⟩)] 28)).cell? ⟨g, m, none⟩ = some (.pointer p) ∧ NoCoder ((w.alloc (.cells #[.pointer none, .slice none 0 0, .int .i64 0] 62)).alloc (.cells #[.pointer none, .pointer (some ⟨w.heap.size, 0, none⟩)] 28)) (.pointer p) from by
    subst hg
    intro m hm
    obtain rfl | rfl : m = 0 ∨ m = 1 := by omega
    · exact ⟨none, e0, .inl rfl⟩
    · exact ⟨_, e1, .inr ⟨_, rfl, e2⟩⟩)
  clear e0 e1 e2
  rw [← hg]
  clear hg
  generalize ((w.alloc (.cells #[.pointer none, .slice none 0 0, .int .i64 0] 62)).alloc (.cells #[.pointer none, .pointer (some ⟨w.heap.size, 0, none⟩)] 28)) = w1 at *
  go_loopw [2] (fun i wr => ∃ m : Nat, m ≤ 2 ∧ i = .int .i64 (m : Int) ∧ Below w1.heap.size w1 wr) (fun i _ => 2 - (intOf i).toNat)
  case atStart => exact ⟨0, Nat.zero_le _, rfl, Below.refl _ _⟩
  case round =>
    obtain ⟨m, hm, rfl, hB⟩ := hrel
    have HB := Lib.hid hB
    by_cases hlt : m < 2
    · obtain ⟨p, y1, hn⟩ := HN.out m hlt
      have y1 := (hB.cell (p := ⟨g, m, none⟩) (blt y1)).trans y1
      have HNO := Lib.hid (hn.below hB)
      clear hn hB
      go_wp2_with fail
      refine (encode_no wr _ _ HNO.out).mono ?_
      rintro e w' ⟨rfl, rfl⟩
      go_wp2_with fail
      refine (symbol_no wr _ _ _ HNO.out).mono ?_
      rintro e w' ⟨rfl, rfl⟩
      go_wp2_with fail
      refine (decode_no wr _ _ HNO.out).mono ?_
      rintro e w' ⟨rfl, rfl⟩
      go_wp2_with fail
      refine (turn_no wr _ _ HNO.out).mono ?_
      rintro e w' ⟨rfl, rfl⟩
      go_wp2
      go_roundw
      case rel => exact ⟨m + 1, by omega, by go_num, HB.out⟩
      case measure => simp [intOf]; omega
    · obtain rfl : m = 2 := by omega
      clear hB
      go_wp2
      go_ret
      exact ⟨rfl, bb HB0.out HB.out⟩
end -- EndA

section -- EndB
open Go.RowKit Go.Maps
set_option linter.unusedVariables false
set_option maxRecDepth 100000
set_option maxHeartbeats 8000000

/-- What an append makes; what was there stays. -/
theorem run_app_old {P : Program} {w : World} (base : Nat) (t ty e : TypeId) (i : TypeInfo) (z : Value) (ht : P.underlying t = some (.slice e)) (hi : P.info? e = some i) (hz : i.zero = some z) (hzs : z.cells.size = i.size)
    (v : Value) (n : Nat) (us : List Value) (hown : w.ownsRow base e i.size v n us) (g off : Nat) (m c : Nat) (news : List Value) (hl : news.length = m * i.size) (hm : 0 < m) (hnews : ∀ j u, news[j]? = some u → w.cell? ((⟨g, off, none⟩ : Addr).add j) = some u)
    (h1 : ∀ u ∈ news, u.oneCell' = true) (h63 : n + m ≤ 9223372036854775807) (hbytes : (n + m) * i.bytes ≤ 140737488355328) (hbase : base ≤ w.heap.size) :
    ∃ g' c' w', (Builtin.append_ #[t, t] ty #[v, .slice (some ⟨g, off, none⟩) m c]).run P w = .ok (.slice (some ⟨g', 0, none⟩) (n + m) c') w' ∧ w'.ownsRow base e i.size (.slice (some ⟨g', 0, none⟩) (n + m) c') (n + m) (us ++ news) ∧
      w'.ownsRow base e i.size v n us ∧ Kept (fun k => v.ownBlock = some k) w w' ∧ (v.ownBlock = some g' ∨ w.heap.size ≤ g') := by
  obtain ⟨g', c', w', hr, ho, hor⟩ := run_app_or base t ty e i z ht hi hz hzs v n us hown g off m c news hl hm hnews h1 h63 hbytes hbase
  refine ⟨g', c', w', hr, ho, ?_⟩
  rcases hor with ⟨rfl, hk⟩ | ⟨hk, hg⟩
  · refine ⟨?_, hk.mono (fun b _ e => by rw [e]; rfl), .inl rfl⟩
    obtain ⟨a, b⟩ := ho
    rcases b with ⟨e, _⟩ | ⟨g0, cap, cur, e, b1, b2, b3, b4, b5, b6⟩
    · cases e
    · simp only [Value.slice.injEq, Option.some.injEq, Addr.mk.injEq, true_and, and_true] at e
      obtain ⟨rfl, rfl⟩ := e
      refine ⟨hown.1, .inr ⟨g', c', cur, rfl, b1, b2, by omega, b4, b5, ?_⟩⟩
      have := congrArg (List.take (n * i.size)) b6
      rw [List.take_take, Nat.min_eq_left (Nat.mul_le_mul_right _ (by omega)), ← hown.1, List.take_left] at this
      rw [← hown.1]; exact this
  · exact ⟨ownsRow_keptS hown hk (fun _ _ h => h), hk.mono (fun _ _ h => h.elim), .inr hg⟩

theorem bv_wrap (z : Int) : ∃ x : B, bv x = .int .u8 (IntKind.u8.wrap z) := by
  refine ⟨ofB (z % 256).toNat, ?_⟩
  show Value.int .u8 (((ofB (z % 256).toNat).v : Nat) : Int) = _
  rw [ofB_v (by omega)]
  congr 1
  simp [IntKind.wrap, IntKind.signed, IntKind.bits]
  omega

theorem PairsU.push {hs : List (Int × List B)} {ul us : List Value} {ix : Int} {u : Value} {l : List B} (h : PairsU hs ul us) (hul : us.length = hs.length * 2) : PairsU (hs ++ [(ix, l)]) (ul ++ [u]) (us ++ [.int .i64 ix, u]) := by
  have h2 : PairsU ((hs ++ [(ix, l)]).take hs.length) ul us := by rw [List.take_left]; exact h
  have := h2.snoc (m := hs.length) (ix := ix) (u := u) (by simp) hul (by simp [List.getD_eq_getElem?_getD])
  rwa [show hs.length + 1 = (hs ++ [(ix, l)]).length by simp, List.take_length] at this

/-- Rows; held symbols; apart. -/
structure EndInv (w : World) (base : Nat) (v3 v4 : Value) (ls : List (List B)) (hs : List (Int × List B)) (us ul us4 : List Value) : Prop where
  o3 : w.ownsRow base 51 1 v3 ls.length us
  r3 : ∀ i u, us[i]? = some u → BytesAt w u (ls.getD i [])
  o4 : w.ownsRow base 57 2 v4 hs.length us4
  p4 : PairsU hs ul us4
  r4 : ∀ i u, ul[i]? = some u → BytesAt w u (hs.getD i (0, [])).2
  ne : ∀ b, v3.ownBlock = some b → v4.ownBlock ≠ some b
  rn : ∀ u, (u ∈ us ∨ u ∈ ul) → ∀ b, u.ownBlock = some b → b < w.heap.size ∧ v3.ownBlock ≠ some b ∧ v4.ownBlock ≠ some b
section
variable {w w' : World} {base : Nat} {v3 v4 : Value} {ls : List (List B)} {hs : List (Int × List B)} {us ul us4 : List Value}
theorem EndInv.start (w : World) (base : Nat) : EndInv w base (.slice none 0 0) (.slice none 0 0) [] [] [] [] [] :=
  ⟨World.ownsRow_nil _ _ _ _, fun i u h => by simp at h, World.ownsRow_nil _ _ _ _, ⟨rfl, fun i h => absurd h (by simp)⟩, fun i u h => by simp at h, fun b h => (by cases h), fun u h => (by simp at h)⟩
theorem EndInv.rows (h : EndInv w base v3 v4 ls hs us ul us4) : RowsAt w v3 ls := RowsAt.of_owns h.o3 h.r3
theorem EndInv.held (h : EndInv w base v3 v4 ls hs us ul us4) : HeldAt w v4 hs := held_of h.o4 h.p4 h.r4
theorem EndInv.below (h : EndInv w base v3 v4 ls hs us ul us4) (hb : Below w.heap.size w w') : EndInv w' base v3 v4 ls hs us ul us4 :=
  ⟨ownsRow_keptS h.o3 (Kept.below hb) (fun _ _ h => h), fun i u hu => (h.r3 i u hu).below hb, ownsRow_keptS h.o4 (Kept.below hb) (fun _ _ h => h), h.p4, fun i u hu => (h.r4 i u hu).below hb, h.ne,
    fun u hu b e => ⟨Nat.lt_of_lt_of_le (h.rn u hu b e).1 hb.size, (h.rn u hu b e).2⟩⟩
/-- Rows that were there, behind an append to the first. -/
theorem EndInv.old3 (h : EndInv w base v3 v4 ls hs us ul us4) (hk : Kept (fun k => v3.ownBlock = some k) w w') (ho : w'.ownsRow base 51 1 v3 ls.length us) : EndInv w' base v3 v4 ls hs us ul us4 :=
  ⟨ho, fun i u hu => (h.r3 i u hu).kept1 hk (fun k e e2 => (h.rn u (.inl (List.mem_of_getElem? hu)) k e).2.1 e2), ownsRow_keptS h.o4 hk (fun b e e2 => h.ne b e2 e), h.p4,
    fun i u hu => (h.r4 i u hu).kept1 hk (fun k e e2 => (h.rn u (.inr (List.mem_of_getElem? hu)) k e).2.1 e2), h.ne, fun u hu b e => ⟨Nat.lt_of_lt_of_le (h.rn u hu b e).1 hk.size, (h.rn u hu b e).2⟩⟩
theorem EndInv.old4 (h : EndInv w base v3 v4 ls hs us ul us4) (hk : Kept (fun k => v4.ownBlock = some k) w w') (ho : w'.ownsRow base 57 2 v4 hs.length us4) : EndInv w' base v3 v4 ls hs us ul us4 :=
  ⟨ownsRow_keptS h.o3 hk (fun b e e2 => h.ne b e e2), fun i u hu => (h.r3 i u hu).kept1 hk (fun k e e2 => (h.rn u (.inl (List.mem_of_getElem? hu)) k e).2.2 e2), ho, h.p4,
    fun i u hu => (h.r4 i u hu).kept1 hk (fun k e e2 => (h.rn u (.inr (List.mem_of_getElem? hu)) k e).2.2 e2), h.ne, fun u hu b e => ⟨Nat.lt_of_lt_of_le (h.rn u hu b e).1 hk.size, (h.rn u hu b e).2⟩⟩
theorem EndInv.push3 {u : Value} {l : List B} {g' c' : Nat} (h : EndInv w base v3 v4 ls hs us ul us4) (hu : BytesAt w u l) (hub : ∀ b, u.ownBlock = some b → b < w.heap.size ∧ v3.ownBlock ≠ some b ∧ v4.ownBlock ≠ some b) (hk : Kept (fun k => v3.ownBlock = some k) w w')
    (ho : w'.ownsRow base 51 1 (.slice (some ⟨g', 0, none⟩) (ls.length + 1) c') (ls.length + 1) (us ++ [u])) (hg : v3.ownBlock = some g' ∨ w.heap.size ≤ g') : EndInv w' base (.slice (some ⟨g', 0, none⟩) (ls.length + 1) c') v4 (ls ++ [l]) hs (us ++ [u]) ul us4 := by
  have hul : us.length = ls.length := by have := h.o3.1; omega
  have far : ∀ (z : Value) (b : Nat), (∀ b, z.ownBlock = some b → b < w.heap.size ∧ v3.ownBlock ≠ some b ∧ v4.ownBlock ≠ some b) → z.ownBlock = some b → b < w'.heap.size ∧ (Value.slice (some ⟨g', 0, none⟩) (ls.length + 1) c').ownBlock ≠ some b ∧ v4.ownBlock ≠ some b := fun z b hz e => by
    refine ⟨Nat.lt_of_lt_of_le (hz b e).1 hk.size, fun e2 => ?_, (hz b e).2.2⟩
    have e' : g' = b := own_is e2
    rcases hg with q | q
    · exact (hz b e).2.1 (by rw [q, e'])
    · have := (hz b e).1; omega
  refine ⟨by rw [List.length_append]; exact ho, fun i z hz => ?_, ownsRow_keptS h.o4 hk (fun b e e2 => h.ne b e2 e), h.p4, fun i z hz => (h.r4 i z hz).kept1 hk (fun k e e2 => (h.rn z (.inr (List.mem_of_getElem? hz)) k e).2.1 e2), fun b e e2 => ?_, fun z hz b e => ?_⟩
  · by_cases e : i < us.length
    · rw [List.getElem?_append_left e] at hz
      rw [getD_snoc_lt (by omega)]
      exact (h.r3 i z hz).kept1 hk (fun k e e2 => (h.rn z (.inl (List.mem_of_getElem? hz)) k e).2.1 e2)
    · have hi' : i = us.length := by
        have := (List.getElem?_eq_some_iff.1 hz).1
        simp at this; omega
      subst hi'
      have e2 : z = u := by simpa using hz.symm
      subst e2
      rw [hul, getD_snoc_last]
      exact hu.kept1 hk (fun k e e2 => (hub k e).2.1 e2)
  · have e' : g' = b := own_is e
    rcases hg with q | q
    · exact h.ne b (by rw [q, e']) e2
    · have := (h.o4.lt b e2).2; omega
  · rcases hz with hz | hz
    · rcases List.mem_append.1 hz with hz | hz
      · exact far z b (h.rn z (.inl hz)) e
      · rw [List.mem_singleton] at hz
        subst hz
        exact far z b hub e
    · exact far z b (h.rn z (.inr hz)) e
theorem EndInv.push4 {u : Value} {ix : Int} {l : List B} {g' c' : Nat} (h : EndInv w base v3 v4 ls hs us ul us4) (hu : BytesAt w u l) (hub : ∀ b, u.ownBlock = some b → b < w.heap.size ∧ v3.ownBlock ≠ some b ∧ v4.ownBlock ≠ some b) (hk : Kept (fun k => v4.ownBlock = some k) w w')
    (ho : w'.ownsRow base 57 2 (.slice (some ⟨g', 0, none⟩) (hs.length + 1) c') (hs.length + 1) (us4 ++ [.int .i64 ix, u])) (hg : v4.ownBlock = some g' ∨ w.heap.size ≤ g') : EndInv w' base v3 (.slice (some ⟨g', 0, none⟩) (hs.length + 1) c') ls (hs ++ [(ix, l)]) us (ul ++ [u]) (us4 ++ [.int .i64 ix, u]) := by
  have hul : ul.length = hs.length := h.p4.1
  have far : ∀ (z : Value) (b : Nat), (∀ b, z.ownBlock = some b → b < w.heap.size ∧ v3.ownBlock ≠ some b ∧ v4.ownBlock ≠ some b) → z.ownBlock = some b → b < w'.heap.size ∧ v3.ownBlock ≠ some b ∧ (Value.slice (some ⟨g', 0, none⟩) (hs.length + 1) c').ownBlock ≠ some b := fun z b hz e => by
    refine ⟨Nat.lt_of_lt_of_le (hz b e).1 hk.size, (hz b e).2.1, fun e2 => ?_⟩
    have e' : g' = b := own_is e2
    rcases hg with q | q
    · exact (hz b e).2.2 (by rw [q, e'])
    · have := (hz b e).1; omega
  refine ⟨ownsRow_keptS h.o3 hk (fun b e e2 => h.ne b e e2), fun i z hz => (h.r3 i z hz).kept1 hk (fun k e e2 => (h.rn z (.inl (List.mem_of_getElem? hz)) k e).2.2 e2), by rw [List.length_append]; exact ho, h.p4.push h.o4.1, fun i z hz => ?_, fun b e e2 => ?_, fun z hz b e => ?_⟩
  · by_cases e : i < ul.length
    · rw [List.getElem?_append_left e] at hz
      have : (hs ++ [(ix, l)]).getD i (0, []) = hs.getD i (0, []) := by
        rw [List.getD_eq_getElem?_getD, List.getElem?_append_left (by omega), ← List.getD_eq_getElem?_getD]
      rw [this]
      exact (h.r4 i z hz).kept1 hk (fun k e e2 => (h.rn z (.inr (List.mem_of_getElem? hz)) k e).2.2 e2)
    · have hi' : i = ul.length := by
        have := (List.getElem?_eq_some_iff.1 hz).1
        simp at this; omega
      subst hi'
      have e2 : z = u := by simpa using hz.symm
      subst e2
      have : (hs ++ [(ix, l)]).getD ul.length (0, []) = (ix, l) := by rw [hul]; simp [List.getD_eq_getElem?_getD]
      rw [this]
      exact hu.kept1 hk (fun k e e2 => (hub k e).2.2 e2)
  · have e' : g' = b := own_is e2
    rcases hg with q | q
    · exact h.ne b e (by rw [q, e'])
    · have := (h.o3.lt b e).2; omega
  · rcases hz with hz | hz
    · exact far z b (h.rn z (.inl hz)) e
    · rcases List.mem_append.1 hz with hz | hz
      · exact far z b (h.rn z (.inr hz)) e
      · rw [List.mem_singleton] at hz
        subst hz
        exact far z b hub e
theorem EndInv.push3n {u : Value} {l : List B} {n g' c' : Nat} (h : EndInv w base v3 v4 ls hs us ul us4) (hn : ls.length = n) (hu : BytesAt w u l) (hub : ∀ b, u.ownBlock = some b → b < w.heap.size ∧ v3.ownBlock ≠ some b ∧ v4.ownBlock ≠ some b) (hk : Kept (fun k => v3.ownBlock = some k) w w')
    (ho : w'.ownsRow base 51 1 (.slice (some ⟨g', 0, none⟩) (n + 1) c') (n + 1) (us ++ [u])) (hg : v3.ownBlock = some g' ∨ w.heap.size ≤ g') : EndInv w' base (.slice (some ⟨g', 0, none⟩) (n + 1) c') v4 (ls ++ [l]) hs (us ++ [u]) ul us4 := by
  subst hn
  exact h.push3 hu hub hk ho hg
theorem EndInv.push4n {u : Value} {ix : Int} {l : List B} {n g' c' : Nat} (h : EndInv w base v3 v4 ls hs us ul us4) (hn : hs.length = n) (hu : BytesAt w u l) (hub : ∀ b, u.ownBlock = some b → b < w.heap.size ∧ v3.ownBlock ≠ some b ∧ v4.ownBlock ≠ some b) (hk : Kept (fun k => v4.ownBlock = some k) w w')
    (ho : w'.ownsRow base 57 2 (.slice (some ⟨g', 0, none⟩) (n + 1) c') (n + 1) (us4 ++ [.int .i64 ix, u])) (hg : v4.ownBlock = some g' ∨ w.heap.size ≤ g') : EndInv w' base v3 (.slice (some ⟨g', 0, none⟩) (n + 1) c') ls (hs ++ [(ix, l)]) us (ul ++ [u]) (us4 ++ [.int .i64 ix, u]) := by
  subst hn
  exact h.push4 hu hub hk ho hg
theorem EndInv.o3n {n : Nat} (h : EndInv w base v3 v4 ls hs us ul us4) (hn : ls.length = n) : w.ownsRow base 51 1 v3 n us := hn ▸ h.o3
theorem EndInv.o4n {n : Nat} (h : EndInv w base v3 v4 ls hs us ul us4) (hn : hs.length = n) : w.ownsRow base 57 2 v4 n us4 := hn ▸ h.o4
/-- A row of a literal, in a new block. -/
theorem EndInv.fresh (h : EndInv w base v3 v4 ls hs us ul us4) (x : Obj) (n c : Nat) : ∀ b, (Value.slice (some ⟨w.heap.size, 0, none⟩) n c).ownBlock = some b → b < (w.alloc x).heap.size ∧ v3.ownBlock ≠ some b ∧ v4.ownBlock ≠ some b := fun b e => by
  have e' : w.heap.size = b := own_is e
  subst e'
  exact ⟨by simp, fun e => by have := (h.o3.lt _ e).2; omega, fun e => by have := (h.o4.lt _ e).2; omega⟩
end
/-- The bytes of a literal. -/
theorem lit_bytes (w : World) (zs : List Int) (l : List B) (n : Nat) (hn : zs.length = n) (hz : l.map bv = zs.map (Value.int .u8)) : BytesAt (w.alloc (.cells (zs.map (Value.int .u8)).toArray 5)) (.slice (some ⟨w.heap.size, 0, none⟩) n n) l := by
  have hl : l.length = n := by have := congrArg List.length hz; simp at this; omega
  subst hn
  rw [← hl]
  refine ⟨_, _, rfl, fun h0 => ⟨w.heap.size, 0, rfl, fun i hi => ?_⟩⟩
  rw [Nat.zero_add]
  have := World.cell?_alloc_new w (zs.map (Value.int .u8)).toArray 5 i
  rw [this, ← hz]
  simp [hi, List.getD_eq_getElem?_getD]
theorem lit_some (zs : List Int) (h : ∀ z ∈ zs, 0 ≤ z ∧ z < 256) : ∃ l : List B, l.length = zs.length ∧ l.map bv = zs.map (Value.int .u8) := by
  induction zs with
  | nil => exact ⟨[], rfl, rfl⟩
  | cons z zs ih =>
    obtain ⟨l, h1, h2⟩ := ih (fun z hz => h z (List.mem_cons_of_mem _ hz))
    have hz := h z List.mem_cons_self
    refine ⟨ofB z.toNat :: l, by simp [h1], ?_⟩
    rw [List.map_cons, List.map_cons, h2]
    congr 1
    show Value.int .u8 (((ofB z.toNat).v : Nat) : Int) = _
    rw [ofB_v (by omega)]
    congr 1
    omega
end -- EndB

section -- EndC
open Go.RowKit Go.Maps
set_option linter.unusedVariables false
set_option maxRecDepth 100000
set_option maxHeartbeats 8000000

theorem step_old {ops : Array Oper} {o : Oper} {a : Act} {W : World} {K : Act → World → Prop} {Q : Exit → Act → World → Prop} {E : Prop} (t e : TypeId) (size bytes : Nat) (z : Value) (ht : Tryz.prog.underlying t = some (.slice e))
    (hinfo : (Tryz.prog.info? e).map (fun i => (i.zero, i.size, i.bytes)) = some (some z, size, bytes)) (hzs : z.cells.size = size) (hby : bytes ≤ 64)
    (hw : Region.wanted o (yielded ops a.tmps) = true) (s x : Operand) (ho : o.op = .call { callee := .builtin .append, args := #[s, x], argTypes := #[t, t] })
    (base n : Nat) (v : Value) (us : List Value) (hs : a.eval s = v) (hown : W.ownsRow base e size v n us) (g : Nat) (news : List Value) (hl : news.length = size) (h1 : ∀ u ∈ news, u.oneCell' = true)
    (hx : a.eval x = .slice (some ⟨g, 0, none⟩) 1 1) (hc : ∀ j u, news[j]? = some u → W.cell? ⟨g, j, none⟩ = some u) (hn : n < 1000000000000) (hbase : base ≤ W.heap.size)
    (h : ∀ g' c' w', w'.ownsRow base e size (.slice (some ⟨g', 0, none⟩) (n + 1) c') (n + 1) (us ++ news) → w'.ownsRow base e size v n us → Kept (fun k => v.ownBlock = some k) W w' → (v.ownBlock = some g' ∨ W.heap.size ≤ g') →
      K (a.put o.dst (.slice (some ⟨g', 0, none⟩) (n + 1) c')) w') :
    if Region.wanted o (yielded ops a.tmps) = true then Oper.wp Tryz.prog o a W K Q else E := by
  rw [if_pos hw]
  obtain ⟨i, hi, hz, hsize, hbytes⟩ := info_parts hinfo
  rw [← hsize] at hown
  obtain ⟨g', c', w', hr, h3, h2, h4, h5⟩ := run_app_old (P := Tryz.prog) (w := W) base t o.type e i z ht hi hz (by rw [hzs, hsize]) v n us hown g 0 1 1 news (by rw [hl, hsize]; omega) (by omega) (fun j y hj => by
      rw [add_off, Nat.zero_add]
      exact hc j y hj) h1 (by omega) (by rw [hbytes]; have := Nat.mul_le_mul_left (n + 1) hby; omega) hbase
  rw [hsize] at h3 h2
  have h6 := h g' c' w' h3 h2 h4 h5
  unfold Oper.wp execOp
  simp only [ho, resolve, invoke, builtin, Sem.run_bind, Sem.run_pure, Result.andThen_ok, List.map_toArray, List.map_cons, List.map_nil, hs, hx, hr]
  exact h6

section
variable {ops : Array Oper} {o : Oper} {a : Act} {W : World} {K : Act → World → Prop} {Q : Exit → Act → World → Prop} {E : Prop} {base : Nat} {v3 v4 : Value} {ls : List (List B)} {hs : List (Int × List B)} {us ul us4 : List Value}
/-- Append to the rows. -/
theorem step_end3 (hE : EndInv W base v3 v4 ls hs us ul us4) (hw : Region.wanted o (yielded ops a.tmps) = true) (s x : Operand) (ho : o.op = .call { callee := .builtin .append, args := #[s, x], argTypes := #[25, 25] })
    (n : Nat) (hn : ls.length = n) (hs3 : a.eval s = v3) (g : Nat) (u : Value) (l : List B) (h1 : u.oneCell' = true) (hx : a.eval x = .slice (some ⟨g, 0, none⟩) 1 1) (hc : W.cell? ⟨g, 0, none⟩ = some u) (hu : BytesAt W u l) (hub : ∀ b, u.ownBlock = some b → v3.ownBlock ≠ some b)
    (hn2 : n < 1000000000000) (hbase : base ≤ W.heap.size)
    (h : ∀ g' c' w', RowsAt w' (.slice (some ⟨g', 0, none⟩) (n + 1) c') (ls ++ [l]) → EndInv w' base v3 v4 ls hs us ul us4 → Kept (fun k => v3.ownBlock = some k) W w' → K (a.put o.dst (.slice (some ⟨g', 0, none⟩) (n + 1) c')) w') :
    if Region.wanted o (yielded ops a.tmps) = true then Oper.wp Tryz.prog o a W K Q else E := by
  subst hn
  refine step_old 25 51 1 24 (.slice none 0 0) Tryz.underlying25 infoR rfl (by decide) hw s x ho base ls.length v3 us hs3 hE.o3 g [u] rfl (by simpa using h1) hx (fun j y hj => ?_) hn2 hbase ?_
  · cases j with
    | zero => rw [← (by simpa using hj : u = y)]; exact hc
    | succ j => simp at hj
  · intro g' c' w' ho1 ho2 hk hg
    refine h g' c' w' ?_ (hE.old3 hk ho2) hk
    refine RowsAt.of_owns (us := us ++ [u]) (by rw [List.length_append]; exact ho1) (fun i z hz => ?_)
    have hul : us.length = ls.length := by have := hE.o3.1; omega
    by_cases e : i < us.length
    · rw [List.getElem?_append_left e] at hz
      rw [getD_snoc_lt (by omega)]
      exact (hE.old3 hk ho2).r3 i z hz
    · have hi' : i = us.length := by
        have := (List.getElem?_eq_some_iff.1 hz).1
        simp at this; omega
      subst hi'
      have e2 : z = u := by simpa using hz.symm
      subst e2
      rw [hul, getD_snoc_last]
      exact hu.kept1 hk (fun k e e2 => hub k e e2)
/-- Append to the held symbols. -/
theorem step_end4 (hE : EndInv W base v3 v4 ls hs us ul us4) (hw : Region.wanted o (yielded ops a.tmps) = true) (s x : Operand) (ho : o.op = .call { callee := .builtin .append, args := #[s, x], argTypes := #[22, 22] })
    (n : Nat) (hn : hs.length = n) (hs4 : a.eval s = v4) (g : Nat) (ix : Int) (u : Value) (l : List B) (h1 : u.oneCell' = true) (hx : a.eval x = .slice (some ⟨g, 0, none⟩) 1 1) (hc : W.cell? ⟨g, 0, none⟩ = some (.int .i64 ix)) (hc2 : W.cell? ⟨g, 1, none⟩ = some u) (hu : BytesAt W u l) (hub : ∀ b, u.ownBlock = some b → v4.ownBlock ≠ some b)
    (hn2 : n < 1000000000000) (hbase : base ≤ W.heap.size)
    (h : ∀ g' c' w', HeldAt w' (.slice (some ⟨g', 0, none⟩) (n + 1) c') (hs ++ [(ix, l)]) → EndInv w' base v3 v4 ls hs us ul us4 → Kept (fun k => v4.ownBlock = some k) W w' → K (a.put o.dst (.slice (some ⟨g', 0, none⟩) (n + 1) c')) w') :
    if Region.wanted o (yielded ops a.tmps) = true then Oper.wp Tryz.prog o a W K Q else E := by
  subst hn
  refine step_old 22 57 2 32 (.agg #[.int .i64 0, .slice none 0 0]) Tryz.underlying22 infoH2 rfl (by decide) hw s x ho base hs.length v4 us4 hs4 hE.o4 g [.int .i64 ix, u] rfl (fun y hy => ?_) hx (fun j y hj => ?_) hn2 hbase ?_
  · rcases List.mem_cons.1 hy with rfl | hy
    · rfl
    · rw [List.mem_singleton] at hy; subst hy; exact h1
  · cases j with
    | zero => rw [← (by simpa using hj : Value.int .i64 ix = y)]; exact hc
    | succ j =>
      cases j with
      | zero => rw [← (by simpa using hj : u = y)]; exact hc2
      | succ j => simp at hj
  · intro g' c' w' ho1 ho2 hk hg
    refine h g' c' w' ?_ (hE.old4 hk ho2) hk
    refine held_of (us := us4 ++ [.int .i64 ix, u]) (ul := ul ++ [u]) (by rw [List.length_append]; exact ho1) (hE.p4.push hE.o4.1) (fun i z hz => ?_)
    have hul : ul.length = hs.length := hE.p4.1
    by_cases e : i < ul.length
    · rw [List.getElem?_append_left e] at hz
      have : (hs ++ [(ix, l)]).getD i (0, []) = hs.getD i (0, []) := by
        rw [List.getD_eq_getElem?_getD, List.getElem?_append_left (by omega), ← List.getD_eq_getElem?_getD]
      rw [this]
      exact (hE.old4 hk ho2).r4 i z hz
    · have hi' : i = ul.length := by
        have := (List.getElem?_eq_some_iff.1 hz).1
        simp at this; omega
      subst hi'
      have e2 : z = u := by simpa using hz.symm
      subst e2
      have : (hs ++ [(ix, l)]).getD ul.length (0, []) = (ix, l) := by rw [hul]; simp [List.getD_eq_getElem?_getD]
      rw [this]
      exact hu.kept1 hk (fun k e e2 => hub k e e2)
end

/-- Cells of a second, a third block. -/
theorem cell_two (w : World) (x : Obj) (C : Array Value) (t : TypeId) (i : Nat) : ((w.alloc x).alloc (.cells C t)).cell? ⟨w.heap.size + 1, i, none⟩ = C[i]? := by
  have := World.cell?_alloc_new (w.alloc x) C t i
  rwa [show (w.alloc x).heap.size = w.heap.size + 1 by simp] at this
theorem cell_three (w : World) (x y : Obj) (C : Array Value) (t : TypeId) (i : Nat) : (((w.alloc x).alloc y).alloc (.cells C t)).cell? ⟨w.heap.size + 2, i, none⟩ = C[i]? := by
  have := World.cell?_alloc_new ((w.alloc x).alloc y) C t i
  rwa [show ((w.alloc x).alloc y).heap.size = w.heap.size + 2 by simp] at this
theorem bytes_cells {w : World} {g n : Nat} {l : List B} (hl : l.length = n) (h : ∀ i, i < n → w.cell? ⟨g, i, none⟩ = some (bv (l.getD i 0))) : BytesAt w (.slice (some ⟨g, 0, none⟩) n n) l := by
  subst hl
  exact ⟨_, _, rfl, fun h0 => ⟨g, 0, rfl, fun i hi => by rw [Nat.zero_add]; exact h i hi⟩⟩
theorem ints_cells {w : World} {g n c : Nat} {l : List Int} (hl : l.length = n) (hc : n ≤ c) (h : ∀ i, i < n → w.cell? ⟨g, i, none⟩ = some (.int .i64 (l.getD i 0))) : IntsAt w (.slice (some ⟨g, 0, none⟩) n c) l := by
  subst hl
  exact ⟨_, _, rfl, hc, fun h0 => ⟨g, 0, rfl, fun i hi => by rw [Nat.zero_add]; exact h i hi⟩⟩
theorem rows_made (w : World) (n : Nat) : RowsAt (w.alloc (.cells (Array.replicate n (.slice none 0 0)) 51)) (.slice (some ⟨w.heap.size, 0, none⟩) n n) (List.replicate n []) := by
  refine ⟨some ⟨w.heap.size, 0, none⟩, n, by simp, fun h0 => ⟨_, 0, rfl, fun i hi => ⟨.slice none 0 0, ?_, ?_⟩⟩⟩
  · rw [Nat.zero_add]
    refine (World.cell?_alloc_new w _ _ i).trans ?_
    simp at hi
    simp [hi]
  · simp at hi
    rw [List.getD_eq_getElem?_getD, List.getElem?_replicate, if_pos hi]
    exact ⟨none, 0, rfl, fun h => absurd h (by simp)⟩

theorem below_app {w W W' : World} {v : Value} (h : Below w.heap.size w W) (hk : Kept (fun k => v.ownBlock = some k) W W') (hv : ∀ b, v.ownBlock = some b → w.heap.size ≤ b) : Below w.heap.size w W' := h.trans (hk.toBelow h.size hv)
theorem litOne (w : World) (x : Obj) : BytesAt ((w.alloc (.cells #[.int .u8 1] 5)).alloc x) (.slice (some ⟨w.heap.size, 0, none⟩) 1 1) [ofB 1] :=
  bytes_cells rfl (fun i hi => by
    obtain rfl : i = 0 := by omega
    exact alloc_cell (World.cell?_alloc_new w #[.int .u8 1] 5 0) _)
theorem lit444 {W : World} {g : Nat} (h0 : W.cell? ⟨g, 0, none⟩ = some (.int .u8 4)) (h1 : W.cell? ⟨g, 1, none⟩ = some (.int .u8 4)) (h2 : W.cell? ⟨g, 2, none⟩ = some (.int .u8 4)) : BytesAt W (.slice (some ⟨g, 0, none⟩) 3 3) [ofB 4, ofB 4, ofB 4] :=
  bytes_cells rfl (fun i hi => by
    obtain rfl | rfl | rfl : i = 0 ∨ i = 1 ∨ i = 2 := by omega
    · exact h0
    · exact h1
    · exact h2)
theorem bytes_nil (w : World) : BytesAt w (.slice none 0 0) [] := ⟨none, 0, rfl, fun h => absurd h (by simp)⟩
theorem ints_nil (w : World) : IntsAt w (.slice none 0 0) [] := ⟨none, 0, rfl, Nat.le_refl _, fun h => absurd h (by simp)⟩
theorem ints4 (w : World) (a b c d : Int) : IntsAt (w.alloc (.cells #[.int .i64 a, .int .i64 b, .int .i64 c, .int .i64 d] 3)) (.slice (some ⟨w.heap.size, 0, none⟩) 4 4) [a, b, c, d] :=
  ints_cells rfl (Nat.le_refl _) (fun i hi => by
    refine (World.cell?_alloc_new w _ _ i).trans ?_
    obtain rfl | rfl | rfl | rfl : i = 0 ∨ i = 1 ∨ i = 2 ∨ i = 3 := by omega
    all_goals rfl)
def six : Array Value := #[.int .i64 0, .int .i64 1, .int .i64 2, .int .i64 3, .int .i64 4, .int .i64 5]
theorem ints6 {W : World} {g : Nat} (n : Nat) (hn : n ≤ 6) (h : ∀ i, i < 6 → W.cell? ⟨g, i, none⟩ = six[i]?) : IntsAt W (.slice (some ⟨g, 0, none⟩) n 6) ([0, 1, 2, 3, 4, 5].take n) :=
  ints_cells (by simp; omega) hn (fun i hi => by
    rw [h i (by omega), getD_take hi]
    obtain rfl | rfl | rfl | rfl | rfl | rfl : i = 0 ∨ i = 1 ∨ i = 2 ∨ i = 3 ∨ i = 4 ∨ i = 5 := by omega
    all_goals rfl)
theorem wide_snoc {ls : List (List B)} {l : List B} {c : Nat} (h : ∀ j, (ls.getD j []).length ≤ c) (hl : l.length ≤ c) : ∀ j, ((ls ++ [l]).getD j []).length ≤ c := fun j => by
  by_cases e : j < ls.length
  · rw [getD_snoc_lt e]; exact h j
  · by_cases e2 : j = ls.length
    · rw [e2, getD_snoc_last]; exact hl
    · rw [List.getD_eq_getElem?_getD, List.getElem?_eq_none (by simp; omega)]; simp
theorem wide_snocH {hs : List (Int × List B)} {ix : Int} {l : List B} {c : Nat} (h : ∀ j, (hs.getD j (0, [])).2.length ≤ c) (hl : l.length ≤ c) : ∀ j, ((hs ++ [(ix, l)]).getD j (0, [])).2.length ≤ c := fun j => by
  by_cases e : j < hs.length
  · rw [List.getD_eq_getElem?_getD, List.getElem?_append_left e, ← List.getD_eq_getElem?_getD]; exact h j
  · by_cases e2 : j = hs.length
    · subst e2; simp [List.getD_eq_getElem?_getD]; exact hl
    · rw [List.getD_eq_getElem?_getD, List.getElem?_eq_none (by simp; omega)]; simp
theorem encCall (w : World) (n k : Int) (v : Value) (ls : List (List B)) (x : Int) (hv : RowsAt w v ls) (hl : ls.length ≤ 100) (hr : ∀ j, (ls.getD j []).length ≤ 3) (hx1 : -100 ≤ x) (hx2 : x ≤ 100) :
    Calls Tryz.prog 4 #[.int .i64 n, .int .i64 k, v, .int .i64 x] w fun e w' => e = .returned (.bool true) ∧ Below w.heap.size w w' :=
  codeEnc_any w n k v ls x hv (by omega) (fun i _ => by have := hr i; omega) (by omega) (by omega)
theorem decCall (w : World) (n k : Int) (v v2 : Value) (hs : List (Int × List B)) (xs : List Int) (hv : HeldAt w v hs) (hv2 : IntsAt w v2 xs) (hl : hs.length ≤ 100) (hr : ∀ j, (hs.getD j (0, [])).2.length ≤ 3) :
    Calls Tryz.prog 3 #[.int .i64 n, .int .i64 k, v, v2] w fun e w' => e = .returned (.bool true) ∧ Below w.heap.size w w' :=
  codeDec_any w n k v v2 hs xs hv hv2 (by omega) (fun i _ => by have := hr i; omega)

theorem alloc_six {w : World} {g i : Nat} (h : w.cell? ⟨g, i, none⟩ = six[i]?) (hi : i < 6) (x : Obj) : (w.alloc x).cell? ⟨g, i, none⟩ = six[i]? := by
  have e : six[i]? = some six[i] := Array.getElem?_eq_getElem (h := hi)
  rw [e] at h ⊢
  exact alloc_cell h x
theorem EndInv.far4 {w : World} {base : Nat} {v3 v4 : Value} {ls : List (List B)} {hs : List (Int × List B)} {us ul us4 : List Value} (h : EndInv w base v3 v4 ls hs us ul us4) {g : Nat} (hg : w.heap.size ≤ g) (n c : Nat) : ∀ b, (Value.slice (some ⟨g, 0, none⟩) n c).ownBlock = some b → v4.ownBlock ≠ some b := fun b e e2 => by
  have e' : g = b := own_is e
  have := (h.o4.lt b e2).2
  omega
/-- Append to the held symbols, beside the six numbers. -/
theorem step_end4s {ops : Array Oper} {o : Oper} {a : Act} {w W : World} {K : Act → World → Prop} {Q : Exit → Act → World → Prop} {E : Prop} {base : Nat} {v3 v4 : Value} {ls : List (List B)} {hs : List (Int × List B)} {us ul us4 : List Value} (hE : EndInv w base v3 v4 ls hs us ul us4) (hB : Below w.heap.size w W)
    (hw : Region.wanted o (yielded ops a.tmps) = true) (s x : Operand) (ho : o.op = .call { callee := .builtin .append, args := #[s, x], argTypes := #[22, 22] })
    (n : Nat) (hn : hs.length = n) (hs4 : a.eval s = v4) (g gr gs : Nat) (ix : Int) (hx : a.eval x = .slice (some ⟨g, 0, none⟩) 1 1) (hc : W.cell? ⟨g, 0, none⟩ = some (.int .i64 ix)) (hc2 : W.cell? ⟨g, 1, none⟩ = some (.slice (some ⟨gr, 0, none⟩) 3 3))
    (hu : BytesAt W (.slice (some ⟨gr, 0, none⟩) 3 3) [ofB 4, ofB 4, ofB 4]) (hgr : w.heap.size ≤ gr) (hgs : w.heap.size ≤ gs) (h6 : ∀ i, i < 6 → W.cell? ⟨gs, i, none⟩ = six[i]?)
    (hn2 : n < 1000000000000) (hbase : base ≤ W.heap.size)
    (h : ∀ g' c' w', HeldAt w' (.slice (some ⟨g', 0, none⟩) (n + 1) c') (hs ++ [(ix, [ofB 4, ofB 4, ofB 4])]) → EndInv w' base v3 v4 ls hs us ul us4 → Kept (fun k => v4.ownBlock = some k) W w' → (∀ N, N ≤ 6 → IntsAt w' (.slice (some ⟨gs, 0, none⟩) N 6) ([0, 1, 2, 3, 4, 5].take N)) → K (a.put o.dst (.slice (some ⟨g', 0, none⟩) (n + 1) c')) w') :
    if Region.wanted o (yielded ops a.tmps) = true then Oper.wp Tryz.prog o a W K Q else E := by
  refine step_end4 (hE.below hB) hw s x ho n hn hs4 g ix _ [ofB 4, ofB 4, ofB 4] rfl hx hc hc2 hu (hE.far4 hgr 3 3) hn2 hbase (fun g' c' w' hh he hk => h g' c' w' hh he hk (fun N hN => ints6 N hN (fun i hi => ?_)))
  have e : six[i]? = some six[i] := Array.getElem?_eq_getElem (h := hi)
  have hi6 := h6 i hi
  rw [e] at hi6 ⊢
  exact (hk.cell (p := ⟨gs, i, none⟩) (blt hi6) (fun e2 => by have := (hE.o4.lt gs e2).2; omega)).trans hi6
end -- EndC

section -- StepQ
open Go.RowKit Go.Maps
set_option linter.unusedVariables false
set_option maxRecDepth 100000
set_option maxHeartbeats 4000000

def Tru (_ : World) : Prop := True
section
variable {P : Program} {ops : Array Oper} {Q : Exit → Act → World → Prop} {fuel : Nat} {listed : Array Bool} {a : Act} {w : World}
/-- Begin. -/
theorem q_start {id : Nat} (n : Nat) (hn : ops.size = n) (hm : P.follows .mixedOrders = true) (h : wpAnyH P .any ops (NoPanic Q) Tru n (Array.replicate n false) a w.drew) : (Code.region id ops true).wp P Q a w :=
  wp_region_noPanic (wp_region_held_drew (S := Tru) hm trivial (fun _ => by rw [hn]; exact h))
/-- Take number i first. -/
theorem q_take (i : Nat) (hs : Region.noSelect ops = true) (hf : Region.free .any ops listed i = true) (hr : (Region.ready .any ops listed).contains i = true) (hi : (ops[i]?).isSome = true)
    (H : ∀ oi, ops[i]? = some oi → ∃ v, YieldsIf P ops Tru oi v a ∧ wpAnyH P .any ops (NoPanic Q) Tru fuel (listed.setIfInBounds i true) (a.put oi.dst v) w) : wpAnyH P .any ops (NoPanic Q) Tru (fuel + 1) listed a w := by
  obtain ⟨oi, ho⟩ := Option.isSome_iff_exists.1 hi
  obtain ⟨v, hy, h⟩ := H oi ho
  exact wpAnyH_take ho hs hf hr (fun _ _ _ h => h) hy trivial h
/-- Go through those that may come up. -/
theorem q_all {rs : List Nat} (hr : Region.ready .any ops listed = rs) (hne : rs ≠ []) (h : AllReadyH P .any ops (NoPanic Q) Tru fuel listed a w rs) : wpAnyH P .any ops (NoPanic Q) Tru (fuel + 1) listed a w := wpAnyH_ready hr hne h
theorem q_step (i : Nat) {rs : List Nat} (hi : (ops[i]?).isSome = true)
    (H : ∀ o, ops[i]? = some o → ∀ K : Act → World → Prop, Shut (∀ a w, wpAnyH P .any ops (NoPanic Q) Tru fuel (listed.setIfInBounds i true) a w → K a w) → if Region.wanted o (yielded ops a.tmps) = true then Oper.wp P o a w K (NoPanic Q) else K (a.put o.dst undef) w)
    (hs : AllReadyH P .any ops (NoPanic Q) Tru fuel listed a w rs) : AllReadyH P .any ops (NoPanic Q) Tru fuel listed a w (i :: rs) := by
  obtain ⟨o, ho⟩ := Option.isSome_iff_exists.1 hi
  exact AllReadyH.cons ho (fun K hK => H o ho K (fun a w h => hK a w trivial (fun _ => h))) hs
theorem q_done (hr : Region.ready .any ops listed = []) (h : Q .normal a w) : wpAnyH P .any ops (NoPanic Q) Tru fuel listed a w := wpAnyH_done hr (NoPanic.normal h) fuel
end
end -- StepQ

end Go.Proofs.YtaaahbpeaamjgaaGreat
