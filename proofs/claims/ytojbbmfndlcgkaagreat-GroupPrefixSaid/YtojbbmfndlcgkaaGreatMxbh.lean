/-
  GpR: What came in: a slice is as long as its capacity, at most.
  GpB: Layer 17, plain: bodies by their indexes, rising; what a group answers.
  GpC: Walks of layer 17: headers: between, Right, slices.Equal of rows, Like.
-/
import Derived.Test.YtojbbmfndlcgkaaGreatMxbg
import Derived.Test.YtojbbmfndlcgkaaGreatMxav
import Derived.Test.YtojbbmfndlcgkaaGreatMxax
import Derived.Test.YtojbbmfndlcgkaaGreatMxaw
namespace Go.Proofs.YtojbbmfndlcgkaaGreat

section -- GpR
open Go.ChangeShapes Go.WideShapes Go.ChangeAt Go.RowKit Go.Deep
set_option linter.unusedVariables false

section
variable {H : Type} {enc : TypeId × Value → H} {P : Program} {w : World}
theorem open_cap {t e : TypeId} {fuel : Nat} {v : Value} {x : DataW H × List MemPlace} (ht : P.underlying t = some (.slice e)) (ce : P.cellsOf e = 1)
    (h : DataW.trod enc P w 0 (fun _ => true) true fuel t [v] = some x) : ∀ p n c, v = Value.slice p n c → n ≤ c := by
  intro p n c hv
  rcases open_slice1 ht ce h with ⟨hc, _⟩ | ⟨a, len, cap, m, n', V, D, Pl, hc, _, hl, hm, hmm, _, hx⟩
  · obtain rfl : v = .slice none 0 0 := by simpa using hc
    simp only [Value.slice.injEq] at hv
    omega
  · obtain rfl : v = .slice (some a) len cap := by simpa using hc
    have hmm' : m = cap := by simpa using hmm
    simp only [Value.slice.injEq] at hv
    omega
end
end -- GpR

section -- GpB
set_option linter.unusedVariables false

/-- A header: of which stream, which frame; which datagram of how many; its deadline; its rows. -/
structure HeadV where
  stream : Int
  frame : Int
  index : Int
  n : Int
  deadline : Int
  rows : List (Int × Int)
deriving DecidableEq

/-- A header that is right. -/
def HeadOk (h : HeadV) : Prop := TableOk h.n h.rows ∧ 0 ≤ h.index ∧ h.index ≤ h.n - 1 ∧ 0 ≤ h.stream ∧ h.stream ≤ 65535 ∧ 1 ≤ h.frame ∧ h.frame ≤ 2147483647 ∧ 0 ≤ h.deadline ∧ h.deadline ≤ 2147483647
instance (h : HeadV) : Decidable (HeadOk h) := by unfold HeadOk; infer_instance
/-- Two of one frame. -/
def LikeH (a b : HeadV) : Prop := a.stream = b.stream ∧ a.frame = b.frame ∧ a.n = b.n ∧ a.deadline = b.deadline ∧ a.rows = b.rows
instance (a b : HeadV) : Decidable (LikeH a b) := by unfold LikeH; infer_instance

/-- A body more: where its index belongs. -/
def insH {α : Type} (k : Int) (x : α) : List (Int × α) → List (Int × α)
  | [] => [(k, x)]
  | (j, y) :: r => if k < j then (k, x) :: (j, y) :: r else (j, y) :: insH k x r
/-- Rising indexes. -/
def Rises {α : Type} (l : List (Int × α)) : Prop := l.Pairwise (fun a b => a.1 < b.1)
theorem insH_mem {α : Type} {k : Int} {x : α} {p : Int × α} : ∀ {l : List (Int × α)}, p ∈ insH k x l ↔ p = (k, x) ∨ p ∈ l
  | [] => by simp [insH]
  | (j, y) :: r => by
    unfold insH
    split
    · simp
    · rw [List.mem_cons, insH_mem, List.mem_cons]
      constructor
      · rintro (h | h | h)
        · exact .inr (.inl h)
        · exact .inl h
        · exact .inr (.inr h)
      · rintro (h | h | h)
        · exact .inr (.inl h)
        · exact .inl h
        · exact .inr (.inr h)
theorem insH_len {α : Type} {k : Int} {x : α} : ∀ {l : List (Int × α)}, (insH k x l).length = l.length + 1
  | [] => rfl
  | (j, y) :: r => by
    unfold insH
    split
    · rfl
    · rw [List.length_cons, insH_len, List.length_cons]
theorem insH_perm {α : Type} {k : Int} {x : α} : ∀ {l : List (Int × α)}, (insH k x l).Perm ((k, x) :: l)
  | [] => List.Perm.refl _
  | (j, y) :: r => by
    unfold insH
    split
    · exact List.Perm.refl _
    · exact (List.Perm.cons _ insH_perm).trans (List.Perm.swap _ _ _)
theorem insH_rises {α : Type} {k : Int} {x : α} : ∀ {l : List (Int × α)}, Rises l → (∀ p ∈ l, p.1 ≠ k) → Rises (insH k x l)
  | [], _, _ => by simp [insH, Rises]
  | (j, y) :: r, h, hn => by
    have h' := List.pairwise_cons.1 h
    unfold insH
    split
    · rename_i hk
      refine List.pairwise_cons.2 ⟨fun p hp => ?_, h⟩
      rcases List.mem_cons.1 hp with rfl | hp
      · exact hk
      · have := h'.1 p hp
        simp only at this ⊢
        omega
    · rename_i hk
      have hjk : j ≠ k := hn (j, y) (by simp)
      refine List.pairwise_cons.2 ⟨fun p hp => ?_, insH_rises h'.2 (fun p hp => hn p (by simp [hp]))⟩
      rcases insH_mem.1 hp with rfl | hp
      · simp only; omega
      · exact h'.1 p hp
theorem Rises.nodup {α : Type} {l : List (Int × α)} (h : Rises l) : (l.map (·.1)).Nodup := by
  refine List.pairwise_map.2 (h.imp ?_)
  intro a b hab
  omega
/-- Lists that rise and hold the same are the same. -/
theorem Rises.eq {α : Type} {l m : List (Int × α)} (hl : Rises l) (hm : Rises m) (hp : l.Perm m) : l = m :=
  List.Perm.eq_of_pairwise (le := fun (a b : Int × α) => a.1 < b.1) (fun a b _ _ h1 h2 => by omega) hl hm hp

/-- What Take answers. -/
def takeE (H : HeadV) (hs : List (Int × List B)) (h : HeadV) (b : List B) : Int :=
  if ¬ (HeadOk h ∧ LikeH h H) then 13 else if b.length ≠ atT H.rows H.rows.length then 2 else if h.index ∈ hs.map (·.1) then 9 else 0
/-- What is held behind it. -/
def takeH (H : HeadV) (hs : List (Int × List B)) (h : HeadV) (b : List B) : List (Int × List B) := if takeE H hs h b = 0 then insH h.index b hs else hs
end -- GpB

section -- GpC
open Go.RowKit Go.Maps
set_option linter.unusedVariables false
set_option linter.unusedSimpArgs false
set_option maxRecDepth 100000
set_option maxHeartbeats 2000000

/-- A header as a value; as a block of cells. -/
abbrev headVal (h : HeadV) (v : Value) : Value := .agg #[.int .i64 h.stream, .int .i64 h.frame, .int .i64 h.index, .int .i64 h.n, .int .i64 h.deadline, v]
def HeadBox (w : World) (g : Nat) (h : HeadV) (v : Value) : Prop := w.heap[g]? = some (.cells #[.int .i64 h.stream, .int .i64 h.frame, .int .i64 h.index, .int .i64 h.n, .int .i64 h.deadline, v] 31 (0, 0))
section
variable {w w' : World} {g : Nat} {h : HeadV} {v : Value}
theorem HeadBox.new (w : World) (h : HeadV) (v : Value) : HeadBox (w.alloc (.cells #[.int .i64 h.stream, .int .i64 h.frame, .int .i64 h.index, .int .i64 h.n, .int .i64 h.deadline, v] 31)) w.heap.size h v := heap_alloc_new w _
theorem HeadBox.lt (hb : HeadBox w g h v) : g < w.heap.size := (Array.getElem?_eq_some_iff.1 hb).1
theorem HeadBox.below (hb : HeadBox w g h v) (hB : Below w.heap.size w w') : HeadBox w' g h v := (hB.block g hb.lt).trans hb
theorem HeadBox.c0 (hb : HeadBox w g h v) : w.cell? ⟨g, 0, none⟩ = some (.int .i64 h.stream) := by rw [cell_of hb]; rfl
theorem HeadBox.c1 (hb : HeadBox w g h v) : w.cell? ⟨g, 1, none⟩ = some (.int .i64 h.frame) := by rw [cell_of hb]; rfl
theorem HeadBox.c2 (hb : HeadBox w g h v) : w.cell? ⟨g, 2, none⟩ = some (.int .i64 h.index) := by rw [cell_of hb]; rfl
theorem HeadBox.c3 (hb : HeadBox w g h v) : w.cell? ⟨g, 3, none⟩ = some (.int .i64 h.n) := by rw [cell_of hb]; rfl
theorem HeadBox.c4 (hb : HeadBox w g h v) : w.cell? ⟨g, 4, none⟩ = some (.int .i64 h.deadline) := by rw [cell_of hb]; rfl
theorem HeadBox.c5 (hb : HeadBox w g h v) : w.cell? ⟨g, 5, none⟩ = some v := by rw [cell_of hb]; rfl
end

theorem between_any (w : World) (a b c : Int) :
    Calls Tryz.prog 32 #[.int .i64 a, .int .i64 b, .int .i64 c] w fun e w' => e = .returned (.bool (decide (b ≤ a ∧ a ≤ c))) ∧ w = w' := by
  go_enter Tryz.func32, Tryz.ntmps32
  by_cases h1 : b ≤ a
  · by_cases h2 : a ≤ c
    · go_wp2
      go_ret
      exact ⟨by simp [h1, h2], rfl⟩
    · go_wp2
      go_ret
      exact ⟨by simp [h1, h2], rfl⟩
  · go_wp2
    go_ret
    exact ⟨by simp [h1]; omega, rfl⟩

theorem hright_any (w : World) (h : HeadV) (v : Value) (hv : TableAt w v h.rows) :
    Calls Tryz.prog 19 #[headVal h v] w fun e w' => e = .returned (.bool (decide (HeadOk h))) ∧ Below w.heap.size w w' := by
  have HV := Lib.hid hv
  obtain ⟨stream, frame, index, n, deadline, rows⟩ := h
  have HBX := Lib.hid (HeadBox.new w ⟨stream, frame, index, n, deadline, rows⟩ v)
  have HB0 := Lib.hid ((Below.refl w.heap.size w).alloc (Nat.le_refl _) (.cells #[.int .i64 stream, .int .i64 frame, .int .i64 index, .int .i64 n, .int .i64 deadline, v] 31))
  clear hv
  go_enter Tryz.func19, Tryz.ntmps19
  go_wp2_with fail
  generalize w.alloc (.cells #[.int .i64 stream, .int .i64 frame, .int .i64 index, .int .i64 n, .int .i64 deadline, v] 31) = w1 at *
  refine (tright_any w1 n v rows (HV.out.below HB0.out)).mono ?_
  rintro e w2 ⟨rfl, hB2⟩
  have HB2 := Lib.hid (show Below w.heap.size w w2 from below_more HB0.out hB2 HB0.out.size)
  have hbx := HBX.out.below hB2
  have c0 := hbx.c0
  have c1 := hbx.c1
  have c2 := hbx.c2
  have c3 := hbx.c3
  have c4 := hbx.c4
  dsimp only at c0 c1 c2 c3 c4
  clear hB2 hbx
  have HOK : HeadOk ⟨stream, frame, index, n, deadline, rows⟩ ↔ (TableOk n rows ∧ 0 ≤ index ∧ index ≤ n - 1 ∧ 0 ≤ stream ∧ stream ≤ 65535 ∧ 1 ≤ frame ∧ frame ≤ 2147483647 ∧ 0 ≤ deadline ∧ deadline ≤ 2147483647) := Iff.rfl
  by_cases hT : TableOk n rows
  rotate_left
  · simp only [hT, decide_false]
    go_wp2
    go_ret
    exact ⟨congrArg (fun b => Ending.returned (.bool b)) (decide_eq_false (fun e => hT (HOK.1 e).1)).symm, HB2.out⟩
  have hn1 := hT.1
  have hn2 := hT.2.1
  have HT := Lib.hid hT
  simp only [hT, decide_true]
  clear hT
  go_wp2_with fail
  refine (between_any w2 index 0 (n - 1)).mono ?_
  rintro e w3 ⟨rfl, rfl⟩
  by_cases hI : 0 ≤ index ∧ index ≤ n - 1
  rotate_left
  · simp only [hI, decide_false]
    go_wp2
    go_ret
    exact ⟨congrArg (fun b => Ending.returned (.bool b)) (decide_eq_false (fun e => hI ⟨(HOK.1 e).2.1, (HOK.1 e).2.2.1⟩)).symm, HB2.out⟩
  have HI := Lib.hid hI
  simp only [hI, and_self, decide_true]
  clear hI
  go_wp2_with fail
  refine (between_any w2 stream 0 65535).mono ?_
  rintro e w3 ⟨rfl, rfl⟩
  by_cases hS : 0 ≤ stream ∧ stream ≤ 65535
  rotate_left
  · simp only [hS, decide_false]
    go_wp2
    go_ret
    exact ⟨congrArg (fun b => Ending.returned (.bool b)) (decide_eq_false (fun e => hS ⟨(HOK.1 e).2.2.2.1, (HOK.1 e).2.2.2.2.1⟩)).symm, HB2.out⟩
  have HS := Lib.hid hS
  simp only [hS, and_self, decide_true]
  clear hS
  go_wp2_with fail
  refine (between_any w2 frame 1 2147483647).mono ?_
  rintro e w3 ⟨rfl, rfl⟩
  by_cases hF : 1 ≤ frame ∧ frame ≤ 2147483647
  rotate_left
  · simp only [hF, decide_false]
    go_wp2
    go_ret
    exact ⟨congrArg (fun b => Ending.returned (.bool b)) (decide_eq_false (fun e => hF ⟨(HOK.1 e).2.2.2.2.2.1, (HOK.1 e).2.2.2.2.2.2.1⟩)).symm, HB2.out⟩
  have HF := Lib.hid hF
  simp only [hF, and_self, decide_true]
  clear hF
  go_wp2_with fail
  refine (between_any w2 deadline 0 2147483647).mono ?_
  rintro e w3 ⟨rfl, rfl⟩
  by_cases hD : 0 ≤ deadline ∧ deadline ≤ 2147483647
  rotate_left
  · simp only [hD, decide_false]
    go_wp2
    go_ret
    exact ⟨congrArg (fun b => Ending.returned (.bool b)) (decide_eq_false (fun e => hD ⟨(HOK.1 e).2.2.2.2.2.2.2.1, (HOK.1 e).2.2.2.2.2.2.2.2⟩)).symm, HB2.out⟩
  have HD := Lib.hid hD
  simp only [hD, and_self, decide_true]
  clear hD
  go_wp2
  go_ret
  exact ⟨congrArg (fun b => Ending.returned (.bool b)) (decide_eq_true (HOK.2 ⟨HT.out, HI.out.1, HI.out.2, HS.out.1, HS.out.2, HF.out.1, HF.out.2, HD.out.1, HD.out.2⟩)).symm, HB2.out⟩
end -- GpC

end Go.Proofs.YtojbbmfndlcgkaaGreat
