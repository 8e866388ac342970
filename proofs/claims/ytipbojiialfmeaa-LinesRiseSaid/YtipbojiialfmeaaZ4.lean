/- The reference's Offset and Cut; LinesCuts' walk. -/
import Derived.Test.YtipbojiialfmeaaZ1
import Derived.Test.YtipbojiialfmeaaZ2
import Derived.Test.YtipbojiialfmeaaPlain3
import Derived.Test.YtipbojiialfmeaaR3
namespace Go.Proofs.Ytipbojiialfmeaa
open Go.RowKit Go.Proofs.Utf Go.Lib

theorem refByte_P (s : ByteArray) (b : Int) (w : World) (hs : s.size ≤ 1048576) (h0 : 0 ≤ b) :
    Calls Try.prog 31 #[.string s, .int .i64 b] w fun e w' => e = .returned (.int .i64 (byteP (pieces s.data.toList) 0 0 b)) ∧ Below w.heap.size w w' := by
  have h := refByte_any s b w hs h0
  have e := byte_eq (pieces s.data.toList) 0 0 b h0
  rw [widthP_pieces _ _ (Nat.le_refl _), ← size_eq, Nat.zero_add] at e
  rw [e] at h
  exact h
set_option maxRecDepth 100000 in
set_option maxHeartbeats 2000000 in
theorem refOffset_any (s : ByteArray) (a b : Int) (w : World) (hs : s.size ≤ 1048576) :
    Calls Try.prog 17 #[.string s, .agg #[.int .i64 a, .int .i64 b]] w fun e w' => e = .returned (.tuple #[.int .i64 (offP s a b).1, .int .i64 (offP s a b).2]) ∧ Below w.heap.size w w' := by
  by_cases ha : a < 0
  · have ho : offP s a b = (0, 2) := if_pos (.inl ha)
    rw [ho]
    go_enter Try.func17, Try.ntmps17
    go_wp2
    go_ret2
    exact ⟨rfl, (Below.refl _ _).alloc (Nat.le_refl _) _⟩
  by_cases hb : b < 0
  · have ho : offP s a b = (0, 2) := if_pos (.inr hb)
    rw [ho]
    go_enter Try.func17, Try.ntmps17
    go_wp2
    go_ret2
    exact ⟨rfl, (Below.refl _ _).alloc (Nat.le_refl _) _⟩
  have ho : offP s a b = match lineAt (linesL s.data.toList) a with
    | none => ((s.size : Int), 0)
    | some x => ((x.1 : Int) + byteP (pieces (lineB s x).data.toList) 0 0 b, 0) := if_neg (by omega)
  have c11 := fun w => refLines_at s w hs
  have hlen := linesP_length s.data.toList false 0 0
  rw [← size_eq] at hlen
  change (linesL s.data.toList).length ≤ s.size + 1 at hlen
  have hW0 : Below w.heap.size w (w.alloc (.cells #[.int .i64 a, .int .i64 b] 35)) := (Below.refl _ w).alloc (Nat.le_refl _) _
  have hcell : ∀ w1, Below (w.alloc (.cells #[.int .i64 a, .int .i64 b] 35)).heap.size (w.alloc (.cells #[.int .i64 a, .int .i64 b] 35)) w1 → Two w1 w.heap.size 35 a b := fun w1 hw1 => (hw1.block _ (by simp)).trans (Two.at (w := w) 35 a b rfl)
  have hin := fun x => @lineAt_in s a x
  generalize linesL s.data.toList = L at *
  cases hl : lineAt L a with
  | none =>
    rw [hl] at ho
    dsimp only at ho
    rw [ho]
    have hge : (L.length : Int) ≤ a := by
      unfold lineAt at hl
      rw [if_pos (by omega)] at hl
      have := List.getElem?_eq_none_iff.1 hl
      omega
    go_enter Try.func17, Try.ntmps17
    go_wp2_with (go_at_call 11; refine (c11 _).mono ?_; rintro e w1 ⟨g, cap, rfl, hg1, hw1⟩; have t1 := hcell w1 hw1; have d0 := t1.c0; have d1 := t1.c1)
    go_ret2
    exact ⟨rfl, hW0.trans (hw1.mono hW0.size)⟩
  | some x =>
    rw [hl] at ho
    dsimp only at ho
    rw [ho]
    have hx := hin x hl
    obtain ⟨k, rfl⟩ : ∃ k : Nat, a = k := ⟨a.toNat, by omega⟩
    unfold lineAt at hl
    rw [if_pos (by omega), Int.toNat_natCast] at hl
    obtain ⟨hk, hLk⟩ := List.getElem?_eq_some_iff.1 hl
    have hz := lineB_size s x
    have hby := byteP_le (pieces (lineB s x).data.toList) 0 0 b
    rw [widthP_pieces _ _ (Nat.le_refl _), ← size_eq, hz] at hby
    have c31 := fun w => refByte_P (lineB s x) b w (by omega) (by omega)
    obtain ⟨y, hy⟩ : ∃ y, byteP (pieces (lineB s x).data.toList) 0 0 b = y := ⟨_, rfl⟩
    rw [hy] at hby c31 ⊢
    have hwr : IntKind.i64.wrap ((x.1 : Int) + (y : Int)) = (x.1 : Int) + (y : Int) := IntWalk.i64_in _ (by omega)
    clear hl hin
    have hki : (k : Int) < (L.length : Int) := by omega
    go_enter Try.func17, Try.ntmps17
    go_wp2_with (go_at_call 11; refine (c11 _).mono ?_; rintro e w1 ⟨g, cap, rfl, hg1, hw1⟩; have t1 := hcell w1 hw1; have d0 := t1.c0; have d1 := t1.c1; have hgk := hg1.2 k hk; rw [hLk] at hgk; obtain ⟨e0, e1⟩ := hgk; have hB1 := hW0.trans (hw1.mono hW0.size))
    obtain ⟨W1, hW1⟩ : ∃ W1, w1.alloc (.cells #[.int .i64 (x.1 : Int), .int .i64 (x.2 : Int)] 30) = W1 := ⟨_, rfl⟩
    have t30 : Two W1 w1.heap.size 30 x.1 x.2 := by rw [← hW1]; exact Two.at 30 _ _ rfl
    have t35 : Two W1 w.heap.size 35 k b := by rw [← hW1]; exact t1.alloc _
    have hB2 : Below w.heap.size w W1 := by rw [← hW1]; exact hB1.alloc hB1.size _
    rw [hW1]
    clear hW1 d0 d1 e0 e1 hB1 hg1 hw1 hcell
    have f0 := t30.c0; have f1 := t30.c1; have f2 := t35.c1
    go_region_held3 (fun v => v.cell? ⟨w1.heap.size, 0, none⟩ = some (.int .i64 (x.1 : Int)) ∧ v.cell? ⟨w1.heap.size, 1, none⟩ = some (.int .i64 (x.2 : Int)) ∧ v.cell? ⟨w.heap.size, 1, none⟩ = some (.int .i64 b)) (first | assumption | exact ⟨f0, f1, f2⟩ | exact ⟨by assumption, by assumption, by assumption⟩) ((go_at_call 31; refine (c31 _).mono ?_; rintro e w2 ⟨rfl, hw2⟩; have k0 := (hw2.cell (p := ⟨w1.heap.size, 0, none⟩) t30.lt).trans f0; have k1 := (hw2.cell (p := ⟨w1.heap.size, 1, none⟩) t30.lt).trans f1; have k2 := (hw2.cell (p := ⟨w.heap.size, 1, none⟩) t35.lt).trans f2; have hB3 := hB2.drew.trans (hw2.mono hB2.size)))
    go_wp2
    go_ret2
    exact ⟨rfl, by assumption⟩
set_option maxRecDepth 100000 in
set_option maxHeartbeats 800000 in
theorem refCut_any (s : ByteArray) (a b c d : Int) (w : World) (hs : s.size ≤ 1048576) :
    Calls Try.prog 23 #[.string s, .agg #[.int .i64 a, .int .i64 b, .int .i64 c, .int .i64 d]] w fun e w' => e = .returned (.tuple #[.int .i64 (cutP s a b c d).1, .int .i64 (cutP s a b c d).2.1, .int .i64 (cutP s a b c d).2.2]) ∧ Below w.heap.size w w' := by
  have hB0 : Below w.heap.size w (w.alloc (.cells #[.int .i64 a, .int .i64 b, .int .i64 c, .int .i64 d] 45)) := (Below.refl _ w).alloc (Nat.le_refl _) _
  have hc0 : (w.alloc (.cells #[.int .i64 a, .int .i64 b, .int .i64 c, .int .i64 d] 45)).heap[w.heap.size]? = some (.cells #[.int .i64 a, .int .i64 b, .int .i64 c, .int .i64 d] 45) := World.alloc_heap_new w _
  have c1 := fun w => refOffset_any s a b w hs
  have c2 := fun w => refOffset_any s c d w hs
  unfold cutP
  generalize offP s a b = A at *
  generalize offP s c d = B at *
  obtain ⟨m, e⟩ := A
  obtain ⟨n, f⟩ := B
  have hk : ∀ w1, Below (w.alloc (.cells #[.int .i64 a, .int .i64 b, .int .i64 c, .int .i64 d] 45)).heap.size (w.alloc (.cells #[.int .i64 a, .int .i64 b, .int .i64 c, .int .i64 d] 45)) w1 →
      w1.cell? ⟨w.heap.size, 2, none⟩ = some (.int .i64 c) ∧ w1.cell? ⟨w.heap.size, 3, none⟩ = some (.int .i64 d) := fun w1 hw1 => by
    have h1 : w1.heap[w.heap.size]? = some (.cells #[.int .i64 a, .int .i64 b, .int .i64 c, .int .i64 d] 45) := (hw1.block _ (by simp)).trans hc0
    constructor <;> simp [World.cell?, h1]
  by_cases he : e = 0
  · subst he
    by_cases hf : f = 0
    · subst hf
      by_cases hmn : n < m
      · have hcond : (((0 : Int) ≠ 0) ∨ ((0 : Int) ≠ 0) ∨ n < m) := .inr (.inr hmn)
        simp only [if_pos hcond]
        go_enter Try.func23, Try.ntmps23
        go_wp2_with (first
          | (go_at_call 17; (with_reducible refine (c1 _).mono ?_); rintro e1 w1 ⟨rfl, hw1⟩; obtain ⟨k2, k3⟩ := hk w1 hw1)
          | (go_at_call 17; (with_reducible refine (c2 _).mono ?_); rintro e2 w2 ⟨rfl, hw2⟩))
        go_ret3
        exact ⟨rfl, (hB0.trans (hw1.mono hB0.size)).trans (hw2.mono (Nat.le_trans hB0.size hw1.size))⟩
      · have hcond : ¬ (((0 : Int) ≠ 0) ∨ ((0 : Int) ≠ 0) ∨ n < m) := by simp; omega
        simp only [if_neg hcond]
        go_enter Try.func23, Try.ntmps23
        go_wp2_with (first
          | (go_at_call 17; (with_reducible refine (c1 _).mono ?_); rintro e1 w1 ⟨rfl, hw1⟩; obtain ⟨k2, k3⟩ := hk w1 hw1)
          | (go_at_call 17; (with_reducible refine (c2 _).mono ?_); rintro e2 w2 ⟨rfl, hw2⟩))
        go_ret3
        exact ⟨rfl, (hB0.trans (hw1.mono hB0.size)).trans (hw2.mono (Nat.le_trans hB0.size hw1.size))⟩
    · have hcond : (((0 : Int) ≠ 0) ∨ (f ≠ 0) ∨ n < m) := .inr (.inl hf)
      simp only [if_pos hcond]
      have hfb : (f == 0) = false := beq_eq_false_iff_ne.2 hf
      go_enter Try.func23, Try.ntmps23
      go_wp2_with (first
        | (go_at_call 17; (with_reducible refine (c1 _).mono ?_); rintro e1 w1 ⟨rfl, hw1⟩; obtain ⟨k2, k3⟩ := hk w1 hw1)
        | (go_at_call 17; (with_reducible refine (c2 _).mono ?_); rintro e2 w2 ⟨rfl, hw2⟩))
      go_ret3
      exact ⟨rfl, (hB0.trans (hw1.mono hB0.size)).trans (hw2.mono (Nat.le_trans hB0.size hw1.size))⟩
  · have hcond : ((e ≠ 0) ∨ (f ≠ 0) ∨ n < m) := .inl he
    simp only [if_pos hcond]
    have heb : (e == 0) = false := beq_eq_false_iff_ne.2 he
    go_enter Try.func23, Try.ntmps23
    go_wp2_with (first
      | (go_at_call 17; (with_reducible refine (c1 _).mono ?_); rintro e1 w1 ⟨rfl, hw1⟩; obtain ⟨k2, k3⟩ := hk w1 hw1)
      | (go_at_call 17; (with_reducible refine (c2 _).mono ?_); rintro e2 w2 ⟨rfl, hw2⟩))
    go_ret3
    exact ⟨rfl, (hB0.trans (hw1.mono hB0.size)).trans (hw2.mono (Nat.le_trans hB0.size hw1.size))⟩

set_option maxRecDepth 100000 in
set_option maxHeartbeats 800000 in
theorem law_cuts (s : ByteArray) (a b c d : Int) (w : World) (hs : s.size ≤ 140737488355328) :
    Calls Try.prog 7 #[.string s, .agg #[.int .i64 a, .int .i64 b, .int .i64 c, .int .i64 d]] w fun e w' => e = .returned (.bool true) ∧ Below w.heap.size w w' := by
  have c9 := fun w => long_any s w hs
  have hB0 : Below w.heap.size w (w.alloc (.cells #[.int .i64 a, .int .i64 b, .int .i64 c, .int .i64 d] 45)) := (Below.refl _ w).alloc (Nat.le_refl _) _
  have hc0 : (w.alloc (.cells #[.int .i64 a, .int .i64 b, .int .i64 c, .int .i64 d] 45)).heap[w.heap.size]? = some (.cells #[.int .i64 a, .int .i64 b, .int .i64 c, .int .i64 d] 45) := World.alloc_heap_new w _
  by_cases hl : 3000 < s.size
  · have hd : decide (3000 < s.size) = true := decide_eq_true hl
    rw [hd] at c9
    go_enter Try.func7, Try.ntmps7
    go_wp2_with (first
      | (go_at_call 9; refine (c9 _).mono ?_; rintro e w' ⟨rfl, hw⟩; rw [hw])
      | (go_at_call 10; refine (works_any _).mono ?_; rintro e w1 ⟨rfl, hw1⟩))
    go_ret
    exact ⟨rfl, hB0.trans (hw1.mono hB0.size)⟩
  have hd : decide (3000 < s.size) = false := decide_eq_false hl
  rw [hd] at c9
  have c22 := fun w => cut_any s a b c d w (by omega)
  have c23 := fun w => refCut_any s a b c d w (by omega)
  generalize cutP s a b c d = C at *
  obtain ⟨x, y, z⟩ := C
  have hk : ∀ w1, Below (w.alloc (.cells #[.int .i64 a, .int .i64 b, .int .i64 c, .int .i64 d] 45)).heap.size (w.alloc (.cells #[.int .i64 a, .int .i64 b, .int .i64 c, .int .i64 d] 45)) w1 →
      w1.cell? ⟨w.heap.size, 0, none⟩ = some (.int .i64 a) ∧ w1.cell? ⟨w.heap.size, 1, none⟩ = some (.int .i64 b) ∧ w1.cell? ⟨w.heap.size, 2, none⟩ = some (.int .i64 c) ∧ w1.cell? ⟨w.heap.size, 3, none⟩ = some (.int .i64 d) := fun w1 hw1 => by
    have h1 : w1.heap[w.heap.size]? = some (.cells #[.int .i64 a, .int .i64 b, .int .i64 c, .int .i64 d] 45) := (hw1.block _ (by simp)).trans hc0
    refine ⟨?_, ?_, ?_, ?_⟩ <;> simp [World.cell?, h1]
  go_enter Try.func7, Try.ntmps7
  go_wp2_with (first
    | (go_at_call 9; refine (c9 _).mono ?_; rintro e w' ⟨rfl, hw⟩; rw [hw])
    | (go_at_call 22; refine (c22 _).mono ?_; rintro e w1 ⟨rfl, hw1⟩; obtain ⟨k0, k1, k2, k3⟩ := hk w1 hw1)
    | (go_at_call 23; refine (c23 _).mono ?_; rintro e w2 ⟨rfl, hw2⟩)
    | (go_at_call 10; refine (works_any _).mono ?_; rintro e w3 ⟨rfl, hw3⟩))
  go_ret
  exact ⟨rfl, ((hB0.trans (hw1.mono hB0.size)).trans (hw2.mono (Nat.le_trans hB0.size hw1.size))).trans (hw3.mono (Nat.le_trans hB0.size (Nat.le_trans hw1.size hw2.size)))⟩
end Go.Proofs.Ytipbojiialfmeaa
