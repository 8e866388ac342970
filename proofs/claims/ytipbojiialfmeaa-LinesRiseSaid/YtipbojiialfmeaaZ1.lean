/- LinesRows: the law's walk. -/
import Derived.Test.YtipbojiialfmeaaX9
namespace Go.Proofs.Ytipbojiialfmeaa
open Go.RowKit Go.Proofs.Utf Go.Lib

theorem flat2 {α β : Type} (f : α → List β) (hf : ∀ a, (f a).length = 2) : ∀ (l : List α) (k : Nat) (h : k < l.length) (j : Nat), j < 2 → (l.flatMap f)[k * 2 + j]? = (f l[k])[j]?
  | [], k, h, _, _ => by simp at h
  | a :: l, 0, _, j, hj => by
    simp only [List.flatMap_cons, Nat.zero_mul, Nat.zero_add, List.getElem_cons_zero]
    rw [List.getElem?_append_left (by rw [hf]; exact hj)]
  | a :: l, k + 1, h, j, hj => by
    simp only [List.flatMap_cons, List.getElem_cons_succ]
    rw [List.getElem?_append_right (by rw [hf]; omega), hf, show (k + 1) * 2 + j - 2 = k * 2 + j from by omega]
    exact flat2 f hf l k (by simpa using h) j hj
/-- the cells of a list of lines -/
def LnAt (w : World) (g : Nat) (l : List (Nat × Nat)) : Prop := g < w.heap.size ∧ ∀ (k : Nat) (hk : k < l.length), w.cell? ⟨g, k * 2, none⟩ = some (.int .i64 (l[k].1 : Int)) ∧ w.cell? ⟨g, k * 2 + 1, none⟩ = some (.int .i64 (l[k].2 : Int))
theorem LnAt.below {w w' : World} {g : Nat} {l : List (Nat × Nat)} (h : LnAt w g l) (hb : Below w.heap.size w w') : LnAt w' g l :=
  ⟨Nat.lt_of_lt_of_le h.1 hb.size, fun k hk => ⟨(hb.cell (p := ⟨g, k * 2, none⟩) h.1).trans (h.2 k hk).1, (hb.cell (p := ⟨g, k * 2 + 1, none⟩) h.1).trans (h.2 k hk).2⟩⟩
theorem lnCells_length (l : List (Nat × Nat)) : (lnCells l).length = 2 * l.length := by
  unfold lnCells
  induction l with
  | nil => rfl
  | cons r t ih =>
    rw [List.flatMap_cons, List.length_append, ih]
    simp only [List.length_cons, List.length_nil]
    omega
theorem ln_shape {w : World} {b : Nat} {v : Value} {l : List (Nat × Nat)} (h : w.ownsRow b 30 2 v l.length (lnCells l)) (hl : 1 ≤ l.length) : ∃ g cap, v = .slice (some ⟨g, 0, none⟩) l.length cap ∧ LnAt w g l := by
  have hc := lnCells_length l
  have h' := h
  obtain ⟨h1, h2⟩ := h
  rcases h2 with ⟨hv, h0⟩ | ⟨g, cap, cur, hv, hg, hh, _⟩
  · omega
  · refine ⟨g, cap, hv, (Array.getElem?_eq_some_iff.1 hh).1, fun k hk => ?_⟩
    subst hv
    have hx : ∀ j u, j < 2 → [Value.int .i64 (l[k].1 : Int), Value.int .i64 (l[k].2 : Int)][j]? = some u → w.cell? ⟨g, k * 2 + j, none⟩ = some u := fun j u hj hu => by
      have := h'.cells (g := g) rfl (k * 2 + j) u (by rw [lnCells, flat2 _ (fun _ => rfl) l k hk j hj, hu])
      rwa [show (Addr.add ⟨g, 0, none⟩ (k * 2 + j)) = ⟨g, k * 2 + j, none⟩ by unfold Addr.add; split <;> simp_all] at this
    exact ⟨hx 0 _ (by omega) rfl, hx 1 _ (by omega) rfl⟩
theorem refLines_at (s : ByteArray) (w : World) (hs : s.size ≤ 1048576) :
    Calls Try.prog 11 #[.string s] w fun e w' => ∃ g cap, e = .returned (.slice (some ⟨g, 0, none⟩) (linesL s.data.toList).length cap) ∧ LnAt w' g (linesL s.data.toList) ∧ Below w.heap.size w w' := by
  refine (refLines_any s w hs).mono ?_
  rintro e w' ⟨v, rfl, ho, hb⟩
  obtain ⟨g, cap, rfl, hg⟩ := ln_shape ho (linesP_pos _ _ _ _)
  exact ⟨g, cap, rfl, hg, hb⟩

set_option maxHeartbeats 2000000 in
set_option maxRecDepth 100000 in
theorem law_rows (s : ByteArray) (n : Int) (w : World) (hs : s.size ≤ 140737488355328) :
    Calls Try.prog 3 #[.string s, .int .i64 n] w fun e w' => e = .returned (.bool true) ∧ Below w.heap.size w w' := by
  have c9 := fun w => long_any s w hs
  by_cases hl : 3000 < s.size
  · have hd : decide (3000 < s.size) = true := decide_eq_true hl
    rw [hd] at c9
    go_enter Try.func3, Try.ntmps3
    go_wp2_with (first
      | (go_at_call 9; refine (c9 _).mono ?_; rintro e w' ⟨rfl, hw⟩; rw [hw])
      | (go_at_call 10; refine (works_any _).mono ?_; rintro e w1 ⟨rfl, hw1⟩))
    go_ret
    exact ⟨rfl, hw1⟩
  have hd : decide (3000 < s.size) = false := decide_eq_false hl
  rw [hd] at c9
  have c11 := fun w => refLines_at s w (by omega)
  have c12 := fun w => line_any s n w (by omega)
  have c13 := fun w => count_any s w (by omega)
  have hlen := linesP_length s.data.toList false 0 0
  have hpos := linesP_pos s.data.toList false 0 0
  rw [← size_eq] at hlen
  change (linesL s.data.toList).length ≤ s.size + 1 at hlen
  change 1 ≤ (linesL s.data.toList).length at hpos
  generalize linesL s.data.toList = L at *
  by_cases hn : 0 ≤ n ∧ n < L.length
  · obtain ⟨k, rfl⟩ : ∃ k : Nat, n = k := ⟨n.toNat, by omega⟩
    have hk : k < L.length := by omega
    have hsome : lineAt L k = some L[k] := by unfold lineAt; rw [if_pos (by omega)]; simp [hk]
    rw [hsome] at c12
    simp only [lineV] at c12
    clear hsome
    go_enter Try.func3, Try.ntmps3
    go_wp2_with (first
      | (go_at_call 9; refine (c9 _).mono ?_; rintro e w' ⟨rfl, hw⟩; rw [hw])
      | (go_at_call 11; refine (c11 _).mono ?_; rintro e w1 ⟨g, cap, rfl, hg1, hw1⟩)
      | (go_at_call 12; refine (c12 _).mono ?_; rintro e w2 ⟨rfl, hw2⟩; have hg2 := hg1.below hw2)
      | (go_at_call 13; refine (c13 _).mono ?_; rintro e w3 ⟨rfl, hw3⟩; have hg3 := (hg2.below hw3).2 k hk)
      | (go_at_call 10; refine (works_any _).mono ?_; rintro e w4 ⟨rfl, hw4⟩))
    go_ret
    exact ⟨rfl, ((hw1.trans (hw2.mono hw1.size)).trans (hw3.mono (Nat.le_trans hw1.size hw2.size))).trans (hw4.mono (Nat.le_trans hw1.size (Nat.le_trans hw2.size hw3.size)))⟩
  · have hnone : lineAt L n = none := by
      unfold lineAt
      split
      · exact List.getElem?_eq_none (by omega)
      · rfl
    rw [hnone] at c12
    simp only [lineV] at c12
    clear hnone
    by_cases hn0 : n < 0
    · clear hn
      go_enter Try.func3, Try.ntmps3
      go_wp2_with (first
        | (go_at_call 9; refine (c9 _).mono ?_; rintro e w' ⟨rfl, hw⟩; rw [hw])
        | (go_at_call 11; refine (c11 _).mono ?_; rintro e w1 ⟨g, cap, rfl, hg1, hw1⟩)
        | (go_at_call 12; refine (c12 _).mono ?_; rintro e w2 ⟨rfl, hw2⟩)
        | (go_at_call 13; refine (c13 _).mono ?_; rintro e w3 ⟨rfl, hw3⟩)
        | (go_at_call 10; refine (works_any _).mono ?_; rintro e w4 ⟨rfl, hw4⟩))
      go_ret
      exact ⟨rfl, ((hw1.trans (hw2.mono hw1.size)).trans (hw3.mono (Nat.le_trans hw1.size hw2.size))).trans (hw4.mono (Nat.le_trans hw1.size (Nat.le_trans hw2.size hw3.size)))⟩
    · have hge : (L.length : Int) ≤ n := by omega
      clear hn
      go_enter Try.func3, Try.ntmps3
      go_wp2_with (first
        | (go_at_call 9; refine (c9 _).mono ?_; rintro e w' ⟨rfl, hw⟩; rw [hw])
        | (go_at_call 11; refine (c11 _).mono ?_; rintro e w1 ⟨g, cap, rfl, hg1, hw1⟩)
        | (go_at_call 12; refine (c12 _).mono ?_; rintro e w2 ⟨rfl, hw2⟩)
        | (go_at_call 13; refine (c13 _).mono ?_; rintro e w3 ⟨rfl, hw3⟩)
        | (go_at_call 10; refine (works_any _).mono ?_; rintro e w4 ⟨rfl, hw4⟩))
      go_ret
      exact ⟨rfl, ((hw1.trans (hw2.mono hw1.size)).trans (hw3.mono (Nat.le_trans hw1.size hw2.size))).trans (hw4.mono (Nat.le_trans hw1.size (Nat.le_trans hw2.size hw3.size)))⟩
end Go.Proofs.Ytipbojiialfmeaa
