/- The reference's At; emend/lines.Full; LinesPlaces' walk. -/
import Derived.Test.YtipbojiialfmeaaZ4
import Derived.Test.YtipbojiialfmeaaLin2
import Derived.Deep.DeepCutAuto
namespace Go.Proofs.Ytipbojiialfmeaa
open Go.RowKit Go.Proofs.Utf Go.Lib

theorem refUnitsAt_P (s : ByteArray) (a : Int) (w : World) (hs : s.size ≤ 1048576) :
    Calls Try.prog 32 #[.string s, .int .i64 a] w fun e w' => e = .returned (.int .i64 (uaP (pieces s.data.toList) 0 0 0 a)) ∧ Below w.heap.size w w' := by
  rw [ua_same _ a (wide_pieces _ _ (Nat.le_refl _))]
  exact refUnitsAt_any s a w hs
set_option maxRecDepth 100000 in
set_option maxHeartbeats 2000000 in
theorem refAt_any (s : ByteArray) (n : Int) (w : World) (hs : s.size ≤ 1048576) :
    Calls Try.prog 18 #[.string s, .int .i64 n] w fun e w' => e = .returned (.agg #[.int .i64 (atP s n).1, .int .i64 (atP s n).2]) ∧ Below w.heap.size w w' := by
  have c11 := fun w => refLines_at s w hs
  have hlen := linesP_length s.data.toList false 0 0
  rw [← size_eq] at hlen
  change (linesL s.data.toList).length ≤ s.size + 1 at hlen
  have hW0 : Below w.heap.size w (w.alloc (.cells #[.int .i64 0, .int .i64 0] 35)) := (Below.refl _ w).alloc (Nat.le_refl _) _
  have hcell : ∀ w1, Below (w.alloc (.cells #[.int .i64 0, .int .i64 0] 35)).heap.size (w.alloc (.cells #[.int .i64 0, .int .i64 0] 35)) w1 → Two w1 w.heap.size 35 0 0 := fun w1 hw1 => (hw1.block _ (by simp)).trans (Two.at (w := w) 35 0 0 rfl)
  obtain ⟨p, hp⟩ : ∃ p, clamp n s.size = p := ⟨_, rfl⟩
  have hple : p ≤ s.size := by rw [← hp]; unfold clamp; split <;> (try split) <;> omega
  have hc1 := cnt_pos s p
  have hc2 := cnt_le s p
  have hci := cnt_iff s p
  have hin := linesP_in s.data.toList false 0 0 (Nat.le_refl _)
  rw [← size_eq] at hin
  have hpe := fun x hx => atP_eq s n x (by rw [hp]; exact hx)
  rw [hp] at hpe
  change ∀ x ∈ linesL s.data.toList, _ at hin
  generalize linesL s.data.toList = L at *
  generalize cnt s p = c at *
  obtain ⟨m, rfl⟩ : ∃ m, c = m + 1 := ⟨c - 1, by omega⟩
  rw [Nat.add_sub_cancel] at hpe
  have hk : m < L.length := by omega
  obtain ⟨x, hx⟩ : ∃ x, L[m]'hk = x := ⟨_, rfl⟩
  have hxp : x.1 ≤ p := by rw [← hx]; exact (hci m hk).2 (by omega)
  have hxi := hin x (by rw [← hx]; exact List.getElem_mem hk)
  rw [hpe x (by rw [← hx]; exact List.getElem?_eq_getElem hk)]
  rw [show (((m + 1 : Nat) : Int) - 1) = (m : Int) by omega]
  clear hpe hin
  rw [Nat.zero_add] at hxi
  obtain ⟨hx12, hx2s⟩ := hxi
  have hz := lineB_size s x
  have hua : uaL s x p = uaP (pieces (lineB s x).data.toList) 0 0 0 ((p : Int) - (x.1 : Int)) := rfl
  rw [hua]
  have c32 := fun w => refUnitsAt_P (lineB s x) ((p : Int) - (x.1 : Int)) w (by omega)
  obtain ⟨y, hy⟩ : ∃ y, uaP (pieces (lineB s x).data.toList) 0 0 0 ((p : Int) - (x.1 : Int)) = y := ⟨_, rfl⟩
  rw [hy] at c32 ⊢
  clear hua hy
  have hwr : IntKind.i64.wrap ((p : Int) - (x.1 : Int)) = (p : Int) - (x.1 : Int) := IntWalk.i64_in _ (by omega)
  obtain ⟨n1, hn1, hn2⟩ : ∃ n1 : Int, (n < 0 → n1 = 0) ∧ (¬ n < 0 → n1 = n) := by
    by_cases h : n < 0
    · exact ⟨0, fun _ => rfl, fun h2 => (h2 h).elim⟩
    · exact ⟨n, fun h2 => (h h2).elim, fun _ => rfl⟩
  have hn3 : (s.size : Int) < n1 → (p : Int) = s.size := by
    intro h
    rw [← hp]
    unfold clamp
    split <;> (try split) <;> omega
  have hn4 : ¬ (s.size : Int) < n1 → n1 = (p : Int) := by
    intro h
    rw [← hp]
    unfold clamp
    split <;> (try split) <;> omega
  go_enter Try.func18, Try.ntmps18
  go_upto_if 10 with (fail)
  go_cut [1] (fun v wx => v = .int .i64 n1 ∧ wx = w.alloc (.cells #[.int .i64 0, .int .i64 0] 35))
  case first =>
    by_cases h : n < 0
    · go_wp2
      go_meet
      exact ⟨by rw [hn1 h], rfl⟩
    · go_wp2
      go_meet
      exact ⟨by rw [hn2 h], rfl⟩
  case rest =>
  obtain ⟨rfl, rfl⟩ := hcut
  go_upto_if 14 with (fail)
  go_cut [1] (fun v wx => v = .int .i64 p ∧ wx = w.alloc (.cells #[.int .i64 0, .int .i64 0] 35))
  case first =>
    by_cases h : (s.size : Int) < n1
    · go_wp2
      go_meet
      exact ⟨by rw [hn3 h], rfl⟩
    · go_wp2
      go_meet
      first | exact ⟨rfl, rfl⟩ | exact ⟨by rw [hn4 h], rfl⟩
  case rest =>
  obtain ⟨rfl, rfl⟩ := hcut
  clear hn1 hn2 hn3 hn4 hp
  go_wp2_with (go_at_call 11; refine (c11 _).mono ?_; rintro e w1 ⟨g, cap, rfl, hg1, hw1⟩; have t1 := hcell w1 hw1; have hB1 := hW0.trans (hw1.mono hW0.size))
  go_loop [6, 7] (fun ln i => ∃ k : Nat, i = .int .i64 k ∧ ln = .int .i64 ((min k (m + 1) - 1 : Nat) : Int) ∧ k ≤ L.length) (fun _ i => L.length - (RowKit.intOf i).toNat)
  case atStart => exact ⟨0, rfl, by simp, Nat.zero_le _⟩
  case round =>
    obtain ⟨k, rfl, rfl, hk0⟩ := hrel
    by_cases hkl : k < L.length
    · have hki : (k : Int) < (L.length : Int) := by omega
      have hgk := (hg1.2 k hkl).1
      have hcik := hci k hkl
      generalize L[k] = z at hgk hcik
      by_cases hkc : k < m + 1
      · have hzp : (z.1 : Int) ≤ (p : Int) := by have := hcik.2 hkc; omega
        clear hcik
        go_wp2
        go_round
        case rel => exact ⟨k + 1, by go_num, by rw [show min (k + 1) (m + 1) - 1 = k by omega], hkl⟩
        case measure => simp [RowKit.intOf]; omega
      · have hzp : ¬ (z.1 : Int) ≤ (p : Int) := by intro hh; exact hkc (hcik.1 (by omega))
        clear hcik
        go_wp2
        go_round
        case rel => exact ⟨k + 1, by go_num, by rw [show min (k + 1) (m + 1) - 1 = min k (m + 1) - 1 by omega], hkl⟩
        case measure => simp [RowKit.intOf]; omega
    · obtain rfl : k = L.length := by omega
      have hgc := hg1.2 m hk
      rw [hx] at hgc
      obtain ⟨e0, e1⟩ := hgc
      rw [show min L.length (m + 1) - 1 = m by omega]
      clear hci hx hc1 hc2
      have hmi : (m : Int) < (L.length : Int) := by omega
      go_wp2
      obtain ⟨W1, hW1⟩ : ∃ W1, w1.alloc (.cells #[.int .i64 (x.1 : Int), .int .i64 (x.2 : Int)] 30) = W1 := ⟨_, rfl⟩
      have t30 : Two W1 w1.heap.size 30 x.1 x.2 := by rw [← hW1]; exact Two.at 30 _ _ rfl
      have t35 : Two W1 w.heap.size 35 0 0 := by rw [← hW1]; exact t1.alloc _
      have hB2 : Below w.heap.size w W1 := by rw [← hW1]; exact hB1.alloc hB1.size _
      have hne : ¬ w.heap.size = w1.heap.size := by have := t1.lt; omega
      rw [hW1]
      clear hW1 e0 e1 hB1 hg1 hw1 hcell
      have f0 := t30.c0; have f1 := t30.c1
      go_region_held3 (fun v => v.cell? ⟨w1.heap.size, 0, none⟩ = some (.int .i64 (x.1 : Int)) ∧ v.cell? ⟨w1.heap.size, 1, none⟩ = some (.int .i64 (x.2 : Int))) (first | assumption | exact ⟨f0, f1⟩ | exact ⟨by assumption, by assumption⟩ | (simp [World.cell?_setCell_far, hne, k0, k1])) ((go_at_call 32; refine (c32 _).mono ?_; rintro e w2 ⟨rfl, hw2⟩; have k0 := (hw2.cell (p := ⟨w1.heap.size, 0, none⟩) t30.lt).trans f0; have k1 := (hw2.cell (p := ⟨w1.heap.size, 1, none⟩) t30.lt).trans f1; have hB3 := hB2.drew.trans (hw2.mono hB2.size); have t2 : Two w2 w.heap.size 35 0 0 := (hw2.block _ t35.lt).trans t35; have r0 := t2.c0; have r1 := t2.c1; have r2 := t2.f0; have r3 := t2.f1))
      go_wp2
      have q0 := (t2.set (m : Int) (y : Int)).c0
      have q1 := (t2.set (m : Int) (y : Int)).c1
      refine ⟨by simp, _, ?_, rfl, (hB3.setCell (p := ⟨w.heap.size, 0, none⟩) (Nat.le_refl _) _).setCell (p := ⟨w.heap.size, 1, none⟩) (Nat.le_refl _) _⟩
      simp [results, Try.f18, go_sem, q0, q1]
/-- a block of cells -/
def Arr (W : World) (B : Nat) (t : TypeId) (vs : Array Value) : Prop := W.heap[B]? = some (.cells vs t (0, 0))
theorem Arr.lt {W : World} {B : Nat} {t : TypeId} {vs : Array Value} (h : Arr W B t vs) : B < W.heap.size := (Array.getElem?_eq_some_iff.1 h).1
theorem Arr.set {W : World} {B : Nat} {t : TypeId} {vs : Array Value} (h : Arr W B t vs) (j : Nat) (u : Value) : Arr (W.setCell ⟨B, j, none⟩ u) B t (vs.setIfInBounds j u) := by
  obtain ⟨hlt, hk⟩ := Array.getElem?_eq_some_iff.1 h
  show (W.heap.modify B _)[B]? = _
  rw [Array.getElem?_eq_getElem (by rw [Array.size_modify]; exact hlt), Array.getElem_modify_self, hk]
  rfl
theorem Arr.cell {W : World} {B : Nat} {t : TypeId} {vs : Array Value} (h : Arr W B t vs) (j : Nat) : W.cell? ⟨B, j, none⟩ = vs[j]? := by simp [World.cell?, show W.heap[B]? = _ from h]
theorem Arr.frozen {W : World} {B : Nat} {t : TypeId} {vs : Array Value} (h : Arr W B t vs) (j : Nat) : W.frozen? ⟨B, j, none⟩ = false := by simp [World.frozen?, show W.heap[B]? = _ from h]

set_option maxRecDepth 100000 in
set_option maxHeartbeats 800000 in
theorem full_any (s : ByteArray) (w : World) (hs : s.size < 4294967281) :
    Calls Try.prog 19 #[.string s] w fun e w' => e = .returned (.agg #[.int .i64 0, .int .i64 0, .int .i64 (atP s s.size).1, .int .i64 (atP s s.size).2]) ∧ Below w.heap.size w w' := by
  have hB0 : Below w.heap.size w (w.alloc (.cells #[.int .i64 0, .int .i64 0, .int .i64 0, .int .i64 0] 45)) := (Below.refl _ w).alloc (Nat.le_refl _) _
  have hA0 : Arr (w.alloc (.cells #[.int .i64 0, .int .i64 0, .int .i64 0, .int .i64 0] 45)) w.heap.size 45 #[.int .i64 0, .int .i64 0, .int .i64 0, .int .i64 0] := World.alloc_heap_new w _
  have c16 := fun w => at_P s s.size w hs
  generalize atP s s.size = A at *
  obtain ⟨x, y⟩ := A
  go_enter Try.func19, Try.ntmps19
  go_wp2_with (go_at_call 16; refine (c16 _).mono ?_; rintro e w1 ⟨rfl, hw1⟩; have a1 : Arr w1 w.heap.size 45 #[.int .i64 0, .int .i64 0, .int .i64 0, .int .i64 0] := (hw1.block _ hA0.lt).trans hA0; have e0 := a1.cell 0; have e1 := a1.cell 1; have e2 := a1.cell 2; have e3 := a1.cell 3; have f0 := a1.frozen 0; have f1 := a1.frozen 1; have f2 := a1.frozen 2; have f3 := a1.frozen 3; have hB1 := hB0.trans (hw1.mono hB0.size); simp at e0 e1 e2 e3)
  have a2 := (((a1.set 0 (.int .i64 0)).set 1 (.int .i64 0)).set 2 (.int .i64 x)).set 3 (.int .i64 y)
  have q0 := a2.cell 0
  have q1 := a2.cell 1
  have q2 := a2.cell 2
  have q3 := a2.cell 3
  simp at q0 q1 q2 q3
  refine ⟨by simp, _, ?_, rfl, (((hB1.setCell (p := ⟨w.heap.size, 0, none⟩) (Nat.le_refl _) _).setCell (p := ⟨w.heap.size, 1, none⟩) (Nat.le_refl _) _).setCell (p := ⟨w.heap.size, 2, none⟩) (Nat.le_refl _) _).setCell (p := ⟨w.heap.size, 3, none⟩) (Nat.le_refl _) _⟩
  simp [results, Try.f19, go_sem, q0, q1, q2, q3]

set_option maxRecDepth 100000 in
set_option maxHeartbeats 800000 in
theorem law_places (s : ByteArray) (a b n : Int) (w : World) (hs : s.size ≤ 140737488355328) :
    Calls Try.prog 5 #[.string s, .agg #[.int .i64 a, .int .i64 b], .int .i64 n] w fun e w' => e = .returned (.bool true) ∧ Below w.heap.size w w' := by
  have c9 := fun w => long_any s w hs
  have hB0 : Below w.heap.size w (w.alloc (.cells #[.int .i64 a, .int .i64 b] 35)) := (Below.refl _ w).alloc (Nat.le_refl _) _
  have t0 := Two.at (w := w) 35 a b rfl
  have e0 := t0.c0
  have e1 := t0.c1
  by_cases hl : 3000 < s.size
  · have hd : decide (3000 < s.size) = true := decide_eq_true hl
    rw [hd] at c9
    go_enter Try.func5, Try.ntmps5
    go_wp2_with (first
      | (go_at_call 9; refine (c9 _).mono ?_; rintro e w' ⟨rfl, hw⟩; rw [hw])
      | (go_at_call 10; refine (works_any _).mono ?_; rintro e w1 ⟨rfl, hw1⟩))
    go_ret
    exact ⟨rfl, hB0.trans (hw1.mono hB0.size)⟩
  have hd : decide (3000 < s.size) = false := decide_eq_false hl
  rw [hd] at c9
  have hk : ∀ w1, Below (w.alloc (.cells #[.int .i64 a, .int .i64 b] 35)).heap.size (w.alloc (.cells #[.int .i64 a, .int .i64 b] 35)) w1 → Two w1 w.heap.size 35 a b ∧ Below w.heap.size w w1 := fun w1 hw1 => ⟨(hw1.block _ (by simp)).trans t0, hB0.trans (hw1.mono hB0.size)⟩
  have c14 := fun w => offset_any s a b w (by omega)
  have c17 := fun w => refOffset_any s a b w (by omega)
  have c16 := fun w => at_P s n w (by omega)
  have c18 := fun w => refAt_any s n w (by omega)
  have c18f := fun w => refAt_any s s.size w (by omega)
  have c19 := fun w => full_any s w (by omega)
  generalize atP s s.size = F at *
  generalize atP s n = A at *
  generalize offP s a b = O at *
  obtain ⟨f1, f2⟩ := F
  obtain ⟨a1, a2⟩ := A
  obtain ⟨o1, o2⟩ := O
  go_enter Try.func5, Try.ntmps5
  go_wp2_with (first
    | (go_at_call 9; refine (c9 _).mono ?_; rintro e w' ⟨rfl, hw⟩; rw [hw])
    | (go_at_call 14; refine (c14 _).mono ?_; rintro e w1 ⟨rfl, hw1⟩; obtain ⟨t1, hB1⟩ := hk w1 hw1; have d0 := t1.c0; have d1 := t1.c1)
    | (go_at_call 17; refine (on_of c17 hB1).mono ?_; rintro e w2 ⟨rfl, hB2⟩)
    | (go_at_call 16; refine (on_of c16 hB2).mono ?_; rintro e w3 ⟨rfl, hB3⟩)
    | (go_at_call 18; (with_reducible refine (on_of c18 hB3).mono ?_); rintro e w4 ⟨rfl, hB4⟩)
    | (go_at_call 19; refine (on_of c19 hB4).mono ?_; rintro e w5 ⟨rfl, hB5⟩)
    | (go_at_call 18; (with_reducible refine (on_of c18f hB5).mono ?_); rintro e w6 ⟨rfl, hB6⟩)
    | (go_at_call 10; refine (on_of (fun w => works_any w) hB6).mono ?_; rintro e w7 ⟨rfl, hB7⟩))
  go_ret
  exact ⟨rfl, hB7⟩
end Go.Proofs.Ytipbojiialfmeaa
