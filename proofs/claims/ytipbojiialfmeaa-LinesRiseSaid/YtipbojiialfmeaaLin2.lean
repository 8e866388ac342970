/- A text's lines rise; the last line that begins at or ahead of a place. -/
import Derived.Test.YtipbojiialfmeaaX8
import Derived.Test.YtipbojiialfmeaaPlain3
namespace Go.Proofs.Ytipbojiialfmeaa
open Go.RowKit Go.Proofs.Utf Go.Lib

theorem linesP_ge : ∀ (l : List UInt8) (cr : Bool) (f a : Nat), f ≤ a → ∀ x ∈ linesP l cr f a, f ≤ x.1
  | [], cr, f, a, h, x, hx => by
    simp [linesP] at hx
    subst hx
    exact Nat.le_refl _
  | b :: r, cr, f, a, h, x, hx => by
    simp only [linesP] at hx
    split at hx
    · have := linesP_ge r false (a + 1) (a + 1) (Nat.le_refl _) x hx
      omega
    · split at hx
      · simp only [List.mem_cons] at hx
        rcases hx with rfl | hx
        · exact Nat.le_refl _
        · have := linesP_ge r _ (a + 1) (a + 1) (Nat.le_refl _) x hx
          omega
      · exact linesP_ge r false f (a + 1) (by omega) x hx
theorem linesP_sorted : ∀ (l : List UInt8) (cr : Bool) (f a : Nat), f ≤ a → (linesP l cr f a).Pairwise (fun x y => x.2 < y.1)
  | [], cr, f, a, _ => by simp [linesP]
  | b :: r, cr, f, a, h => by
    simp only [linesP]
    split
    · exact linesP_sorted r false (a + 1) (a + 1) (Nat.le_refl _)
    · split
      · refine List.pairwise_cons.2 ⟨fun y hy => ?_, linesP_sorted r _ (a + 1) (a + 1) (Nat.le_refl _)⟩
        have := linesP_ge r _ (a + 1) (a + 1) (Nat.le_refl _) y hy
        show a < y.1
        omega
      · exact linesP_sorted r false f (a + 1) (by omega)
theorem linesP_head : ∀ (l : List UInt8) (f a : Nat), ∃ e t, linesP l false f a = (f, e) :: t
  | [], f, a => ⟨a, [], rfl⟩
  | b :: r, f, a => by
    simp only [linesP, Bool.false_and, Bool.false_eq_true, if_false]
    split
    · exact ⟨_, _, rfl⟩
    · exact linesP_head r f (a + 1)
theorem linesL_sorted (l : List UInt8) : (linesL l).Pairwise (fun x y => x.2 < y.1) := linesP_sorted l false 0 0 (Nat.le_refl _)
theorem linesL_rise (l : List UInt8) : (linesL l).Pairwise (fun x y => x.1 < y.1) :=
  (linesL_sorted l).imp_of_mem (fun {x y} hx _ hxy => by have := (linesP_in l false 0 0 (Nat.le_refl _) x hx).1; omega)
theorem tw_lt : ∀ (l : List (Nat × Nat)) (p : Nat), l.Pairwise (fun x y => x.1 < y.1) → ∀ (i : Nat) (hi : i < l.length), (l[i].1 ≤ p ↔ i < (l.takeWhile (fun x => decide (x.1 ≤ p))).length)
  | [], _, _, i, hi => by simp at hi
  | x :: t, p, h, i, hi => by
    rw [List.takeWhile_cons]
    obtain ⟨h1, h2⟩ := List.pairwise_cons.1 h
    by_cases hx : x.1 ≤ p
    · rw [if_pos (by simpa using hx)]
      cases i with
      | zero => simp [hx]
      | succ j => simpa using tw_lt t p h2 j (by simpa using hi)
    · rw [if_neg (by simpa using hx)]
      cases i with
      | zero => simp [hx]
      | succ j =>
        have hj : j < t.length := by simpa using hi
        have := h1 t[j] (List.getElem_mem hj)
        simp
        omega
theorem tw_get {α : Type} (f : α → Bool) : ∀ (l : List α) (i : Nat), i < (l.takeWhile f).length → (l.takeWhile f)[i]? = l[i]?
  | [], i, h => by simp at h
  | x :: t, i, h => by
    rw [List.takeWhile_cons] at h ⊢
    split at h
    · rename_i hx
      rw [if_pos hx]
      cases i with
      | zero => rfl
      | succ j => simpa using tw_get f t j (by simpa using h)
    · simp at h
theorem tw_len {α : Type} (f : α → Bool) (l : List α) : (l.takeWhile f).length ≤ l.length := (List.takeWhile_sublist f).length_le
/-- how many lines begin at or ahead of a place -/
def cnt (s : ByteArray) (p : Nat) : Nat := ((linesL s.data.toList).takeWhile (fun x => decide (x.1 ≤ p))).length
theorem cnt_pos (s : ByteArray) (p : Nat) : 1 ≤ cnt s p := by
  unfold cnt
  obtain ⟨e, t, h⟩ := linesP_head s.data.toList 0 0
  rw [show linesL s.data.toList = (0, e) :: t from h, List.takeWhile_cons, if_pos (by simp)]
  simp
theorem cnt_le (s : ByteArray) (p : Nat) : cnt s p ≤ (linesL s.data.toList).length := tw_len _ _
theorem cnt_iff (s : ByteArray) (p i : Nat) (hi : i < (linesL s.data.toList).length) : (linesL s.data.toList)[i].1 ≤ p ↔ i < cnt s p := tw_lt _ p (linesL_rise _) i hi
theorem posOf_eq (s : ByteArray) (p : Nat) (x : Nat × Nat) (hx : (linesL s.data.toList)[cnt s p - 1]? = some x) :
    posOf s p ((linesL s.data.toList).takeWhile (fun x => decide (x.1 ≤ p))) = ((cnt s p : Int) - 1, (uaL s x p : Int)) := by
  have h1 := cnt_pos s p
  unfold posOf
  rw [List.getLast?_eq_getElem?, tw_get _ _ _ (by show cnt s p - 1 < cnt s p; omega)]
  show (match (linesL s.data.toList)[cnt s p - 1]? with | none => _ | some x => _) = _
  rw [hx]
  rfl
theorem atP_eq (s : ByteArray) (n : Int) (x : Nat × Nat) (hx : (linesL s.data.toList)[cnt s (clamp n s.size) - 1]? = some x) :
    atP s n = ((cnt s (clamp n s.size) : Int) - 1, (uaL s x (clamp n s.size) : Int)) := posOf_eq s _ x hx
end Go.Proofs.Ytipbojiialfmeaa
