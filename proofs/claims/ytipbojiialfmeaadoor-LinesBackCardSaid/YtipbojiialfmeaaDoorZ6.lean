/- LinesWhole: the lines with their ends are the text. -/
import Derived.Test.YtipbojiialfmeaaDoorLin2
namespace Go.Proofs.YtipbojiialfmeaaDoor
open Go.RowKit Go.Proofs.Utf Go.Lib

theorem any_take : ∀ (l : List UInt8) (k : Nat), indexAny l [13, 10] = (k : Int) → indexAny (l.take k) [13, 10] = -1
  | [], k, _ => by simp [indexAny]
  | b :: r, 0, _ => by simp [indexAny]
  | b :: r, k + 1, h => by
    rw [List.take_succ_cons]
    unfold indexAny at h ⊢
    by_cases hb : ([13, 10] : List UInt8).contains b = true
    · rw [if_pos hb] at h; omega
    · rw [if_neg hb] at h ⊢
      have hr : indexAny r [13, 10] = (k : Int) := by
        split at h <;> omega
      rw [any_take r k hr]
      simp
def NoBrk (l : List UInt8) (x : Nat × Nat) : Prop := indexAny ((l.drop x.1).take (x.2 - x.1)) [13, 10] = -1
def Chain (l : List UInt8) : Nat → List (Nat × Nat) → Prop
  | _, [] => False
  | a, [x] => x.1 = a ∧ x.1 ≤ x.2 ∧ x.2 = l.length ∧ NoBrk l x
  | a, x :: y :: t => x.1 = a ∧ x.1 ≤ x.2 ∧ x.2 ≤ l.length ∧ NoBrk l x ∧ Chain l (x.2 + if hasPrefix (l.drop x.2) [13, 10] then 2 else 1) (y :: t)
theorem any_none_take : ∀ (l : List UInt8) (k : Nat), indexAny l [13, 10] = -1 → indexAny (l.take k) [13, 10] = -1
  | [], k, _ => by simp [indexAny]
  | b :: r, 0, _ => by simp [indexAny]
  | b :: r, k + 1, h => by
    rw [List.take_succ_cons]
    unfold indexAny at h ⊢
    by_cases hb : ([13, 10] : List UInt8).contains b = true
    · rw [if_pos hb] at h; omega
    · rw [if_neg hb] at h ⊢
      have hr : indexAny r [13, 10] = -1 := by
        have := indexAny_ge [13, 10] r
        split at h
        · next e => exact eq_of_beq e
        · omega
      rw [any_none_take r k hr]
      simp
theorem chain_all (l : List UInt8) : ∀ (m a : Nat), a ≤ l.length → l.length - a ≤ m → Chain l a (linesP (l.drop a) false a a) := by
  intro m
  induction m with
  | zero =>
    intro a ha hm
    have : a = l.length := by omega
    subst this
    rw [List.drop_length]
    exact ⟨rfl, Nat.le_refl _, rfl, by simp [NoBrk, indexAny]⟩
  | succ m ih =>
    intro a ha hm
    by_cases h : indexAny (l.drop a) [13, 10] = -1
    · rw [lines_none _ a a h, List.length_drop]
      refine ⟨rfl, by simp, by simp; omega, ?_⟩
      exact any_none_take _ _ h
    · obtain ⟨k, hk⟩ : ∃ k : Nat, indexAny (l.drop a) [13, 10] = k := ⟨(indexAny (l.drop a) [13, 10]).toNat, by have := indexAny_ge [13, 10] (l.drop a); omega⟩
      obtain ⟨hkl, he⟩ := lines_hit _ a a k hk
      rw [List.length_drop] at hkl
      rw [he, List.drop_drop, List.drop_drop, List.drop_drop]
      have hnb : NoBrk l (a, a + k) := by
        unfold NoBrk
        rw [show a + k - a = k by omega]
        exact any_take _ _ hk
      cases hp : hasPrefix (l.drop (a + k)) [13, 10] with
      | false =>
        simp only [Bool.false_eq_true, if_false]
        have h2 := ih (a + k + 1) (by omega) (by omega)
        have h3 := linesP_pos (l.drop (a + (k + 1))) false (a + k + 1) (a + k + 1)
        rw [show a + k + 1 = a + (k + 1) by omega] at h2 h3 ⊢
        cases hq : linesP (l.drop (a + (k + 1))) false (a + (k + 1)) (a + (k + 1)) with
        | nil => rw [hq] at h3; simp at h3
        | cons y t =>
          rw [hq] at h2
          refine ⟨rfl, by simp, by show a + k ≤ l.length; omega, hnb, ?_⟩
          simp only [hp, Bool.false_eq_true, if_false]
          rw [show a + k + 1 = a + (k + 1) by omega]
          exact h2
      | true =>
        have hp2 := prefix_two _ hp
        rw [List.length_drop] at hp2
        simp only [if_true]
        have h2 := ih (a + k + 2) (by omega) (by omega)
        have h3 := linesP_pos (l.drop (a + (k + 2))) false (a + k + 2) (a + k + 2)
        rw [show a + k + 2 = a + (k + 2) by omega] at h2 h3 ⊢
        cases hq : linesP (l.drop (a + (k + 2))) false (a + (k + 2)) (a + (k + 2)) with
        | nil => rw [hq] at h3; simp at h3
        | cons y t =>
          rw [hq] at h2
          refine ⟨rfl, by simp, by show a + k ≤ l.length; omega, hnb, ?_⟩
          simp only [hp, if_true]
          rw [show a + k + 2 = a + (k + 2) by omega]
          exact h2
theorem chain_L (s : ByteArray) : Chain s.data.toList 0 (linesL s.data.toList) := by
  have := chain_all s.data.toList s.data.toList.length 0 (Nat.zero_le _) (by omega)
  rwa [List.drop_zero] at this
end Go.Proofs.YtipbojiialfmeaaDoor
