/- A text's lines, in plain Lean: where each begins and ends; what 'the first 13 or 10 from here' says of them. -/
import Derived.Test.YtcenfckjkboabaaDoorPlain2
import Derived.Lib.IndexAny
namespace Go.Proofs.Utf
open Go.Lib

/-- the lines of what is left: whether the byte ahead is 13, where the line began, where we are -/
def linesP : List UInt8 → Bool → Nat → Nat → List (Nat × Nat)
  | [], _, f, a => [(f, a)]
  | b :: r, cr, f, a =>
    if cr && b == 10 then linesP r false (a + 1) (a + 1)
    else if b == 10 || b == 13 then (f, a) :: linesP r (b == 13) (a + 1) (a + 1)
    else linesP r false f (a + 1)
def linesL (l : List UInt8) : List (Nat × Nat) := linesP l false 0 0

theorem linesP_cr (l : List UInt8) (f a : Nat) (h : ∀ r, l ≠ 10 :: r) : linesP l true f a = linesP l false f a := by
  cases l with
  | nil => rfl
  | cons b r =>
    have hb : (b == 10) = false := by
      cases e : b == 10 with
      | false => rfl
      | true => exact absurd (by rw [eq_of_beq e]) (h r)
    simp only [linesP, hb, Bool.and_false, Bool.false_eq_true, if_false, Bool.false_or]
theorem linesP_ten (r : List UInt8) (f a : Nat) : linesP (10 :: r) true f a = linesP r false (a + 1) (a + 1) := rfl

theorem lines_none : ∀ (l : List UInt8) (f a : Nat), indexAny l [13, 10] = -1 → linesP l false f a = [(f, a + l.length)]
  | [], f, a, _ => rfl
  | b :: r, f, a, h => by
    unfold indexAny at h
    by_cases hb : ([13, 10] : List UInt8).contains b = true
    · rw [if_pos hb] at h; omega
    · rw [if_neg hb] at h
      have hr : indexAny r [13, 10] = -1 := by
        have := indexAny_ge [13, 10] r
        split at h
        · next e => exact eq_of_beq e
        · omega
      have h10 : (b == 10) = false := by simp at hb; simp; exact hb.2
      have h13 : (b == 13) = false := by simp at hb; simp; exact hb.1
      simp only [linesP, h10, h13, Bool.and_false, Bool.or_self, Bool.false_eq_true, if_false]
      rw [lines_none r f (a + 1) hr]
      simp only [List.length_cons, List.cons.injEq, Prod.mk.injEq, and_true, true_and]
      omega

theorem lines_hit : ∀ (l : List UInt8) (f a k : Nat), indexAny l [13, 10] = (k : Int) → k < l.length ∧
    linesP l false f a = (f, a + k) :: (if hasPrefix (l.drop k) [13, 10] then linesP (l.drop (k + 2)) false (a + k + 2) (a + k + 2) else linesP (l.drop (k + 1)) false (a + k + 1) (a + k + 1))
  | [], f, a, k, h => by simp [indexAny] at h
  | b :: r, f, a, k, h => by
    unfold indexAny at h
    by_cases hb : ([13, 10] : List UInt8).contains b = true
    · rw [if_pos hb] at h
      obtain rfl : k = 0 := by omega
      refine ⟨by simp, ?_⟩
      have hor : (b == 10 || b == 13) = true := by simp at hb; simp; exact hb.symm
      simp only [linesP, Bool.false_and, Bool.false_eq_true, if_false, hor, if_true, List.drop_zero, Nat.add_zero, Nat.zero_add, List.cons.injEq, true_and]
      by_cases h13 : b = 13
      · subst h13
        cases r with
        | nil => rfl
        | cons c t =>
          by_cases h10 : c = 10
          · subst h10
            rfl
          · have hp : hasPrefix (13 :: c :: t) [13, 10] = false := by
              simp [hasPrefix, List.isPrefixOf]
              exact fun e => h10 e.symm
            rw [hp, if_neg (by simp)]
            exact linesP_cr _ _ _ (fun r' e => h10 (by injection e))
      · have hp : hasPrefix (b :: r) [13, 10] = false := by
          simp [hasPrefix, List.isPrefixOf]
          exact fun e => absurd e.symm h13
        rw [hp, if_neg (by simp), show (b == 13) = false by simp [h13]]
        rfl
    · rw [if_neg hb] at h
      have h10 : (b == 10) = false := by simp at hb; simp; exact hb.2
      have h13 : (b == 13) = false := by simp at hb; simp; exact hb.1
      split at h
      · omega
      · rename_i e2
        have e3 : indexAny r [13, 10] ≠ -1 := fun e => by simp [e] at e2
        have e4 := indexAny_ge [13, 10] r
        obtain ⟨j, rfl⟩ : ∃ j, k = j + 1 := ⟨k - 1, by omega⟩
        obtain ⟨hj, he⟩ := lines_hit r f (a + 1) j (by omega)
        refine ⟨by simp; omega, ?_⟩
        simp only [linesP, h10, h13, Bool.and_false, Bool.or_self, Bool.false_eq_true, if_false]
        rw [he]
        simp only [List.drop_succ_cons, show a + 1 + j = a + (j + 1) by omega]

theorem linesP_in : ∀ (l : List UInt8) (cr : Bool) (f a : Nat), f ≤ a → ∀ x ∈ linesP l cr f a, x.1 ≤ x.2 ∧ x.2 ≤ a + l.length
  | [], cr, f, a, h, x, hx => by
    simp [linesP] at hx
    subst hx
    simp [h]
  | b :: r, cr, f, a, h, x, hx => by
    simp only [linesP] at hx
    split at hx
    · have := linesP_in r false (a + 1) (a + 1) (Nat.le_refl _) x hx
      simp; omega
    · split at hx
      · simp only [List.mem_cons] at hx
        rcases hx with rfl | hx
        · simp [h]
        · have := linesP_in r _ (a + 1) (a + 1) (Nat.le_refl _) x hx
          simp; omega
      · have := linesP_in r false f (a + 1) (by omega) x hx
        simp; omega
theorem linesP_pos : ∀ (l : List UInt8) (cr : Bool) (f a : Nat), 1 ≤ (linesP l cr f a).length
  | [], _, _, _ => by simp [linesP]
  | b :: r, cr, f, a => by
    simp only [linesP]
    split
    · exact linesP_pos r _ _ _
    · split
      · simp
      · exact linesP_pos r _ _ _
theorem linesP_length : ∀ (l : List UInt8) (cr : Bool) (f a : Nat), (linesP l cr f a).length ≤ l.length + 1
  | [], _, _, _ => by simp [linesP]
  | b :: r, cr, f, a => by
    simp only [linesP]
    split
    · have := linesP_length r false (a + 1) (a + 1); simp; omega
    · split
      · have := linesP_length r (b == 13) (a + 1) (a + 1); simp; omega
      · have := linesP_length r false f (a + 1); simp; omega
end Go.Proofs.Utf
