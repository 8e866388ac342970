/- Plain laws on the reference's rows. -/
import Derived.Test.YtphiceebhncflaaDoorPlain
namespace Go.Proofs.Utf
open Go.Lib
/-! ### what the reference's loops over the rows give -/
def unitsR : List Row → Nat
  | [] => 0
  | r :: t => r.units + unitsR t
def byteR : List Row → Nat → Int → Nat → Nat
  | [], _, _, len => len
  | r :: t, acc, want, len => if (acc : Int) ≤ want ∧ want < (acc : Int) + r.units then r.from_ else byteR t (acc + r.units) want len
def uaR : List Row → Int → Nat
  | [], _ => 0
  | r :: t, a => (if (r.to_ : Int) ≤ a then r.units else 0) + uaR t a
def validR : List Row → Bool
  | [] => true
  | r :: t => r.is_ && validR t
theorem rowsP_units : ∀ (t : List (Nat × Nat)) (pos : Nat) (r : Row), r ∈ rowsP t pos → r.units ≤ 2
  | [], _, r, h => by simp [rowsP] at h
  | (w, x) :: t, pos, r, h => by
    simp only [rowsP, List.mem_cons] at h
    rcases h with rfl | h
    · exact wt_le x
    · exact rowsP_units t _ r h
theorem rowsP_to : ∀ (t : List (Nat × Nat)) (pos : Nat) (r : Row), r ∈ rowsP t pos → r.to_ ≤ pos + widthP t ∧ r.from_ ≤ r.to_
  | [], _, r, h => by simp [rowsP] at h
  | (w, x) :: t, pos, r, h => by
    simp only [rowsP, List.mem_cons] at h
    rcases h with rfl | h
    · simp only [widthP]; omega
    · have := rowsP_to t _ r h
      simp only [widthP]
      omega
theorem flat4 {α β : Type} (f : α → List β) (hf : ∀ a, (f a).length = 4) : ∀ (l : List α) (k : Nat) (h : k < l.length) (j : Nat), j < 4 → (l.flatMap f)[k * 4 + j]? = (f l[k])[j]?
  | [], k, h, _, _ => by simp at h
  | a :: l, 0, _, j, hj => by
    simp only [List.flatMap_cons, Nat.zero_mul, Nat.zero_add, List.getElem_cons_zero]
    rw [List.getElem?_append_left (by rw [hf]; exact hj)]
  | a :: l, k + 1, h, j, hj => by
    simp only [List.flatMap_cons, List.getElem_cons_succ]
    rw [List.getElem?_append_right (by rw [hf]; omega), hf, show (k + 1) * 4 + j - 4 = k * 4 + j from by omega]
    exact flat4 f hf l k (by simpa using h) j hj
theorem drop_at {α : Type} (l : List α) (k : Nat) (h : k < l.length) : l.drop k = l[k] :: l.drop (k + 1) := List.drop_eq_getElem_cons h
end Go.Proofs.Utf
