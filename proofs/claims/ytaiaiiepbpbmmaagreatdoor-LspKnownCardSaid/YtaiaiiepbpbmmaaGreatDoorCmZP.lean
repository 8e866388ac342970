/- Plain laws on texts' points and units that the lines want. -/
import Derived.Test.YtaiaiiepbpbmmaaGreatDoorCmZA
namespace Go.Proofs.Utf
open Go Go.Lib

theorem wt_le (r : Nat) : wt r ≤ 2 := by unfold wt; split <;> omega

theorem decodeN_wt (n a b c d : Nat) (ha : a < 256) : wt (decodeN n a b c d).1 ≤ (decodeN n a b c d).2 := by
  unfold decodeN wt
  repeat' split
  all_goals simp only [] at *
  all_goals omega
theorem wt_le_headW (l : List UInt8) : wt (decodeL l).1 ≤ headW l := by
  unfold headW; rw [decodeL_N]; exact decodeN_wt _ _ _ _ _ (UInt8.toNat_lt _)
/-- where the piece of a unit begins: `pos`, `acc`: what lies ahead -/
def byteP : List (Nat × Nat) → Nat → Nat → Int → Nat
  | [], pos, _, _ => pos
  | (w, r) :: t, pos, acc, want => if want < ((acc + wt r : Nat) : Int) then pos else byteP t (pos + w) (acc + wt r) want
/-- the units ahead of a place, as the program reckons them -/
def uaP : List (Nat × Nat) → Nat → Nat → Nat → Int → Nat
  | [], pos, n, last, a => if a < (pos : Int) then n - last else n
  | (w, r) :: t, pos, n, last, a => if a < (pos : Int) then n - last else if (pos : Int) = a then n else uaP t (pos + w) (n + wt r) (wt r) a
def widthP : List (Nat × Nat) → Nat
  | [] => 0
  | (w, _) :: t => w + widthP t
theorem widthP_pieces : ∀ (k : Nat) (l : List UInt8), l.length ≤ k → widthP (pieces l) = l.length
  | 0, l, h => by
    have : l = [] := List.eq_nil_of_length_eq_zero (by omega)
    subst this; rfl
  | k + 1, l, h => by
    by_cases hne : l = []
    · subst hne; rfl
    · have hl : 0 < l.length := List.length_pos_iff.2 hne
      have h1 := headW_pos l
      have h2 := headW_le l hl
      rw [pieces_step l hne]
      simp only [widthP]
      rw [widthP_pieces k _ (by rw [List.length_drop]; omega), List.length_drop]
      omega
theorem dec_wt (s : ByteArray) (pos : Nat) : wt (Utf8.decode s pos).1 ≤ (Utf8.decode s pos).2 := by
  have := wt_le_headW (s.data.toList.drop pos)
  unfold headW at this
  rwa [decodeL_drop] at this

end Go.Proofs.Utf
