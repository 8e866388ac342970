/- Plain laws on texts' points and units that the lines want. -/
import Derived.Test.YtaiaiiepbpbmmaaGreatDoorCkZA
namespace Go.Proofs.Utf
open Go Go.Lib

theorem wt_le (r : Nat) : wt r ≤ 2 := by unfold wt; split <;> omega

theorem decodeN_wt (n a b c d : Nat) (ha : a < 256) : wt (decodeN n a b c d).1 ≤ (decodeN n a b c d).2 := by
  unfold decodeN wt
  repeat' split
  all_goals simp only [] at *
  all_goals omega
theorem wt_le_headW (l : List UInt8) : wt (decodeL l).1 ≤ headW l := by
  unfold headW; rw [decodeL_N]; exact decodeN_wt _ _ _ _ _ (UInt8.toNat_lt _)
/-- the units ahead of a place, as the program reckons them -/
def uaP : List (Nat × Nat) → Nat → Nat → Nat → Int → Nat
  | [], pos, n, last, a => if a < (pos : Int) then n - last else n
  | (w, r) :: t, pos, n, last, a => if a < (pos : Int) then n - last else if (pos : Int) = a then n else uaP t (pos + w) (n + wt r) (wt r) a
theorem dec_wt (s : ByteArray) (pos : Nat) : wt (Utf8.decode s pos).1 ≤ (Utf8.decode s pos).2 := by
  have := wt_le_headW (s.data.toList.drop pos)
  unfold headW at this
  rwa [decodeL_drop] at this

end Go.Proofs.Utf
