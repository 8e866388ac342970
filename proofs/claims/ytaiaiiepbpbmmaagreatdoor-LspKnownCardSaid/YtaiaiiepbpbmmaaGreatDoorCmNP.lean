/- What lines.At says of a place, with its bounds. -/
import Derived.Test.YtaiaiiepbpbmmaaGreatDoorCmKN
import Derived.Test.YtaiaiiepbpbmmaaGreatDoorCmKX
namespace Go.Proofs.Ls
open Go.RowKit Go.Maps Go.Lib Go.Proofs.Utf Go.Proofs.Jt Go.Proofs
open Go.Proofs.YtaiaiiepbpbmmaaGreatDoor (at_any posOf clamp uaL lns_val lns_length lns)

theorem uaP_le : ∀ (t : List (Nat × Nat)) (pos n last : Nat) (a : Int), uaP t pos n last a ≤ n + 2 * t.length
  | [], pos, n, last, a => by
    simp only [uaP]
    split <;> omega
  | (w, r) :: t, pos, n, last, a => by
    have h1 := uaP_le t (pos + w) (n + wt r) (wt r) a
    have h2 := wt_le r
    simp only [uaP, List.length_cons]
    split
    · omega
    · split
      · omega
      · omega
theorem pieces_len : ∀ (k : Nat) (l : List UInt8), l.length ≤ k → (pieces l).length ≤ l.length
  | 0, l, h => by
    obtain rfl : l = [] := List.eq_nil_of_length_eq_zero (by omega)
    exact Nat.le_refl _
  | k + 1, l, h => by
    by_cases hne : l = []
    · subst hne
      exact Nat.le_refl _
    · have hl : 0 < l.length := List.length_pos_iff.2 hne
      have h1 := headW_pos l
      have ih := pieces_len k (l.drop (headW l)) (by rw [List.length_drop]; omega)
      rw [List.length_drop] at ih
      rw [pieces_step l hne, List.length_cons]
      omega
/-- the position of a place -/
def atV (T : ByteArray) (n : Int) : Int × Int := posOf T (clamp n T.size) ((linesL T.data.toList).takeWhile (fun x => decide (x.1 ≤ clamp n T.size)))
theorem atV_in (T : ByteArray) (hT : T.size ≤ 1000000) (n : Int) : (0 ≤ (atV T n).1 ∧ (atV T n).1 ≤ 9223372036854775807) ∧ (0 ≤ (atV T n).2 ∧ (atV T n).2 ≤ 9223372036854775807) := by
  have hlen : (linesL T.data.toList).length ≤ T.size + 1 := by rw [← lns_val T, List.length_map]; exact lns_length T
  unfold atV
  obtain ⟨c, hc⟩ : ∃ c, clamp n T.size = c := ⟨_, rfl⟩
  rw [hc]
  have hle : ((linesL T.data.toList).takeWhile (fun x => decide (x.1 ≤ c))).length ≤ T.size + 1 := Nat.le_trans (List.takeWhile_prefix _).length_le hlen
  obtain ⟨L, hL⟩ : ∃ L, (linesL T.data.toList).takeWhile (fun x => decide (x.1 ≤ c)) = L := ⟨_, rfl⟩
  rw [hL] at hle ⊢
  unfold posOf
  split
  · exact ⟨⟨by decide, by decide⟩, ⟨by decide, by decide⟩⟩
  · rename_i x hx
    have h1 : 1 ≤ L.length := by
      cases L with
      | nil => cases hx
      | cons _ _ => simp
    have hu : uaL T x c ≤ 2 * T.size := by
      unfold uaL
      have a := uaP_le (pieces (T.extract x.1 x.2).data.toList) 0 0 0 ((c : Int) - x.1)
      have b := pieces_len _ (T.extract x.1 x.2).data.toList (Nat.le_refl _)
      have d : (T.extract x.1 x.2).data.toList.length ≤ T.size := by
        rw [← Lib.size_eq]
        simp
        omega
      omega
    refine ⟨⟨by show (0 : Int) ≤ (L.length : Int) - 1; omega, by show (L.length : Int) - 1 ≤ _; omega⟩, ⟨by show (0 : Int) ≤ ((uaL T x c : Nat) : Int); omega, by show ((uaL T x c : Nat) : Int) ≤ _; omega⟩⟩
theorem atC_any (T : ByteArray) (hT : T.size ≤ 1000000) (n : Int) (w : World) : AtC w T n (atV T n) := fun V _ => at_any T n V (by omega)
end Go.Proofs.Ls
