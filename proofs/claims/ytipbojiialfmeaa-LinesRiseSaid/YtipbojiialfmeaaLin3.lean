/- Places and Pos rise. -/
import Derived.Test.YtipbojiialfmeaaLin2
namespace Go.Proofs.Ytipbojiialfmeaa
open Go.RowKit Go.Proofs.Utf Go.Lib

theorem byteP_ge : ∀ (t : List (Nat × Nat)) (pos acc : Nat) (want : Int), pos ≤ byteP t pos acc want
  | [], pos, _, _ => Nat.le_refl _
  | (w, r) :: t, pos, acc, want => by
    simp only [byteP]
    split
    · exact Nat.le_refl _
    · have := byteP_ge t (pos + w) (acc + wt r) want
      omega
theorem byteP_mono : ∀ (t : List (Nat × Nat)) (pos acc : Nat) (a b : Int), a ≤ b → byteP t pos acc a ≤ byteP t pos acc b
  | [], pos, _, _, _, _ => Nat.le_refl _
  | (w, r) :: t, pos, acc, a, b, h => by
    simp only [byteP]
    by_cases ha : a < ((acc + wt r : Nat) : Int)
    · rw [if_pos ha]
      split
      · exact Nat.le_refl _
      · have := byteP_ge t (pos + w) (acc + wt r) b
        omega
    · rw [if_neg ha, if_neg (by omega)]
      exact byteP_mono t (pos + w) (acc + wt r) a b h
theorem uaR_mono : ∀ (t : List Row) (a b : Int), a ≤ b → uaR t a ≤ uaR t b
  | [], _, _, _ => Nat.le_refl _
  | r :: t, a, b, h => by
    simp only [uaR]
    have := uaR_mono t a b h
    by_cases h1 : (r.to_ : Int) ≤ a
    · rw [if_pos h1, if_pos (by omega)]; omega
    · rw [if_neg h1]; omega
theorem uaP_mono (l : List UInt8) (a b : Int) (h : a ≤ b) : uaP (pieces l) 0 0 0 a ≤ uaP (pieces l) 0 0 0 b := by
  rw [ua_same _ _ (wide_pieces _ _ (Nat.le_refl _)), ua_same _ _ (wide_pieces _ _ (Nat.le_refl _))]
  exact uaR_mono _ _ _ h
theorem sorted_at {l : List (Nat × Nat)} (h : l.Pairwise (fun x y => x.2 < y.1)) (i j : Nat) (hij : i < j) (hj : j < l.length) : (l[i]'(by omega)).2 < (l[j]'hj).1 :=
  List.pairwise_iff_getElem.1 h i j (by omega) hj hij
/-- is a Pos ahead of another one? -/
def aheadP (a b c d : Int) : Prop := a < c ∨ a = c ∧ b < d
instance (a b c d : Int) : Decidable (aheadP a b c d) := by unfold aheadP; infer_instance
theorem off_rise (s : ByteArray) (a b c d : Int) (ha : 0 ≤ a) (hb : 0 ≤ b) (hc : 0 ≤ c) (hd : 0 ≤ d) (h : aheadP a b c d) : (offP s a b).1 ≤ (offP s c d).1 := by
  have ho : ∀ a b : Int, 0 ≤ a → 0 ≤ b → offP s a b = match lineAt (linesL s.data.toList) a with
    | none => ((s.size : Int), 0)
    | some x => ((x.1 : Int) + byteP (pieces (lineB s x).data.toList) 0 0 b, 0) := fun a b ha hb => if_neg (by omega)
  have hle : ∀ (n : Int) (x : Nat × Nat) (b : Int), lineAt (linesL s.data.toList) n = some x → x.1 + byteP (pieces (lineB s x).data.toList) 0 0 b ≤ x.2 := fun n x b hx => by
    have h1 := lineAt_in hx
    have h2 := byteP_le (pieces (lineB s x).data.toList) 0 0 b
    rw [widthP_pieces _ _ (Nat.le_refl _), ← size_eq, lineB_size] at h2
    omega
  have hso := linesL_sorted s.data.toList
  rw [ho a b ha hb, ho c d hc hd]
  cases h1 : lineAt (linesL s.data.toList) a with
  | none =>
    cases h2 : lineAt (linesL s.data.toList) c with
    | none => exact Int.le_refl _
    | some y =>
      exfalso
      unfold lineAt at h1 h2
      rw [if_pos ha] at h1
      rw [if_pos hc] at h2
      have e1 := List.getElem?_eq_none_iff.1 h1
      have e2 := (List.getElem?_eq_some_iff.1 h2).1
      rcases h with h | ⟨h, _⟩ <;> omega
  | some x =>
    have k1 := hle a x b h1
    have k2 := lineAt_in h1
    cases h2 : lineAt (linesL s.data.toList) c with
    | none =>
      show (x.1 : Int) + _ ≤ (s.size : Int)
      omega
    | some y =>
      show (x.1 : Int) + (byteP (pieces (lineB s x).data.toList) 0 0 b : Int) ≤ (y.1 : Int) + (byteP (pieces (lineB s y).data.toList) 0 0 d : Int)
      rcases h with h | ⟨h, hbd⟩
      · unfold lineAt at h1 h2
        rw [if_pos ha] at h1
        rw [if_pos hc] at h2
        obtain ⟨i1, e1⟩ := List.getElem?_eq_some_iff.1 h1
        obtain ⟨i2, e2⟩ := List.getElem?_eq_some_iff.1 h2
        have := sorted_at hso a.toNat c.toNat (by omega) i2
        rw [e1, e2] at this
        omega
      · subst h
        rw [h1] at h2
        cases h2
        have := byteP_mono (pieces (lineB s x).data.toList) 0 0 b d (by omega)
        omega
theorem clamp_mono (m : Nat) (a b : Int) (h : a ≤ b) : clamp a m ≤ clamp b m := by
  unfold clamp
  split <;> (try split) <;> (try split) <;> (try split) <;> omega
theorem cnt_mono (s : ByteArray) (p q : Nat) (h : p ≤ q) : cnt s p ≤ cnt s q := by
  have h1 := cnt_pos s p
  have h2 := cnt_le s p
  have h3 := (cnt_iff s p (cnt s p - 1) (by omega)).2 (by omega)
  have h4 := (cnt_iff s q (cnt s p - 1) (by omega)).1 (by omega)
  omega
/-- the Pos of a place that is not ahead is not ahead -/
theorem at_rise (s : ByteArray) (m n : Int) (h : m ≤ n) : ¬ aheadP (atP s n).1 (atP s n).2 (atP s m).1 (atP s m).2 := by
  have hp := clamp_mono s.size m n h
  have hc := cnt_mono s _ _ hp
  have h1 := cnt_pos s (clamp m s.size)
  have h2 := cnt_le s (clamp m s.size)
  have h3 := cnt_pos s (clamp n s.size)
  have h4 := cnt_le s (clamp n s.size)
  have em := atP_eq s m _ (List.getElem?_eq_getElem (show cnt s (clamp m s.size) - 1 < (linesL s.data.toList).length by omega))
  have en := atP_eq s n _ (List.getElem?_eq_getElem (show cnt s (clamp n s.size) - 1 < (linesL s.data.toList).length by omega))
  rw [em, en]
  unfold aheadP
  rintro (h5 | ⟨h5, h6⟩)
  · simp only at h5
    omega
  · simp only at h5 h6
    have hcc : cnt s (clamp n s.size) = cnt s (clamp m s.size) := by omega
    revert h6
    simp only [hcc]
    intro h6
    have := uaP_mono (s.extract (linesL s.data.toList)[cnt s (clamp m s.size) - 1].1 (linesL s.data.toList)[cnt s (clamp m s.size) - 1].2).data.toList ((clamp m s.size : Int) - (linesL s.data.toList)[cnt s (clamp m s.size) - 1].1) ((clamp n s.size : Int) - (linesL s.data.toList)[cnt s (clamp m s.size) - 1].1) (by omega)
    unfold uaL at h6
    omega
end Go.Proofs.Ytipbojiialfmeaa
