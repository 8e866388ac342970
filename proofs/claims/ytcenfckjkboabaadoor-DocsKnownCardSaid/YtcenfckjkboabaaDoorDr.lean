/- Changes of a text, by plain functions. No program in sight. -/
import Derived.Test.YtcenfckjkboabaaDoorX7
import Derived.Test.YtcenfckjkboabaaDoorZ2
namespace Go.Proofs.Dc
open Go.Lib

structure Chg where
  whole : Bool
  a : Int
  b : Int
  c : Int
  d : Int
  text : ByteArray
/-- the places of a change -/
def Chg.places (s : ByteArray) (x : Chg) : Int × Int × Int := if x.whole then (0, (s.size : Int), 0) else YtcenfckjkboabaaDoor.cutP s x.a x.b x.c x.d
/-- the text behind one change, or why there is none -/
def stepV (s : ByteArray) (x : Chg) : ByteArray × Int :=
  if validD x.text.data.toList = false then (⟨#[]⟩, 8)
  else if (x.places s).2.2 ≠ 0 then (⟨#[]⟩, (x.places s).2.2)
  else if 65536 < (s.size : Int) - ((x.places s).2.1 - (x.places s).1) + (x.text.size : Int) then (⟨#[]⟩, 3)
  else (s.extract 0 (x.places s).1.toNat ++ x.text ++ s.extract (x.places s).2.1.toNat s.size, 0)
/-- the text behind all changes -/
def afterV (s : ByteArray) : List Chg → ByteArray × Int
  | [] => (s, 0)
  | x :: r => if (stepV s x).2 = 0 then afterV (stepV s x).1 r else (⟨#[]⟩, (stepV s x).2)
theorem afterV_cons_ok {s t : ByteArray} {x : Chg} {r : List Chg} (h : stepV s x = (t, 0)) : afterV s (x :: r) = afterV t r := by
  rw [afterV, h]; rfl
theorem afterV_cons_err {s t : ByteArray} {x : Chg} {r : List Chg} {e : Int} (h : stepV s x = (t, e)) (he : e ≠ 0) : afterV s (x :: r) = (⟨#[]⟩, e) := by
  rw [afterV, h]; exact if_neg he
open YtcenfckjkboabaaDoor in
theorem offP_in (s : ByteArray) (a b : Int) : 0 ≤ (offP s a b).1 ∧ (offP s a b).1 ≤ s.size ∧ ((offP s a b).2 = 0 ∨ (offP s a b).2 = 2) := by
  unfold offP
  split
  · exact ⟨by simp, by simp, .inr rfl⟩
  · split
    · exact ⟨by simp, by simp, .inl rfl⟩
    · rename_i x hl
      have hx := lineAt_in hl
      have hz := lineB_size s x
      have hby := byteP_le (Utf.pieces (lineB s x).data.toList) 0 0 b
      rw [Utf.widthP_pieces _ _ (Nat.le_refl _), ← Lib.size_eq, hz] at hby
      refine ⟨by simp; omega, ?_, .inl rfl⟩
      simp only
      omega
open YtcenfckjkboabaaDoor in
theorem cutP_in (s : ByteArray) (a b c d : Int) : 0 ≤ (cutP s a b c d).1 ∧ (cutP s a b c d).1 ≤ (cutP s a b c d).2.1 ∧ (cutP s a b c d).2.1 ≤ s.size ∧ ((cutP s a b c d).2.2 = 0 ∨ (cutP s a b c d).2.2 = 2) := by
  unfold cutP
  have h1 := offP_in s a b
  have h2 := offP_in s c d
  split
  · exact ⟨by simp, by simp, by simp, .inr rfl⟩
  · rename_i h
    refine ⟨h1.1, ?_, h2.2.1, .inl rfl⟩
    simp only
    omega
theorem places_in (s : ByteArray) (x : Chg) : 0 ≤ (x.places s).1 ∧ (x.places s).1 ≤ (x.places s).2.1 ∧ (x.places s).2.1 ≤ s.size ∧ ((x.places s).2.2 = 0 ∨ (x.places s).2.2 = 2) := by
  unfold Chg.places
  split
  · exact ⟨by simp, by simp, by simp, .inl rfl⟩
  · exact cutP_in s _ _ _ _
theorem stepV_bad {s : ByteArray} {x : Chg} (hv : validD x.text.data.toList = false) : stepV s x = (⟨#[]⟩, 8) := by unfold stepV; rw [if_pos hv]
theorem stepV_off {s : ByteArray} {x : Chg} {f t e : Int} (hv : validD x.text.data.toList = true) (hp : x.places s = (f, t, e)) (he : e ≠ 0) : stepV s x = (⟨#[]⟩, e) := by
  unfold stepV
  rw [if_neg (by rw [hv]; decide), hp, if_pos he]
theorem stepV_long {s : ByteArray} {x : Chg} {f t : Nat} (hv : validD x.text.data.toList = true) (hp : x.places s = ((f : Int), (t : Int), 0)) (hl : 65536 < (s.size : Int) - ((t : Int) - (f : Int)) + (x.text.size : Int)) : stepV s x = (⟨#[]⟩, 3) := by
  unfold stepV
  rw [if_neg (by rw [hv]; decide), hp, if_neg (by simp), if_pos hl]
theorem stepV_ok {s : ByteArray} {x : Chg} {f t : Nat} (hv : validD x.text.data.toList = true) (hp : x.places s = ((f : Int), (t : Int), 0)) (hl : ¬ 65536 < (s.size : Int) - ((t : Int) - (f : Int)) + (x.text.size : Int)) : stepV s x = (s.extract 0 f ++ x.text ++ s.extract t s.size, 0) := by
  unfold stepV
  rw [if_neg (by rw [hv]; decide), hp, if_neg (by simp), if_neg hl]
  rfl
theorem stepV_size {s t : ByteArray} {x : Chg} (h : stepV s x = (t, 0)) : t.size ≤ 65536 := by
  unfold stepV at h
  have hp := places_in s x
  split at h
  · cases h
  · split at h
    · rename_i hh; exact absurd (congrArg Prod.snd h) hh
    · split at h
      · cases h
      · cases h
        simp only [ByteArray.size_append, ByteArray.size_extract]
        omega
theorem stepV_err (s : ByteArray) (x : Chg) : (stepV s x).2 = 0 ∨ (stepV s x).2 = 2 ∨ (stepV s x).2 = 3 ∨ (stepV s x).2 = 8 := by
  unfold stepV
  have hp := places_in s x
  split
  · exact .inr (.inr (.inr rfl))
  · split
    · simp only; omega
    · split
      · exact .inr (.inr (.inl rfl))
      · exact .inl rfl
theorem afterV_err (s : ByteArray) (l : List Chg) : (afterV s l).2 = 0 ∨ (afterV s l).2 = 2 ∨ (afterV s l).2 = 3 ∨ (afterV s l).2 = 8 := by
  induction l generalizing s with
  | nil => exact .inl rfl
  | cons x r ih =>
    rw [afterV]
    split
    · exact ih _
    · exact stepV_err s x
theorem afterV_size (s : ByteArray) (l : List Chg) : (afterV s l).1.size ≤ max s.size 65536 := by
  induction l generalizing s with
  | nil => exact Nat.le_max_left _ _
  | cons x r ih =>
    rw [afterV]
    split
    · rename_i h
      have := ih (stepV s x).1
      have := stepV_size (s := s) (x := x) (t := (stepV s x).1) (by rw [← h])
      omega
    · exact Nat.zero_le _
end Go.Proofs.Dc
