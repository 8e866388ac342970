/- URIs of documents, by plain functions on bytes. No program in sight. -/
import Derived.Lib.IndexMore
import Derived.Lib.IndexLaws
import Derived.Lib.Strings
import Derived.Lib.Fields
import Derived.Lib.Hide
namespace Go.Proofs.Dc
open Go.Lib

def letB (c : UInt8) : Bool := decide ((65 ≤ c.toNat ∧ c.toNat ≤ 90) ∨ (97 ≤ c.toNat ∧ c.toNat ≤ 122) ∨ c.toNat = 95)
def digB (c : UInt8) : Bool := decide (48 ≤ c.toNat ∧ c.toNat ≤ 57)
/-- may this byte stand there in a name? -/
def okAt (i : Nat) (c : UInt8) : Bool := letB c || (i != 0 && digB c)
def allOk (s : List UInt8) : Bool := (List.range s.length).all fun i => okAt i (s.getD i 0)
def nameB (s : List UInt8) : Bool := decide (s ≠ [] ∧ s ≠ [95] ∧ s.length ≤ 40) && allOk s
theorem allOk_iff {s : List UInt8} : allOk s = true ↔ ∀ i c, s[i]? = some c → okAt i c = true := by
  unfold allOk
  rw [List.all_eq_true]
  constructor
  · intro h i c hc
    have hl := (List.getElem?_eq_some_iff.1 hc).1
    have := h i (List.mem_range.2 hl)
    rw [List.getD_eq_getElem?_getD, hc] at this
    exact this
  · intro h i hi
    have hl := List.mem_range.1 hi
    rw [List.getD_eq_getElem?_getD, List.getElem?_eq_getElem hl]
    exact h i _ (List.getElem?_eq_getElem hl)
theorem name_no47 {s : List UInt8} (h : nameB s = true) : ∀ c ∈ s, c ≠ 47 := by
  intro c hc e
  subst e
  obtain ⟨i, hi⟩ := List.getElem?_of_mem hc
  unfold nameB at h
  rw [Bool.and_eq_true] at h
  have := allOk_iff.1 h.2 i 47 hi
  unfold okAt letB digB at this
  simp at this
def ahead : List UInt8 := [102, 105, 108, 101, 58, 47, 47, 47]
def dotgo : List UInt8 := [46, 103, 111]
def wordsT : List UInt8 := [98, 111, 111, 108, 32, 98, 114, 101, 97, 107, 32, 99, 111, 110, 116, 105, 110, 117, 101, 32, 101, 108, 115, 101, 32, 102, 97, 108, 115, 101, 32, 102, 108, 111, 97, 116, 54, 52, 32, 102, 111, 114, 32, 102, 117, 110, 99, 32, 105, 102, 32, 105, 109, 112, 111, 114, 116, 32, 105, 110, 116, 32, 108, 101, 110, 32, 112, 97, 99, 107, 97, 103, 101, 32, 112, 97, 110, 105, 99, 32, 112, 114, 105, 110, 116, 32, 114, 101, 116, 117, 114, 110, 32, 115, 116, 114, 105, 110, 103, 32, 115, 116, 114, 117, 99, 116, 32, 116, 114, 117, 101, 32, 116, 121, 112, 101, 32, 118, 97, 114]
def words : List (List UInt8) := fields wordsT
def resB (s : List UInt8) : Bool := words.contains s
/-- is this the directory of that text? -/
def IsDir (u d : List UInt8) : Prop := ∃ b, u = ahead ++ d ++ [47] ++ b ++ dotgo ∧ nameB d = true ∧ resB d = false ∧ nameB b = true
/-- the directory that a text names -/
def dirV (u : List UInt8) : Option (List UInt8) :=
  let r := trimPrefix u ahead
  let c := cut r [47]
  let b := trimSuffix c.2.1 dotgo
  if hasPrefix u ahead = true ∧ c.2.2 = true ∧ hasSuffix c.2.1 dotgo = true ∧ nameB c.1 = true ∧ resB c.1 = false ∧ nameB b = true then some c.1 else none
theorem occ_one {s : List UInt8} {c : UInt8} {i : Nat} : occAt s [c] i = true ↔ s[i]? = some c := by
  unfold occAt
  rw [List.isPrefixOf_iff_prefix]
  constructor
  · rintro ⟨t, ht⟩
    have := congrArg (·[0]?) ht
    simpa [List.getElem?_drop] using this.symm
  · intro h
    obtain ⟨hl, he⟩ := List.getElem?_eq_some_iff.1 h
    rw [List.drop_eq_getElem_cons hl, he]
    exact ⟨_, rfl⟩
theorem index_first47 {d t : List UInt8} (h : ∀ c ∈ d, c ≠ 47) : index (d ++ 47 :: t) [47] = (d.length : Nat) := by
  refine index_first (by simp) (occ_one.2 (by simp)) fun j hj => ?_
  cases ho : occAt (d ++ 47 :: t) [47] j with
  | false => rfl
  | true =>
    have := occ_one.1 ho
    rw [List.getElem?_append_left hj] at this
    exact absurd rfl (h 47 (List.mem_of_getElem? this))
theorem isDir_dirV {u d : List UInt8} (h : IsDir u d) : dirV u = some d := by
  obtain ⟨b, hu, h1, h2, h3⟩ := h
  have hu2 : u = ahead ++ (d ++ 47 :: (b ++ dotgo)) := by rw [hu]; simp
  have hp : hasPrefix u ahead = true := by
    unfold hasPrefix
    rw [List.isPrefixOf_iff_prefix]
    exact ⟨_, hu2.symm⟩
  have ht : trimPrefix u ahead = d ++ 47 :: (b ++ dotgo) := by
    unfold trimPrefix
    rw [if_pos hp, hu2, List.drop_left]
  have hc : cut (d ++ 47 :: (b ++ dotgo)) [47] = (d, b ++ dotgo, true) := by
    unfold cut
    rw [index_first47 (name_no47 h1), if_pos (by omega)]
    simp only [Int.toNat_natCast, List.length_singleton, List.take_left]
    have : d ++ 47 :: (b ++ dotgo) = (d ++ [47]) ++ (b ++ dotgo) := by simp
    rw [this, show d.length + 1 = (d ++ [47]).length by simp, List.drop_left]
  have hs : hasSuffix (b ++ dotgo) dotgo = true := by
    unfold hasSuffix
    rw [List.isSuffixOf_iff_suffix]
    exact ⟨_, rfl⟩
  have hb : trimSuffix (b ++ dotgo) dotgo = b := by
    unfold trimSuffix
    rw [if_pos hs, List.length_append, Nat.add_sub_cancel, List.take_left]
  unfold dirV
  simp only
  rw [ht, hc]
  simp only [hb]
  rw [if_pos ⟨hp, trivial, hs, h1, h2, h3⟩]
theorem dirV_isDir {u d : List UInt8} (h : dirV u = some d) : IsDir u d := by
  unfold dirV at h
  simp only at h
  split at h
  · rename_i hh
    obtain ⟨hp, hc, hs, h1, h2, h3⟩ := hh
    obtain rfl := Option.some.inj h
    refine ⟨_, ?_, h1, h2, h3⟩
    unfold hasPrefix at hp
    rw [List.isPrefixOf_iff_prefix] at hp
    obtain ⟨t, rfl⟩ := hp
    have ht : trimPrefix (ahead ++ t) ahead = t := by
      unfold trimPrefix
      rw [if_pos (by unfold hasPrefix; rw [List.isPrefixOf_iff_prefix]; exact ⟨t, rfl⟩), List.drop_left]
    rw [ht] at hc hs ⊢
    unfold cut at hc hs ⊢
    split at hc
    · rename_i hi
      rw [if_pos hi] at hs
      rw [if_pos hi]
      simp only at hs ⊢
      obtain ⟨i, hi2⟩ : ∃ i : Nat, index t [47] = i := ⟨(index t [47]).toNat, by omega⟩
      rw [hi2] at hs ⊢
      simp only [Int.toNat_natCast, List.length_singleton] at hs ⊢
      have h47 : t[i]? = some 47 := by
        rcases index_spec t [47] with ⟨g, _⟩ | ⟨j, g1, _, g3, _⟩
        · omega
        · obtain rfl : j = i := by omega
          exact occ_one.1 g3
      have hsplit : t = t.take i ++ [47] ++ t.drop (i + 1) := by
        obtain ⟨hl, he⟩ := List.getElem?_eq_some_iff.1 h47
        conv => lhs; rw [← List.take_append_drop i t, List.drop_eq_getElem_cons hl, he]
        simp
      have hb : t.drop (i + 1) = trimSuffix (t.drop (i + 1)) dotgo ++ dotgo := by
        unfold trimSuffix
        rw [if_pos hs]
        unfold hasSuffix at hs
        rw [List.isSuffixOf_iff_suffix] at hs
        obtain ⟨q, hq⟩ := hs
        rw [← hq, List.length_append, Nat.add_sub_cancel, List.take_left]
      conv => lhs; rw [hsplit, hb]
      simp [List.append_assoc]
    · cases hc
  · cases h
theorem dirV_none {u : List UInt8} (h : ∀ d, ¬ IsDir u d) : dirV u = none := by
  cases hd : dirV u with
  | none => rfl
  | some d => exact absurd (dirV_isDir hd) (h d)
/-- the place that the document looks for -/
theorem dir_at {u : List UInt8} {s : List UInt8} (hu : u = ahead ++ s ++ dotgo) (i : Nat) (hi : s[i]? = some 47) (h1 : nameB (s.take i) = true) (h2 : resB (s.take i) = false) (h3 : nameB (s.drop (i + 1)) = true) : dirV u = some (s.take i) := by
  refine isDir_dirV ⟨s.drop (i + 1), ?_, h1, h2, h3⟩
  obtain ⟨hl, he⟩ := List.getElem?_eq_some_iff.1 hi
  have hsplit : s = s.take i ++ [47] ++ s.drop (i + 1) := by
    conv => lhs; rw [← List.take_append_drop i s, List.drop_eq_getElem_cons hl, he]
    simp
  rw [hu]
  conv => lhs; rw [hsplit]
  simp [List.append_assoc]
theorem dir_no {u : List UInt8} {s : List UInt8} (hu : u = ahead ++ s ++ dotgo) (h : ∀ i, s[i]? = some 47 → ¬ (nameB (s.take i) = true ∧ resB (s.take i) = false ∧ nameB (s.drop (i + 1)) = true)) : dirV u = none := by
  refine dirV_none fun d hd => ?_
  obtain ⟨b, hu2, h1, h2, h3⟩ := hd
  have hs : s = d ++ [47] ++ b := by
    have e : ahead ++ s ++ dotgo = ahead ++ (d ++ [47] ++ b) ++ dotgo := by rw [← hu, hu2]; simp [List.append_assoc]
    exact List.append_cancel_left (List.append_cancel_right e)
  refine h d.length (by rw [hs]; simp) ⟨?_, ?_, ?_⟩
  · rw [hs, List.append_assoc, List.take_left]; exact h1
  · rw [hs, List.append_assoc, List.take_left]; exact h2
  · have : (d ++ [47] ++ b).drop (d.length + 1) = b := by
      rw [show d.length + 1 = (d ++ [47]).length by simp, List.drop_left]
    rw [hs, this]; exact h3
end Go.Proofs.Dc
