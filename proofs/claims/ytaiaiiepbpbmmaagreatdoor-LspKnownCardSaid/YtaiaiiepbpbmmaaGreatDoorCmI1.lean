/- Values of JSON, plain: which whole number a value is. No program in sight. -/
import Derived.Lib.ParseIntBTie
import Derived.Lib.SlTrimSet
import Derived.Lib.Strings
import Derived.Test.YtaiaiiepbpbmmaaGreatDoorCmVA
namespace Go.Proofs.Jt
open Go.Lib Go.Proofs.Utf

def nvM : List UInt8 → Nat → Nat
 | [], a => a
 | c :: r, a => nvM r (a * 10 + (c.toNat - 48))
def nvL (a : Nat) (l : List UInt8) : Nat := nvM l a
theorem nvM_nil (a : Nat) : nvM [] a = a := rfl
theorem nvL_nil (a : Nat) : nvL a [] = a := by
 unfold nvL
 rw [nvM_nil]
theorem nvL_cons (a : Nat) (c : UInt8) (r : List UInt8) : nvL a (c :: r) = nvL (a * 10 + (c.toNat - 48)) r := by
 unfold nvL
 rw [nvM]
/-- what stands behind the sign -/
def bodyL (s : List UInt8) : List UInt8 := if s.head? = some 45 then s.tail else s
def wholeD (d : List UInt8) : Bool := decide (d ≠ []) && d.all isDig && !(decide (d.head? = some 48) && decide (1 < d.length))
def intL (s : List UInt8) : Option Int :=
 if wholeD (bodyL s) = true then
  (if s.head? = some 45 then (if nvL 0 (bodyL s) ≤ 9223372036854775808 then some (-(nvL 0 (bodyL s) : Int)) else none)
   else if nvL 0 (bodyL s) < 9223372036854775808 then some (nvL 0 (bodyL s) : Int) else none)
 else none
def intV (x : JV) : Option Int := if x.kind = 3 then intL x.str else none
theorem nvL_ge : ∀ (l : List UInt8) (a : Nat), a ≤ nvL a l
 | [], _ => Nat.le_refl _
 | c :: r, a => by
  have := nvL_ge r (a * 10 + (c.toNat - 48))
  rw [nvL_cons]
  omega
theorem nvL_snoc : ∀ (l : List UInt8) (a : Nat) (c : UInt8), nvL a (l ++ [c]) = nvL a l * 10 + (c.toNat - 48)
 | [], _, _ => rfl
 | d :: r, a, c => by rw [List.cons_append, nvL_cons, nvL_snoc r, nvL_cons]
theorem parse_digits : ∀ (l : List UInt8) (a : Nat), l.all isDig = true → a < 18446744073709551616 →
 (parseUint10 a l = .ok (nvL a l) ∧ nvL a l < 18446744073709551616) ∨ (parseUint10 a l = .range ∧ 18446744073709551616 ≤ nvL a l)
 | [], a, _, ha => .inl ⟨rfl, ha⟩
 | c :: r, a, h, ha => by
  rw [List.all_cons, Bool.and_eq_true] at h
  have hc : 48 ≤ c.toNat ∧ c.toNat ≤ 57 := of_decide_eq_true h.1
  have hge := nvL_ge r (a * 10 + (c.toNat - 48))
  rw [parseUint10, if_pos hc, nvL_cons]
  by_cases h1 : 1844674407370955162 ≤ a
  · rw [if_pos h1]
    exact .inr ⟨rfl, by omega⟩
  · rw [if_neg h1]
    by_cases h2 : 18446744073709551616 ≤ a * 10 + (c.toNat - 48)
    · rw [if_pos h2]
      exact .inr ⟨rfl, by omega⟩
    · rw [if_neg h2]
      exact parse_digits r _ h.2 (by omega)
theorem wholeD_parts {d : List UInt8} (h : wholeD d = true) : d ≠ [] ∧ d.all isDig = true ∧ (d.head? = some 48 → d.length ≤ 1) := by
 unfold wholeD at h
 simp only [Bool.and_eq_true, decide_eq_true_eq, Bool.not_eq_true', Bool.and_eq_false_iff, decide_eq_false_iff_not] at h
 refine ⟨h.1.1, h.1.2, fun e => ?_⟩
 rcases h.2 with h2 | h2
 · exact absurd e h2
 · omega
/-- what strconv.ParseInt makes of such a text -/
theorem parse_whole {s : List UInt8} (h : wholeD (bodyL s) = true) : parseIntB 64 s = (match intL s with | some v => .ok v | none => .range) := by
 rw [parseIntB_64]
 unfold intL
 rw [if_pos h]
 obtain ⟨h1, h2, _⟩ := wholeD_parts h
 cases s with
 | nil => exact absurd rfl h1
 | cons c r =>
  by_cases hc : c = 45
  · subst hc
    have hb : bodyL (45 :: r) = r := rfl
    rw [hb] at h1 h2
    rw [atoiAll_minus, hb, if_pos (by rfl), parseMag, if_neg h1]
    rcases parse_digits r 0 h2 (by decide) with ⟨e, hl⟩ | ⟨e, hl⟩
    · rw [e, signed]
      by_cases h3 : 9223372036854775808 < nvL 0 r
      · rw [if_pos h3, if_neg (by omega)]
      · rw [if_neg h3, if_pos (by omega)]
    · rw [e, if_neg (by omega)]
      rfl
  · have hb : bodyL (c :: r) = c :: r := if_neg (by simpa using hc)
    rw [hb] at h2
    have hd : isDig c = true := by rw [List.all_cons, Bool.and_eq_true] at h2; exact h2.1
    have hd2 : 48 ≤ c.toNat ∧ c.toNat ≤ 57 := of_decide_eq_true hd
    rw [atoiAll_plain c r (by omega) (by omega), hb, if_neg (by simpa using hc), parseMag, if_neg (by simp)]
    rcases parse_digits (c :: r) 0 h2 (by decide) with ⟨e, hl⟩ | ⟨e, hl⟩
    · rw [e, signless]
      by_cases h3 : 9223372036854775808 ≤ nvL 0 (c :: r)
      · rw [if_pos h3, if_neg (by omega)]
      · rw [if_neg h3, if_pos (by omega)]
    · rw [e, if_neg (by omega)]
      rfl
/-- nothing is left of digits, and of digits alone -/
theorem trim_digits {cs : List UInt8} (hcs : ∀ c : UInt8, cs.contains c = isDig c) (d : List UInt8) : trimS d cs = [] ↔ d.all isDig = true := by
 have hf : (fun c => cs.contains c) = isDig := funext hcs
 unfold trimS trimLeftS trimRightS
 rw [show (fun x => cs.contains x) = isDig from hf]
 constructor
 · intro h
   have h1 : ∀ l : List UInt8, l.dropWhile isDig = [] → l.all isDig = true := fun l => by
    induction l with
    | nil => intro _; rfl
    | cons c r ih =>
     intro h
     rw [List.dropWhile_cons] at h
     split at h
     · rename_i hc; rw [List.all_cons, hc, ih h]; rfl
     · cases h
   have h2 := h1 _ h
   rw [List.all_reverse] at h2
   have h3 : ∀ l : List UInt8, (l.dropWhile isDig).all isDig = true → l.all isDig = true := fun l => by
    induction l with
    | nil => intro _; rfl
    | cons c r ih =>
     intro h
     rw [List.dropWhile_cons] at h
     split at h
     · rename_i hc; rw [List.all_cons, hc, ih h]; rfl
     · exact h
   have h4 := h3 _ h2
   rwa [List.all_reverse] at h4
 · intro h
   have h1 : ∀ l : List UInt8, l.all isDig = true → l.dropWhile isDig = [] := fun l => by
    induction l with
    | nil => intro _; rfl
    | cons c r ih =>
     intro h
     rw [List.all_cons, Bool.and_eq_true] at h
     rw [List.dropWhile_cons, if_pos h.1, ih h.2]
   rw [h1 d.reverse (by rw [List.all_reverse]; exact h)]
   rfl
theorem trim_sign (s : List UInt8) : trimPrefix s [45] = bodyL s := by
 unfold trimPrefix bodyL
 cases s with
 | nil => rfl
 | cons c r =>
  by_cases hc : c = 45
  · subst hc; rfl
  · rw [if_neg (show ¬ (c :: r).head? = some 45 from fun e => hc (Option.some.inj e)), if_neg]
    have : ¬ (45 : UInt8) = c := fun e => hc e.symm
    simp [hasPrefix, List.isPrefixOf, this]
theorem intL_none_of {s : List UInt8} (h : wholeD (bodyL s) = false) : intL s = none := by
 unfold intL
 rw [if_neg (by rw [h]; simp)]
end Go.Proofs.Jt
