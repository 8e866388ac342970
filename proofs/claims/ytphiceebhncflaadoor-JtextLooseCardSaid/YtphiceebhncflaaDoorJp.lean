/- The words of a text of JSON, by plain functions on bytes. No program in sight. -/
import Derived.Test.YtphiceebhncflaaDoorPlain3
namespace Go.Proofs.Jt
open Go.Lib Go.Proofs.Utf

def isMarkB (c : UInt8) : Bool := [123, 125, 91, 93, 58, 44].contains c
def isBlankB (c : UInt8) : Bool := [32, 9, 10, 13].contains c
def isLow (c : UInt8) : Bool := decide (97 ≤ c.toNat ∧ c.toNat ≤ 122)
def isDig (c : UInt8) : Bool := decide (48 ≤ c.toNat ∧ c.toNat ≤ 57)
/-- how many bytes ahead are so -/
def run (p : UInt8 → Bool) (l : List UInt8) : Nat := (l.takeWhile p).length
def wTrue : List UInt8 := [116, 114, 117, 101]
def wFalse : List UInt8 := [102, 97, 108, 115, 101]
def wNull : List UInt8 := [110, 117, 108, 108]
def isWord (l : List UInt8) : Bool := decide (l = wTrue ∨ l = wFalse ∨ l = wNull)
def wordN (l : List UInt8) : Nat := if isWord (l.take (run isLow l)) then run isLow l else 0
def negN (l : List UInt8) : Nat := if l[0]? = some 45 then 1 else 0
def intN (l : List UInt8) (n : Nat) : Nat := if l[n]? = some 48 then n + 1 else n + run isDig (l.drop n)
def dotN (l : List UInt8) (n : Nat) : Nat := if l[n]? = some 46 ∧ 0 < run isDig (l.drop (n + 1)) then n + 1 + run isDig (l.drop (n + 1)) else n
def signN (l : List UInt8) (n : Nat) : Nat := if l[n]? = some 43 ∨ l[n]? = some 45 then n + 1 else n
def expN (l : List UInt8) (n : Nat) : Nat :=
  if (l[n]? = some 101 ∨ l[n]? = some 69) ∧ 0 < run isDig (l.drop (signN l (n + 1))) then signN l (n + 1) + run isDig (l.drop (signN l (n + 1))) else n
def numN (l : List UInt8) : Nat := if run isDig (l.drop (negN l)) = 0 then 0 else expN l (dotN l (intN l (negN l)))
def hexV (c : UInt8) : Int := if 48 ≤ c.toNat ∧ c.toNat ≤ 57 then c.toNat - 48 else if 97 ≤ c.toNat ∧ c.toNat ≤ 102 then c.toNat - 87 else if 65 ≤ c.toNat ∧ c.toNat ≤ 70 then c.toNat - 55 else -1
def unitL : List UInt8 → Int
  | u :: a :: b :: c :: d :: _ => if u = 117 ∧ 0 ≤ hexV a ∧ 0 ≤ hexV b ∧ 0 ≤ hexV c ∧ 0 ≤ hexV d then ((hexV a * 16 + hexV b) * 16 + hexV c) * 16 + hexV d else -1
  | _ => -1
/-- what stands behind a backslash for one byte -/
def simple (c : UInt8) : Option Nat :=
  if c = 34 then some 34 else if c = 92 then some 92 else if c = 47 then some 47 else if c = 98 then some 8 else if c = 102 then some 12 else if c = 110 then some 10 else if c = 114 then some 13 else if c = 116 then some 9 else none
/-- the point behind a backslash, and of how many bytes; 0: none -/
def escR (l : List UInt8) : Int × Nat :=
  match l[0]?.bind simple with
  | some x => (x, 1)
  | none =>
    if unitL l < 0 then (0, 0)
    else if unitL l < 55296 ∨ 57343 < unitL l then (unitL l, 5)
    else if unitL l < 56320 ∧ l[5]? = some 92 ∧ 56320 ≤ unitL (l.drop 6) ∧ unitL (l.drop 6) ≤ 57343 then ((unitL l - 55296) * 1024 + unitL (l.drop 6) - 56320 + 65536, 11)
    else (0, 0)
/-- what a string says from behind its first mark on, and how many bytes it takes -/
def qL : Nat → List UInt8 → Option (List UInt8 × Nat)
  | _, [] => none
  | 0, _ => none
  | n + 1, c :: t =>
    if c = 34 then some ([], 1)
    else if c.toNat < 32 then none
    else if c = 92 then
      if (escR t).2 = 0 then none else (qL n (t.drop (escR t).2)).map fun r => (encodeRune (escR t).1 ++ r.1, r.2 + 1 + (escR t).2)
    else (qL n t).map fun r => (c :: r.1, r.2 + 1)
def nextL : List UInt8 → Option (Nat × List UInt8 × Nat)
  | [] => none
  | c :: t =>
    if isMarkB c then some (1, [c], 1)
    else if c = 34 then (qL t.length t).map fun r => (4, r.1, r.2 + 1)
    else if 0 < wordN (c :: t) then some (2, (c :: t).take (wordN (c :: t)), wordN (c :: t))
    else if 0 < numN (c :: t) then some (3, (c :: t).take (numN (c :: t)), numN (c :: t))
    else none
structure Tok where
  kind : Nat
  text : List UInt8
  fr : Nat
  to_ : Nat
deriving DecidableEq
def tokL : Nat → List UInt8 → Nat → List Tok → List Tok × Nat × Nat
  | _, [], _, acc => (acc, 0, 0)
  | 0, _, at_, _ => ([], at_, 4)
  | n + 1, c :: t, at_, acc =>
    if isBlankB c then tokL n t (at_ + 1) acc
    else match nextL (c :: t) with
      | none => ([], at_, 4)
      | some (k, x, m) => tokL n ((c :: t).drop m) (at_ + m) (acc ++ [⟨k, x, at_, at_ + m⟩])
/-- the first place from which on no point's bytes stand -/
def brokenL : Nat → List UInt8 → Nat → Nat
  | 0, _, at_ => at_
  | n + 1, l, at_ => if l = [] then at_ else if isPt l then brokenL n (l.drop (headW l)) (at_ + headW l) else at_
def toksL (l : List UInt8) : List Tok × Nat × Nat := if validD l then tokL l.length l 0 [] else ([], brokenL l.length l 0, 8)
def hexD (n : Nat) : UInt8 := if n < 10 then (48 + n).toUInt8 else (87 + n).toUInt8
def qByte (c : UInt8) : List UInt8 :=
  if c = 34 ∨ c = 92 then [92, c] else if c = 8 then [92, 98] else if c = 9 then [92, 116] else if c = 10 then [92, 110] else if c = 12 then [92, 102] else if c = 13 then [92, 114]
  else if c.toNat < 32 then [92, 117, 48, 48, hexD (c.toNat / 16), hexD (c.toNat % 16)] else [c]
def quoteL (l : List UInt8) : List UInt8 := 34 :: (l.flatMap qByte ++ [34])


theorem run_le (p : UInt8 → Bool) (l : List UInt8) : run p l ≤ l.length := by
  unfold run
  exact (List.takeWhile_sublist _).length_le
theorem run_cons (p : UInt8 → Bool) (c : UInt8) (t : List UInt8) : run p (c :: t) = if p c then run p t + 1 else 0 := by
  unfold run
  rw [List.takeWhile_cons]
  split <;> simp
theorem run_nil (p : UInt8 → Bool) : run p [] = 0 := rfl
theorem get_drop (l : List UInt8) (n : Nat) (h : n < l.length) : l.drop n = l[n] :: l.drop (n + 1) := List.drop_eq_getElem_cons h
theorem run_at (p : UInt8 → Bool) (l : List UInt8) (n : Nat) : run p (l.drop n) = match l[n]? with | some c => if p c then run p (l.drop (n + 1)) + 1 else 0 | none => 0 := by
  by_cases h : n < l.length
  · rw [get_drop l n h, run_cons, List.getElem?_eq_getElem h]
  · rw [List.drop_eq_nil_of_le (by omega), List.getElem?_eq_none (by omega)]
    rfl
theorem wordN_le (l : List UInt8) : wordN l ≤ l.length := by
  unfold wordN
  have := run_le isLow l
  split <;> omega
theorem negN_le (l : List UInt8) : negN l ≤ 1 := by unfold negN; split <;> omega
theorem run_drop_le (p : UInt8 → Bool) (l : List UInt8) (n : Nat) : run p (l.drop n) ≤ l.length - n := by
  have := run_le p (l.drop n)
  rwa [List.length_drop] at this
theorem intN_le (l : List UInt8) (n : Nat) (h : n ≤ l.length) : intN l n ≤ l.length ∧ n ≤ intN l n := by
  unfold intN
  have := run_drop_le isDig l n
  split
  · rename_i e
    obtain ⟨h', _⟩ := List.getElem?_eq_some_iff.1 e
    omega
  · omega
theorem dotN_le (l : List UInt8) (n : Nat) (h : n ≤ l.length) : dotN l n ≤ l.length ∧ n ≤ dotN l n := by
  unfold dotN
  have := run_drop_le isDig l (n + 1)
  split <;> omega
theorem signN_le (l : List UInt8) (n : Nat) : n ≤ signN l n ∧ signN l n ≤ n + 1 := by
  unfold signN
  split <;> omega
theorem expN_le (l : List UInt8) (n : Nat) (h : n ≤ l.length) : expN l n ≤ l.length ∧ n ≤ expN l n := by
  unfold expN
  have := run_drop_le isDig l (signN l (n + 1))
  have := signN_le l (n + 1)
  split <;> omega
theorem numN_le (l : List UInt8) : numN l ≤ l.length := by
  unfold numN
  split
  · omega
  · rename_i h
    have h1 := run_drop_le isDig l (negN l)
    exact (expN_le l _ (dotN_le l _ (intN_le l _ (by omega)).1).1).1
end Go.Proofs.Jt
