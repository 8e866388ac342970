/- Values of JSON, plain: what they are, their texts and words, and what words say. No program in sight. -/
import Derived.Test.YtphiceebhncflaaDoorJw2
namespace Go.Proofs.Jt
open Go.Lib Go.Proofs.Utf

inductive JV where
  | mk (kind : Int) (str : List UInt8) (keys : List (List UInt8)) (items : List JV)
namespace JV
def kind : JV → Int | .mk k _ _ _ => k
def str : JV → List UInt8 | .mk _ s _ _ => s
def keys : JV → List (List UInt8) | .mk _ _ ks _ => ks
def items : JV → List JV | .mk _ _ _ it => it
end JV
def jn (k : Int) : JV := .mk k [] [] []
def keysW : List (List UInt8) → Nat
  | [] => 0
  | k :: t => 1 + k.length + keysW t
mutual
/-- how many values, keys and bytes -/
def JV.wt : JV → Nat | .mk _ s ks it => 1 + s.length + keysW ks + wtL it
def wtL : List JV → Nat
  | [] => 0
  | x :: t => x.wt + wtL t
end
mutual
def JV.dep : JV → Nat | .mk k _ _ it => if k = 5 ∨ k = 6 then depL it + 1 else 0
def depL : List JV → Nat
  | [] => 0
  | x :: t => max x.dep (depL t)
end
/-- is a text a number? -/
def numB (s : List UInt8) : Bool := decide (nextL s = some (3, s, s.length))
def JV.shaped : JV → Bool
  | .mk k s ks it =>
    if k = 0 ∨ k = 1 ∨ k = 2 then decide (s = []) && ks.isEmpty && it.isEmpty
    else if k = 3 then ks.isEmpty && it.isEmpty && numB s
    else if k = 4 then ks.isEmpty && it.isEmpty
    else if k = 5 then decide (s = []) && ks.isEmpty
    else if k = 6 then decide (s = []) && ks.length == it.length
    else false
mutual
/-- what is found in a value -/
def JV.fnd : JV → Nat
  | .mk k s ks it => if (JV.mk k s ks it).shaped = false then 4 else if k = 4 ∧ validD s = false then 8 else fndL (decide (k = 6)) it ks []
def fndL (o : Bool) : List JV → List (List UInt8) → List (List UInt8) → Nat
  | [], _, _ => 0
  | x :: t, ks, met =>
    if o = true ∧ validD (ks.headD []) = false then 8
    else if o = true ∧ ks.headD [] ∈ met then 13
    else if x.fnd = 0 then fndL o t ks.tail (ks.headD [] :: met) else x.fnd
end
def JV.chk (v : JV) : Nat := if 64 < v.dep then 3 else v.fnd
mutual
def JV.text : JV → List UInt8
  | .mk k s ks it =>
    if k = 0 then wNull else if k = 1 then wFalse else if k = 2 then wTrue else if k = 3 then s else if k = 4 then quoteL s
    else if k = 6 then 123 :: (txtL true it ks true ++ [125]) else 91 :: (txtL false it ks true ++ [93])
def txtL (o : Bool) : List JV → List (List UInt8) → Bool → List UInt8
  | [], _, _ => []
  | x :: t, ks, first => (if first then [] else [44]) ++ ((if o then quoteL (ks.headD []) ++ [58] else []) ++ (x.text ++ txtL o t ks.tail false))
end
abbrev KT := Nat × List UInt8
mutual
/-- a value's words -/
def JV.kts : JV → List KT
  | .mk k s ks it =>
    if k = 0 then [(2, wNull)] else if k = 1 then [(2, wFalse)] else if k = 2 then [(2, wTrue)] else if k = 3 then [(3, s)] else if k = 4 then [(4, s)]
    else if k = 6 then (1, [123]) :: (ktL true it ks true ++ [(1, [125])]) else (1, [91]) :: (ktL false it ks true ++ [(1, [93])])
def ktL (o : Bool) : List JV → List (List UInt8) → Bool → List KT
  | [], _, _ => []
  | x :: t, ks, first => (if first then [] else [(1, [44])]) ++ ((if o then [(4, ks.headD []), (1, [58])] else []) ++ (x.kts ++ ktL o t ks.tail false))
end
mutual
/-- does a key stand twice in an object? -/
def JV.dup : JV → Bool | .mk k _ ks it => dupL (decide (k = 6)) it ks []
def dupL (o : Bool) : List JV → List (List UInt8) → List (List UInt8) → Bool
  | [], _, _ => false
  | x :: t, ks, met => (o && decide (ks.headD [] ∈ met)) || x.dup || dupL o t ks.tail (ks.headD [] :: met)
end
def endK (o : Bool) : List UInt8 := if o then [125] else [93]
/-- a key and its mark ahead of an item -/
def keyP (o : Bool) (r : List KT) : Option (List UInt8 × List KT) :=
  if o then match r with
    | (4, key) :: (1, [58]) :: r2 => some (key, r2)
    | _ => none
  else some ([], r)
mutual
/-- the value whose words stand ahead, and what stands behind -/
def valP : Nat → List KT → Option (JV × List KT)
  | 0, _ => none
  | _ + 1, [] => none
  | n + 1, (k, x) :: r =>
    if k = 2 then (if x = wNull then some (jn 0, r) else if x = wFalse then some (jn 1, r) else if x = wTrue then some (jn 2, r) else none)
    else if k = 3 then some (.mk 3 x [] [], r)
    else if k = 4 then some (.mk 4 x [] [], r)
    else if k = 1 ∧ x = [91] then (if r.head? = some (1, [93]) then some (jn 5, r.tail) else itmP n false r [] [])
    else if k = 1 ∧ x = [123] then (if r.head? = some (1, [125]) then some (jn 6, r.tail) else itmP n true r [] [])
    else none
def itmP : Nat → Bool → List KT → List (List UInt8) → List JV → Option (JV × List KT)
  | 0, _, _, _, _ => none
  | n + 1, o, r, ks, it =>
    match keyP o r with
    | none => none
    | some (key, r2) =>
      match valP n r2 with
      | none => none
      | some (v, r3) =>
        if r3.head? = some (1, endK o) then some (.mk (if o then 6 else 5) [] (if o then ks ++ [key] else []) (it ++ [v]), r3.tail)
        else if r3.head? = some (1, [44]) then itmP n o r3.tail (ks ++ [key]) (it ++ [v])
        else none
end
/-- the greatest number of marks that are open -/
def openN : List KT → Nat → Nat → Nat
  | [], _, h => h
  | (k, x) :: r, n, h =>
    let m := if k = 1 ∧ (x = [91] ∨ x = [123]) then n + 1 else if k = 1 ∧ (x = [93] ∨ x = [125]) then n - 1 else n
    openN r m (max m h)
/-- a text's value, and why it has none -/
def parV (l : List UInt8) : JV × Nat :=
  if (toksL l).2.2 ≠ 0 then (jn 0, (toksL l).2.2)
  else if 64 < openN (kt (toksL l).1) 0 0 then (jn 0, 3)
  else match valP (2 * (toksL l).1.length + 1) (kt (toksL l).1) with
    | some (v, []) => if v.dup then (jn 0, 13) else (v, 0)
    | _ => (jn 0, 4)
def putV (v : JV) : List UInt8 × Nat := if v.chk = 0 then (v.text, 0) else ([], v.chk)
mutual
def eqV : JV → JV → Bool
  | .mk k s ks it, .mk k' s' ks' it' => decide (k = k') && decide (s = s') && decide (ks = ks') && eqL it it'
def eqL : List JV → List JV → Bool
  | [], [] => true
  | x :: t, y :: u => eqV x y && eqL t u
  | _, _ => false
end
mutual
theorem eqV_iff : ∀ (a b : JV), eqV a b = true ↔ a = b
  | .mk k s ks it, .mk k' s' ks' it' => by
    rw [eqV]
    have := eqL_iff it it'
    simp only [Bool.and_eq_true, decide_eq_true_eq, this, JV.mk.injEq, and_assoc]
theorem eqL_iff : ∀ (a b : List JV), eqL a b = true ↔ a = b
  | [], [] => by simp [eqL]
  | [], y :: u => by simp [eqL]
  | x :: t, [] => by simp [eqL]
  | x :: t, y :: u => by
    rw [eqL]
    have h1 := eqV_iff x y
    have h2 := eqL_iff t u
    simp only [Bool.and_eq_true, h1, h2, List.cons.injEq]
end
end Go.Proofs.Jt
