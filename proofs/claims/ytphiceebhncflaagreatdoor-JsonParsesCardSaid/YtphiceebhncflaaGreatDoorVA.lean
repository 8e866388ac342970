/- Merged texts: V1, V2, V3, V4, V5. -/
import Derived.Test.YtphiceebhncflaaGreatDoorJw2
/- V1: Values of JSON, plain: what they are, their texts and words, and what words say. No program in sight. -/
namespace Go.Proofs.Jt
open Go.Lib Go.Proofs.Utf

inductive JV where
  | mk (kind : Int) (str : List UInt8) (keys : List (List UInt8)) (items : List JV)
namespace JV
def kind : JV → Int | .mk k _ _ _ => k
def str : JV → List UInt8 | .mk _ s _ _ => s
def keys : JV → List (List UInt8) | .mk _ _ ks _ => ks
def items : JV → List JV | .mk _ _ _ it => it
end JV
def jn (k : Int) : JV := .mk k [] [] []
def keysW : List (List UInt8) → Nat
  | [] => 0
  | k :: t => 1 + k.length + keysW t
mutual
/-- how many values, keys and bytes -/
def JV.wt : JV → Nat | .mk _ s ks it => 1 + s.length + keysW ks + wtL it
def wtL : List JV → Nat
  | [] => 0
  | x :: t => x.wt + wtL t
end
mutual
def JV.dep : JV → Nat | .mk k _ _ it => if k = 5 ∨ k = 6 then depL it + 1 else 0
def depL : List JV → Nat
  | [] => 0
  | x :: t => max x.dep (depL t)
end
/-- is a text a number? -/
def numB (s : List UInt8) : Bool := decide (nextL s = some (3, s, s.length))
def JV.shaped : JV → Bool
  | .mk k s ks it =>
    if k = 0 ∨ k = 1 ∨ k = 2 then decide (s = []) && ks.isEmpty && it.isEmpty
    else if k = 3 then ks.isEmpty && it.isEmpty && numB s
    else if k = 4 then ks.isEmpty && it.isEmpty
    else if k = 5 then decide (s = []) && ks.isEmpty
    else if k = 6 then decide (s = []) && ks.length == it.length
    else false
mutual
/-- what is found in a value -/
def JV.fnd : JV → Nat
  | .mk k s ks it => if (JV.mk k s ks it).shaped = false then 4 else if k = 4 ∧ validD s = false then 8 else fndL (decide (k = 6)) it ks []
def fndL (o : Bool) : List JV → List (List UInt8) → List (List UInt8) → Nat
  | [], _, _ => 0
  | x :: t, ks, met =>
    if o = true ∧ validD (ks.headD []) = false then 8
    else if o = true ∧ ks.headD [] ∈ met then 13
    else if x.fnd = 0 then fndL o t ks.tail (ks.headD [] :: met) else x.fnd
end
def JV.chk (v : JV) : Nat := if 64 < v.dep then 3 else v.fnd
mutual
def JV.text : JV → List UInt8
  | .mk k s ks it =>
    if k = 0 then wNull else if k = 1 then wFalse else if k = 2 then wTrue else if k = 3 then s else if k = 4 then quoteL s
    else if k = 6 then 123 :: (txtL true it ks true ++ [125]) else 91 :: (txtL false it ks true ++ [93])
def txtL (o : Bool) : List JV → List (List UInt8) → Bool → List UInt8
  | [], _, _ => []
  | x :: t, ks, first => (if first then [] else [44]) ++ ((if o then quoteL (ks.headD []) ++ [58] else []) ++ (x.text ++ txtL o t ks.tail false))
end
abbrev KT := Nat × List UInt8
mutual
/-- a value's words -/
def JV.kts : JV → List KT
  | .mk k s ks it =>
    if k = 0 then [(2, wNull)] else if k = 1 then [(2, wFalse)] else if k = 2 then [(2, wTrue)] else if k = 3 then [(3, s)] else if k = 4 then [(4, s)]
    else if k = 6 then (1, [123]) :: (ktL true it ks true ++ [(1, [125])]) else (1, [91]) :: (ktL false it ks true ++ [(1, [93])])
def ktL (o : Bool) : List JV → List (List UInt8) → Bool → List KT
  | [], _, _ => []
  | x :: t, ks, first => (if first then [] else [(1, [44])]) ++ ((if o then [(4, ks.headD []), (1, [58])] else []) ++ (x.kts ++ ktL o t ks.tail false))
end
mutual
/-- does a key stand twice in an object? -/
def JV.dup : JV → Bool | .mk k _ ks it => dupL (decide (k = 6)) it ks []
def dupL (o : Bool) : List JV → List (List UInt8) → List (List UInt8) → Bool
  | [], _, _ => false
  | x :: t, ks, met => (o && decide (ks.headD [] ∈ met)) || x.dup || dupL o t ks.tail (ks.headD [] :: met)
end
def endK (o : Bool) : List UInt8 := if o then [125] else [93]
/-- a key and its mark ahead of an item -/
def keyP (o : Bool) (r : List KT) : Option (List UInt8 × List KT) :=
  if o then match r with
    | (4, key) :: (1, [58]) :: r2 => some (key, r2)
    | _ => none
  else some ([], r)
mutual
/-- the value whose words stand ahead, and what stands behind -/
def valP : Nat → List KT → Option (JV × List KT)
  | 0, _ => none
  | _ + 1, [] => none
  | n + 1, (k, x) :: r =>
    if k = 2 then (if x = wNull then some (jn 0, r) else if x = wFalse then some (jn 1, r) else if x = wTrue then some (jn 2, r) else none)
    else if k = 3 then some (.mk 3 x [] [], r)
    else if k = 4 then some (.mk 4 x [] [], r)
    else if k = 1 ∧ x = [91] then (if r.head? = some (1, [93]) then some (jn 5, r.tail) else itmP n false r [] [])
    else if k = 1 ∧ x = [123] then (if r.head? = some (1, [125]) then some (jn 6, r.tail) else itmP n true r [] [])
    else none
def itmP : Nat → Bool → List KT → List (List UInt8) → List JV → Option (JV × List KT)
  | 0, _, _, _, _ => none
  | n + 1, o, r, ks, it =>
    match keyP o r with
    | none => none
    | some (key, r2) =>
      match valP n r2 with
      | none => none
      | some (v, r3) =>
        if r3.head? = some (1, endK o) then some (.mk (if o then 6 else 5) [] (if o then ks ++ [key] else []) (it ++ [v]), r3.tail)
        else if r3.head? = some (1, [44]) then itmP n o r3.tail (ks ++ [key]) (it ++ [v])
        else none
end
/-- the greatest number of marks that are open -/
def openN : List KT → Nat → Nat → Nat
  | [], _, h => h
  | (k, x) :: r, n, h =>
    let m := if k = 1 ∧ (x = [91] ∨ x = [123]) then n + 1 else if k = 1 ∧ (x = [93] ∨ x = [125]) then n - 1 else n
    openN r m (max m h)
/-- a text's value, and why it has none -/
def parV (l : List UInt8) : JV × Nat :=
  if (toksL l).2.2 ≠ 0 then (jn 0, (toksL l).2.2)
  else if 64 < openN (kt (toksL l).1) 0 0 then (jn 0, 3)
  else match valP (2 * (toksL l).1.length + 1) (kt (toksL l).1) with
    | some (v, []) => if v.dup then (jn 0, 13) else (v, 0)
    | _ => (jn 0, 4)
def putV (v : JV) : List UInt8 × Nat := if v.chk = 0 then (v.text, 0) else ([], v.chk)
mutual
def eqV : JV → JV → Bool
  | .mk k s ks it, .mk k' s' ks' it' => decide (k = k') && decide (s = s') && decide (ks = ks') && eqL it it'
def eqL : List JV → List JV → Bool
  | [], [] => true
  | x :: t, y :: u => eqV x y && eqL t u
  | _, _ => false
end
mutual
theorem eqV_iff : ∀ (a b : JV), eqV a b = true ↔ a = b
  | .mk k s ks it, .mk k' s' ks' it' => by
    rw [eqV]
    have := eqL_iff it it'
    simp only [Bool.and_eq_true, decide_eq_true_eq, this, JV.mk.injEq, and_assoc]
theorem eqL_iff : ∀ (a b : List JV), eqL a b = true ↔ a = b
  | [], [] => by simp [eqL]
  | [], y :: u => by simp [eqL]
  | x :: t, [] => by simp [eqL]
  | x :: t, y :: u => by
    rw [eqL]
    have h1 := eqV_iff x y
    have h2 := eqL_iff t u
    simp only [Bool.and_eq_true, h1, h2, List.cons.injEq]
end
end Go.Proofs.Jt
/- V2: Values of JSON, plain: a value's words say the value; what words say. No program in sight. -/
namespace Go.Proofs.Jt
open Go.Lib Go.Proofs.Utf

theorem fnd_zero {k : Int} {s : List UInt8} {ks : List (List UInt8)} {it : List JV} (h : (JV.mk k s ks it).fnd = 0) : (JV.mk k s ks it).shaped = true ∧ (k = 4 → validD s = true) ∧ fndL (decide (k = 6)) it ks [] = 0 := by
  rw [JV.fnd] at h
  split at h
  · cases h
  · rename_i h1
    split at h
    · cases h
    · rename_i h2
      refine ⟨by simpa using h1, fun hk => ?_, h⟩
      cases hv : validD s with
      | true => rfl
      | false => exact absurd ⟨hk, hv⟩ h2
theorem fndL_cons {o : Bool} {x : JV} {t : List JV} {ks met : List (List UInt8)} (h : fndL o (x :: t) ks met = 0) : (o = true → validD (ks.headD []) = true ∧ ks.headD [] ∉ met) ∧ x.fnd = 0 ∧ fndL o t ks.tail (ks.headD [] :: met) = 0 := by
  rw [fndL] at h
  split at h
  · cases h
  · rename_i h1
    split at h
    · cases h
    · rename_i h2
      split at h
      · rename_i h3
        refine ⟨fun ho => ⟨?_, fun hm => h2 ⟨ho, hm⟩⟩, h3, h⟩
        cases hv : validD (ks.headD []) with
        | true => rfl
        | false => exact absurd ⟨ho, hv⟩ h1
      · rename_i h3
        exact absurd h h3
/-- which shapes there are -/
theorem shaped_cases {k : Int} {s : List UInt8} {ks : List (List UInt8)} {it : List JV} (h : (JV.mk k s ks it).shaped = true) :
    ((k = 0 ∨ k = 1 ∨ k = 2) ∧ s = [] ∧ ks = [] ∧ it = []) ∨ (k = 3 ∧ ks = [] ∧ it = [] ∧ numB s = true) ∨ (k = 4 ∧ ks = [] ∧ it = []) ∨ (k = 5 ∧ s = [] ∧ ks = []) ∨ (k = 6 ∧ s = [] ∧ ks.length = it.length) := by
  rw [JV.shaped] at h
  split at h
  · rename_i h1
    simp at h
    exact .inl ⟨h1, h.1.1, h.1.2, h.2⟩
  · split at h
    · rename_i h1
      simp at h
      exact .inr (.inl ⟨h1, h.1.1, h.1.2, h.2⟩)
    · split at h
      · rename_i h1
        simp at h
        exact .inr (.inr (.inl ⟨h1, h.1, h.2⟩))
      · split at h
        · rename_i h1
          simp at h
          exact .inr (.inr (.inr (.inl ⟨h1, h.1, h.2⟩)))
        · split at h
          · rename_i h1
            simp at h
            exact .inr (.inr (.inr (.inr ⟨h1, h.1, h.2⟩)))
          · cases h
theorem ktL_false (o : Bool) (y : JV) (u : List JV) (ks : List (List UInt8)) : ktL o (y :: u) ks false = (1, [44]) :: ktL o (y :: u) ks true := by
  simp [ktL]
theorem ktL_true (o : Bool) (x : JV) (t : List JV) (ks : List (List UInt8)) : ktL o (x :: t) ks true = (if o then [(4, ks.headD []), (1, [58])] else []) ++ (x.kts ++ ktL o t ks.tail false) := by
  simp [ktL]
theorem kts_ne (v : JV) : 1 ≤ v.kts.length := by
  cases v
  rw [JV.kts]
  repeat' split
  all_goals simp
theorem kts_head (v : JV) (o : Bool) (r : List KT) : (v.kts ++ r).head? ≠ some (1, endK o) := by
  cases v
  rw [JV.kts]
  unfold endK
  repeat' split
  all_goals simp
theorem ktL_head (o : Bool) (x : JV) (t : List JV) (ks : List (List UInt8)) (r : List KT) : (ktL o (x :: t) ks true ++ r).head? ≠ some (1, endK o) := by
  rw [ktL_true]
  cases o with
  | true => simp
  | false =>
    have := kts_head x false (ktL false t ks.tail false ++ r)
    simpa using this
mutual
/-- a value's words say the value -/
theorem val_kts : ∀ (v : JV), v.fnd = 0 → ∀ (n : Nat) (r : List KT), 2 * v.kts.length + 1 ≤ n → valP n (v.kts ++ r) = some (v, r)
  | .mk k s ks it, h, n, r, hn => by
    obtain ⟨n, rfl⟩ : ∃ m, n = m + 1 := ⟨n - 1, by omega⟩
    obtain ⟨hs, _, hL⟩ := fnd_zero h
    rcases shaped_cases hs with ⟨hk, rfl, rfl, rfl⟩ | ⟨rfl, rfl, rfl, _⟩ | ⟨rfl, rfl, rfl⟩ | ⟨rfl, rfl, rfl⟩ | ⟨rfl, rfl, hl⟩
    · rcases hk with rfl | rfl | rfl <;> simp [JV.kts, valP, jn, wNull, wFalse, wTrue]
    · simp [JV.kts, valP]
    · simp [JV.kts, valP]
    · have ht := itm_kts false it [] hL rfl
      cases it with
      | nil => simp [JV.kts, ktL, valP, jn]
      | cons x t =>
        have hd := ktL_head false x t [] ((1, [93]) :: r)
        have hlen : 2 * (ktL false (x :: t) [] true).length + 4 ≤ n := by
          rw [JV.kts] at hn
          simp at hn
          omega
        have := ht (by simp) n r [] [] (by omega)
        simp only [endK] at hd this
        simp only [JV.kts, valP]
        simp
        rw [if_neg (by simpa using hd)]
        simpa using this
    · have ht := itm_kts true it ks hL hl
      cases it with
      | nil =>
        obtain rfl : ks = [] := List.length_eq_zero_iff.1 hl
        simp [JV.kts, ktL, valP, jn]
      | cons x t =>
        have hd := ktL_head true x t ks ((1, [125]) :: r)
        have hlen : 2 * (ktL true (x :: t) ks true).length + 4 ≤ n := by
          rw [JV.kts] at hn
          simp at hn
          omega
        have := ht (by simp) n r [] [] (by omega)
        simp only [endK] at hd this
        simp only [JV.kts, valP]
        simp
        rw [if_neg (by simpa using hd)]
        simpa using this
theorem itm_kts (o : Bool) : ∀ (it : List JV) (ks : List (List UInt8)) {met : List (List UInt8)}, fndL o it ks met = 0 → ks.length = (if o then it.length else 0) → it ≠ [] → ∀ (n : Nat) (r : List KT) (ks0 : List (List UInt8)) (it0 : List JV), 2 * (ktL o it ks true).length + 4 ≤ n →
    itmP n o (ktL o it ks true ++ (1, endK o) :: r) ks0 it0 = some (.mk (if o then 6 else 5) [] (if o then ks0 ++ ks else []) (it0 ++ it), r)
  | [], _, _, _, _, h, _, _, _, _, _ => absurd rfl h
  | x :: t, ks, met, hf, hl, _, n, r, ks0, it0, hn => by
    obtain ⟨n, rfl⟩ : ∃ m, n = m + 1 := ⟨n - 1, by omega⟩
    obtain ⟨_, hx, ht⟩ := fndL_cons hf
    have hv := val_kts x hx
    have hi := itm_kts o t ks.tail ht (by cases o <;> simp_all)
    rw [ktL_true] at hn ⊢
    have hkey : keyP o ((if o = true then [(4, ks.headD []), (1, [58])] else []) ++ (x.kts ++ ktL o t ks.tail false) ++ (1, endK o) :: r) = some (if o then ks.headD [] else [], x.kts ++ (ktL o t ks.tail false ++ (1, endK o) :: r)) := by
      cases o <;> simp [keyP]
    rw [itmP, hkey]
    simp only
    rw [hv n _ (by simp only [List.length_append] at hn; omega)]
    simp only
    cases t with
    | nil =>
      simp only [ktL, List.nil_append, List.head?_cons, if_true, List.tail_cons]
      cases o with
      | false => simp
      | true =>
        match ks, hl with
        | [k], _ => simp
    | cons y u =>
      have he : (endK o ≠ [44]) := by unfold endK; split <;> simp
      rw [ktL_false]
      simp only [List.cons_append, List.head?_cons, Option.some.injEq, Prod.mk.injEq, true_and, List.tail_cons]
      rw [if_neg (fun e => he e.symm), if_true]
      rw [hi (by simp) n r _ _ (by rw [ktL_false] at hn; simp only [List.length_append, List.length_cons] at hn ⊢; omega)]
      cases o with
      | false => simp
      | true =>
        match ks, hl with
        | k :: ks, _ => simp
end
end Go.Proofs.Jt
/- V3: Values of JSON, plain: what words say may be, but for keys that stand twice; how deep it is. No program in sight. -/
namespace Go.Proofs.Jt
open Go.Lib Go.Proofs.Utf

mutual
/-- a value that may be, but for keys that stand twice -/
def JV.ok : JV → Bool | .mk k s ks it => (JV.mk k s ks it).shaped && (decide (k ≠ 4) || validD s) && (decide (k ≠ 6) || ks.all validD) && okL it
def okL : List JV → Bool
  | [] => true
  | x :: t => x.ok && okL t
end
theorem okL_append (a b : List JV) : okL (a ++ b) = (okL a && okL b) := by
  induction a with
  | nil => simp [okL]
  | cons x t ih => simp [okL, ih, Bool.and_assoc]
theorem ok_parts {k : Int} {s : List UInt8} {ks : List (List UInt8)} {it : List JV} (h : (JV.mk k s ks it).ok = true) : (JV.mk k s ks it).shaped = true ∧ (k = 4 → validD s = true) ∧ (k = 6 → ∀ x ∈ ks, validD x = true) ∧ okL it = true := by
  rw [JV.ok] at h
  simp only [Bool.and_eq_true, Bool.or_eq_true, decide_eq_true_eq, List.all_eq_true] at h
  obtain ⟨⟨⟨h1, h2⟩, h3⟩, h4⟩ := h
  exact ⟨h1, fun e => h2.resolve_left (fun g => g e), fun e => h3.resolve_left (fun g => g e), h4⟩
mutual
theorem ok_fnd : ∀ (v : JV), v.ok = true → v.fnd = if v.dup then 13 else 0
  | .mk k s ks it, h => by
    obtain ⟨h1, h2, h3, h4⟩ := ok_parts h
    rw [JV.fnd, JV.dup, h1, if_neg (by simp), if_neg (fun e => by rw [h2 e.1] at e; cases e.2)]
    by_cases hk : k = 6
    · have hl : it.length ≤ ks.length := by
        rcases shaped_cases h1 with ⟨e, _⟩ | ⟨e, _⟩ | ⟨e, _⟩ | ⟨e, _⟩ | ⟨_, _, e⟩
        all_goals omega
      exact ok_fndL _ it ks [] h4 (fun _ => ⟨hl, h3 hk⟩)
    · exact ok_fndL _ it ks [] h4 (fun e => absurd (of_decide_eq_true e) hk)
theorem ok_fndL (o : Bool) : ∀ (it : List JV) (ks met : List (List UInt8)), okL it = true → (o = true → it.length ≤ ks.length ∧ ∀ x ∈ ks, validD x = true) → fndL o it ks met = if dupL o it ks met then 13 else 0
  | [], _, _, _, _ => by simp [fndL, dupL]
  | x :: t, ks, met, h, hk => by
    rw [okL, Bool.and_eq_true] at h
    have h1 := ok_fnd x h.1
    have h2 := ok_fndL o t ks.tail (ks.headD [] :: met) h.2 (fun e => by
      have := hk e
      refine ⟨by simp at this ⊢; omega, fun y hy => this.2 y (List.mem_of_mem_tail hy)⟩)
    have h3 : o = true → validD (ks.headD []) = true := fun e => by
      have := hk e
      cases ks with
      | nil => simp at this
      | cons k r => exact this.2 k List.mem_cons_self
    rw [fndL, dupL, if_neg (fun e => by rw [h3 e.1] at e; cases e.2), h1, h2]
    cases o with
    | false => cases x.dup <;> simp
    | true =>
      clear h1 h2 h3 hk
      generalize ks.headD [] = key
      by_cases hm : key ∈ met
      · simp [hm]
      · simp [hm]
        cases x.dup <;> simp
end
/-- words that are what they must be -/
def goodK (l : List KT) : Prop := ∀ x ∈ l, (x.1 = 3 → numB x.2 = true) ∧ (x.1 = 4 → validD x.2 = true)
theorem goodK.tail {l : List KT} (h : goodK l) : goodK l.tail := fun x hx => h x (List.mem_of_mem_tail hx)
theorem keyP_some {o : Bool} {r r2 : List KT} {key : List UInt8} (h : keyP o r = some (key, r2)) : (o = true ∧ r = (4, key) :: (1, [58]) :: r2) ∨ (o = false ∧ key = [] ∧ r2 = r) := by
  unfold keyP at h
  split at h
  · rename_i ho
    split at h
    · cases h
      exact .inl ⟨ho, rfl⟩
    · cases h
  · rename_i ho
    cases h
    exact .inr ⟨by simpa using ho, rfl, rfl⟩
theorem valP_cons (n : Nat) (k : Nat) (x : List UInt8) (r : List KT) : valP (n + 1) ((k, x) :: r) =
    if k = 2 then (if x = wNull then some (jn 0, r) else if x = wFalse then some (jn 1, r) else if x = wTrue then some (jn 2, r) else none)
    else if k = 3 then some (.mk 3 x [] [], r)
    else if k = 4 then some (.mk 4 x [] [], r)
    else if k = 1 ∧ x = [91] then (if r.head? = some (1, [93]) then some (jn 5, r.tail) else itmP n false r [] [])
    else if k = 1 ∧ x = [123] then (if r.head? = some (1, [125]) then some (jn 6, r.tail) else itmP n true r [] [])
    else none := by rw [valP]
theorem jn_ok (k : Int) (h : k = 0 ∨ k = 1 ∨ k = 2 ∨ k = 5 ∨ k = 6) : (jn k).ok = true := by
  rcases h with rfl | rfl | rfl | rfl | rfl <;> rfl
theorem val_ok : ∀ n : Nat, (∀ (l : List KT) (v : JV) (r : List KT), goodK l → valP n l = some (v, r) → v.ok = true ∧ ∃ a, l = a ++ r) ∧
    (∀ (o : Bool) (l : List KT) (ks : List (List UInt8)) (it : List JV) (v : JV) (r : List KT), goodK l → okL it = true → (o = true → ks.length = it.length ∧ ∀ x ∈ ks, validD x = true) → itmP n o l ks it = some (v, r) → v.ok = true ∧ ∃ a, l = a ++ r)
  | 0 => ⟨fun l v r _ h => (by rw [valP] at h; cases h), fun o l ks it v r _ _ _ h => by rw [itmP] at h; cases h⟩
  | n + 1 => by
    obtain ⟨ih1, ih2⟩ := val_ok n
    refine ⟨fun l v r hg h => ?_, fun o l ks it v r hg hit hks h => ?_⟩
    · cases l with
      | nil => rw [valP] at h; cases h
      | cons t l =>
        obtain ⟨k, x⟩ := t
        have hx := hg (k, x) List.mem_cons_self
        have hgl : goodK l := hg.tail
        rw [valP_cons] at h
        split at h
        · split at h
          · cases h; exact ⟨rfl, [_], rfl⟩
          · split at h
            · cases h; exact ⟨rfl, [_], rfl⟩
            · split at h
              · cases h; exact ⟨rfl, [_], rfl⟩
              · cases h
        · split at h
          · rename_i hk
            cases h
            refine ⟨?_, [_], rfl⟩
            simp [JV.ok, JV.shaped, okL, hx.1 hk]
          · split at h
            · rename_i hk
              cases h
              refine ⟨?_, [_], rfl⟩
              simp [JV.ok, JV.shaped, okL, hx.2 hk]
            · have hend : ∀ (e : List UInt8) (w : JV) (m : Bool), w.ok = true → (if l.head? = some (1, e) then some (w, l.tail) else itmP n m l [] []) = some (v, r) → v.ok = true ∧ ∃ a, (k, x) :: l = a ++ r := fun e w m hw h => by
                split at h
                · rename_i hh
                  cases h
                  cases l with
                  | nil => cases hh
                  | cons y l => exact ⟨hw, [_, y], rfl⟩
                · obtain ⟨h1, a, h2⟩ := ih2 m l [] [] v r hgl rfl (fun _ => ⟨rfl, fun x hx => by cases hx⟩) h
                  exact ⟨h1, (k, x) :: a, by rw [h2]; rfl⟩
              split at h
              · exact hend _ _ _ rfl h
              · split at h
                · exact hend _ _ _ rfl h
                · cases h
    · rw [itmP] at h
      split at h
      · cases h
      · rename_i key r2 hkey
        have hl2 : ∃ b, l = b ++ r2 ∧ (o = true → validD key = true) := by
          rcases keyP_some hkey with ⟨_, e⟩ | ⟨ho, _, e⟩
          · refine ⟨[_, _], e, fun _ => ?_⟩
            have := hg (4, key) (by rw [e]; exact List.mem_cons_self)
            exact this.2 rfl
          · exact ⟨[], by rw [e]; rfl, fun h => by rw [ho] at h; cases h⟩
        obtain ⟨b, hb, hvk⟩ := hl2
        have hg2 : goodK r2 := fun y hy => hg y (by rw [hb]; exact List.mem_append_right _ hy)
        split at h
        · cases h
        · rename_i w r3 hv
          obtain ⟨h1, c, hc⟩ := ih1 r2 w r3 hg2 hv
          have hg3 : goodK r3 := fun y hy => hg2 y (by rw [hc]; exact List.mem_append_right _ hy)
          have hit2 : okL (it ++ [w]) = true := by rw [okL_append, hit]; simp [okL, h1]
          have hks2 : o = true → (ks ++ [key]).length = (it ++ [w]).length ∧ ∀ x ∈ ks ++ [key], validD x = true := fun ho => by
            have := hks ho
            refine ⟨by simp [this.1], fun y hy => ?_⟩
            rcases List.mem_append.1 hy with hy | hy
            · exact this.2 y hy
            · rw [List.mem_singleton.1 hy]; exact hvk ho
          split at h
          · rename_i hh
            cases h
            cases r3 with
            | nil => cases hh
            | cons y r3 =>
              refine ⟨?_, b ++ (c ++ [y]), by rw [hb, hc]; simp⟩
              cases o with
              | false => simp [JV.ok, JV.shaped, hit2]
              | true =>
                have := hks2 rfl
                simp only [JV.ok, JV.shaped, hit2]
                simp [this.1]
                have h4 := (hks rfl)
                exact ⟨fun y hy => h4.2 y hy, hvk rfl⟩
          · split at h
            · rename_i hh
              cases r3 with
              | nil => cases hh
              | cons y r3 =>
                obtain ⟨h5, d, hd⟩ := ih2 o r3 _ _ v r hg3.tail hit2 hks2 h
                exact ⟨h5, b ++ (c ++ (y :: d)), by rw [hb, hc, hd]; simp⟩
            · cases h
/-- how deep what words say is -/
theorem openN_cons (k : Nat) (x : List UInt8) (r : List KT) (n h : Nat) : openN ((k, x) :: r) n h = openN r (if k = 1 ∧ (x = [91] ∨ x = [123]) then n + 1 else if k = 1 ∧ (x = [93] ∨ x = [125]) then n - 1 else n) (max (if k = 1 ∧ (x = [91] ∨ x = [123]) then n + 1 else if k = 1 ∧ (x = [93] ∨ x = [125]) then n - 1 else n) h) := rfl
theorem depL_snoc (a : List JV) (w : JV) : depL (a ++ [w]) = max (depL a) w.dep := by
  induction a with
  | nil => simp [depL]
  | cons x t ih => simp only [List.cons_append, depL, ih]; omega
theorem openN_le : ∀ (l : List KT) (n h : Nat), h ≤ openN l n h
  | [], _, _ => Nat.le_refl _
  | (k, x) :: r, n, h => by
    rw [openN_cons]
    exact Nat.le_trans (Nat.le_max_right _ _) (openN_le r _ _)
/-- an object or an array is deeper than its items -/
theorem itm_dep2 : ∀ (n : Nat) (o : Bool) (l : List KT) (ks : List (List UInt8)) (it : List JV) (v : JV) (r : List KT), itmP n o l ks it = some (v, r) → depL it + 1 ≤ v.dep
  | 0, o, l, ks, it, v, r, h => by rw [itmP] at h; cases h
  | n + 1, o, l, ks, it, v, r, h => by
    rw [itmP] at h
    split at h
    · cases h
    · split at h
      · cases h
      · rename_i w r3 hv
        split at h
        · cases h
          cases o <;> simp [JV.dep, depL_snoc] <;> omega
        · split at h
          · have := itm_dep2 n _ _ _ _ _ _ h
            rw [depL_snoc] at this
            omega
          · cases h
theorem itm_dep (n : Nat) (o : Bool) (l : List KT) (ks : List (List UInt8)) (it : List JV) (v : JV) (r : List KT) (h : itmP n o l ks it = some (v, r)) (h0 : v.dep = 0) : False := by
  have := itm_dep2 n o l ks it v r h
  omega
theorem val_open : ∀ n : Nat, (∀ (l : List KT) (v : JV) (r : List KT), valP n l = some (v, r) → ∀ m h : Nat, m ≤ h → openN l m h = openN r m (max h (m + v.dep))) ∧
    (∀ (o : Bool) (l : List KT) (ks : List (List UInt8)) (it : List JV) (v : JV) (r : List KT), itmP n o l ks it = some (v, r) → ∀ m h : Nat, m + depL it + 1 ≤ h → openN l (m + 1) h = openN r m (max h (m + v.dep)))
  | 0 => ⟨fun l v r h => (by rw [valP] at h; cases h), fun o l ks it v r h => by rw [itmP] at h; cases h⟩
  | n + 1 => by
    obtain ⟨ih1, ih2⟩ := val_open n
    refine ⟨fun l v r h m hi hm => ?_, fun o l ks it v r h m hi hm => ?_⟩
    · cases l with
      | nil => rw [valP] at h; cases h
      | cons t l =>
        obtain ⟨k, x⟩ := t
        rw [valP_cons] at h
        rw [openN_cons]
        split at h
        · rename_i hk
          rw [if_neg (by omega), if_neg (by omega)]
          split at h
          · cases h; simp [jn, JV.dep]; congr 1; omega
          · split at h
            · cases h; simp [jn, JV.dep]; congr 1; omega
            · split at h
              · cases h; simp [jn, JV.dep]; congr 1; omega
              · cases h
        · split at h
          · rename_i hk
            rw [if_neg (by omega), if_neg (by omega)]
            cases h; simp [JV.dep]; congr 1; omega
          · split at h
            · rename_i hk
              rw [if_neg (by omega), if_neg (by omega)]
              cases h; simp [JV.dep]; congr 1; omega
            · have hend : ∀ (e : List UInt8) (w : JV) (b : Bool), w.dep = 1 → (e = [93] ∨ e = [125]) → (if l.head? = some (1, e) then some (w, l.tail) else itmP n b l [] []) = some (v, r) → openN l (m + 1) (max (m + 1) hi) = openN r m (max hi (m + v.dep)) := fun e w b hw he h => by
                split at h
                · rename_i hh
                  cases h
                  cases l with
                  | nil => cases hh
                  | cons y l =>
                    obtain rfl := Option.some.inj hh
                    rw [openN_cons, if_neg (by rcases he with rfl | rfl <;> simp), if_pos ⟨rfl, he⟩, hw]
                    simp only [Nat.add_sub_cancel, List.tail_cons]
                    congr 1
                    omega
                · rw [ih2 b l [] [] v r h m _ (by simp only [depL]; omega)]
                  cases v with
                  | mk k s ks it =>
                    congr 1
                    have : 1 ≤ (JV.mk k s ks it).dep ∨ (JV.mk k s ks it).dep = 0 := by omega
                    rcases this with h1 | h1
                    · omega
                    · exfalso
                      exact itm_dep n b l [] [] _ r h h1
              split at h
              · rename_i hk
                rw [if_pos ⟨hk.1, .inl hk.2⟩]
                exact hend _ _ _ rfl (.inl rfl) h
              · split at h
                · rename_i hk
                  rw [if_pos ⟨hk.1, .inr hk.2⟩]
                  exact hend _ _ _ rfl (.inr rfl) h
                · cases h
    · rw [itmP] at h
      split at h
      · cases h
      · rename_i key r2 hkey
        have hl2 : openN l (m + 1) hi = openN r2 (m + 1) hi := by
          rcases keyP_some hkey with ⟨_, e⟩ | ⟨ho, _, e⟩
          · rw [e, openN_cons, openN_cons]
            simp
            congr 1
            omega
          · rw [e]
        rw [hl2]
        split at h
        · cases h
        · rename_i w r3 hv
          rw [ih1 r2 w r3 hv (m + 1) hi (by omega)]
          split at h
          · rename_i hh
            cases h
            cases r3 with
            | nil => cases hh
            | cons y r3 =>
              obtain rfl := Option.some.inj hh
              rw [openN_cons, if_neg (by unfold endK; split <;> simp), if_pos ⟨rfl, by unfold endK; split <;> simp⟩]
              simp only [Nat.add_sub_cancel, List.tail_cons]
              congr 1
              cases o <;> simp [JV.dep, depL_snoc] <;> omega
          · split at h
            · rename_i hh
              cases r3 with
              | nil => cases hh
              | cons y r3 =>
                obtain rfl := Option.some.inj hh
                rw [openN_cons, if_neg (by simp), if_neg (by simp)]
                rw [List.tail_cons] at h
                have h9 := ih2 o r3 _ _ v r h m (max (m + 1) (max hi (m + 1 + w.dep))) (by rw [depL_snoc]; omega)
                rw [h9]
                have h10 := itm_dep2 n o r3 _ _ v r h
                rw [depL_snoc] at h10
                congr 1
                omega
            · cases h
end Go.Proofs.Jt
/- V4: Values of JSON, plain: a value's text has the value's words; words of a text are what they must be. No program in sight. -/
namespace Go.Proofs.Jt
open Go.Lib Go.Proofs.Utf

theorem next_blank (c : UInt8) (t : List UInt8) (h : isBlankB c = true) : nextL (c :: t) = none := by
  have key : ∀ c : UInt8, isBlankB c = true → isMarkB c = false ∧ c ≠ 34 ∧ isLow c = false ∧ isDig c = false ∧ c ≠ 45 := forall_u8 (by decide +kernel)
  obtain ⟨h1, h2, h3, h4, h5⟩ := key c h
  rw [nextL_cons, h1, if_neg (by simp), if_neg h2, word_first c t h3, num_first c t h4 h5]
  rfl
theorem agree_take (l : List UInt8) (m : Nat) : Agree l (l.take m) m := fun j hj => by rw [List.getElem?_take_of_lt hj]
theorem agree_app (s l : List UInt8) : Agree s (s ++ l) s.length := fun j hj => by rw [List.getElem?_append_left hj]
/-- what a valid text's strings say is valid -/
theorem valid_qtext : ∀ (k : Nat) (l : List UInt8), l.length ≤ k → validD l = true → ∀ r, qq l = some r → validD r.1 = true
  | _, [], _, _, r, h => by rw [qq_nil] at h; cases h
  | 0, c :: t, hk, _, r, h => by simp at hk
  | k + 1, c :: t, hk, hv, r, h => by
    simp only [List.length_cons] at hk
    obtain ⟨hp, hv2⟩ := valid_step (c :: t) (by simp) hv
    obtain ⟨e1, e2, e3⟩ := dec_point_bytes (c :: t) (by simp) hp
    unfold headW at hv2
    have f34 := dec_first c t 34 (by omega)
    have f92 := dec_first c t 92 (by omega)
    by_cases h34 : (decodeL (c :: t)).1 = 34
    · obtain rfl : c = 34 := UInt8.toNat_inj.1 (f34.1 h34)
      rw [qq_end] at h
      cases h
      rfl
    by_cases h92 : (decodeL (c :: t)).1 = 92
    · obtain rfl : c = 92 := UInt8.toNat_inj.1 (f92.1 h92)
      rw [qq_esc] at h
      split at h
      · cases h
      · rename_i h0
        obtain ⟨q, hq, rfl⟩ := Option.map_eq_some_iff.1 h
        have hvt := valid_asc t _ (esc_ascii t).1 (valid_ascii 92 t (by decide) hv)
        have := valid_qtext k _ (by rw [List.length_drop]; omega) hvt q hq
        simp only
        rw [valid_append _ _ _ (Nat.le_refl _) (enc_valid _ ((esc_ascii t).2.1 h0))]
        exact this
    by_cases h32 : (decodeL (c :: t)).1 < 32
    · have hc : c.toNat < 32 := by
        by_cases hb : c.toNat < 128
        · rw [decodeL_ascii c t hb] at h32; exact h32
        · have := dec_high c t (by omega); omega
      rw [qq_ctl c t hc] at h
      cases h
    · rw [qq_point (c :: t) (by simp) hp h34 h32 h92] at h
      obtain ⟨q, hq, rfl⟩ := Option.map_eq_some_iff.1 h
      simp only [List.length_cons] at e2
      have := valid_qtext k _ (by rw [List.length_drop, List.length_cons]; omega) hv2 q hq
      simp only
      rw [valid_append _ _ _ (Nat.le_refl _) (by
        rw [e1]
        exact valid_take _ _ _ (Nat.le_refl _) (by simpa using e2) hv hv2)]
      exact this
theorem next_good {l : List UInt8} {k : Nat} {x : List UInt8} {m : Nat} (h : nextL l = some (k, x, m)) (hv : validD l = true) (hh : l[m]? ≠ some 46 ∧ l[m]? ≠ some 101 ∧ l[m]? ≠ some 69) : (k = 3 → numB x = true) ∧ (k = 4 → validD x = true) := by
  have hm := nextL_le l _ h
  simp only at hm
  refine ⟨fun hk => ?_, fun hk => ?_⟩
  · subst hk
    have hx := next_text l 3 x m h (by decide)
    subst hx
    unfold numB
    refine decide_eq_true ?_
    have hlen : (l.take m).length = m := by rw [List.length_take]; omega
    rw [hlen]
    refine next_same h (agree_take l m) ⟨fun c hc => ?_, hh⟩
    rw [List.getElem?_eq_none (by omega)] at hc
    cases hc
  · subst hk
    cases l with
    | nil => cases h
    | cons c t =>
      rw [nextL_cons] at h
      split at h
      · cases h
      · split at h
        · rename_i h34
          subst h34
          obtain ⟨q, hq, e⟩ := Option.map_eq_some_iff.1 h
          cases e
          exact valid_qtext _ t (Nat.le_refl _) (valid_ascii 34 t (by decide) hv) q hq
        · split at h
          · cases h
          · split at h
            · cases h
            · cases h
theorem Lx.good {l : List UInt8} {a : Nat} {T : List Tok} (h : Lx l a T) : validD l = true → goodK (kt T) := by
  induction h with
  | nil a => exact fun _ x hx => by cases hx
  | blank h _ ih => exact fun hv => ih (valid_ascii _ _ (blank_low _ h) hv)
  | @tok c t a T k x m h h1 h2 ih =>
    intro hv y hy
    have hm := nextL_le _ _ h1
    simp only at hm
    unfold kt at hy
    rw [List.map_cons, List.mem_cons] at hy
    rcases hy with rfl | hy
    · have hd := h2.head
      rw [List.getElem?_drop, Nat.add_zero] at hd
      exact next_good h1 hv hd
    · exact ih (valid_next _ hv _ h1) y hy
/-- a text of these words, wherever it stands -/
def LK (l : List UInt8) (K : List KT) : Prop := ∀ a, ∃ T, Lx l a T ∧ kt T = K
theorem LK.nil : LK [] [] := fun a => ⟨[], .nil a, rfl⟩
theorem LK.blanks {l : List UInt8} {K : List KT} (bs : List UInt8) (hb : ∀ b ∈ bs, isBlankB b = true) (h : LK l K) : LK (bs ++ l) K := fun a => by
  obtain ⟨T, h1, h2⟩ := h (a + bs.length)
  exact ⟨T, h1.blanks bs a hb, h2⟩
theorem LK.tok {l : List UInt8} {K : List KT} {s : List UInt8} {k : Nat} {x : List UInt8} (hn : nextL (s ++ l) = some (k, x, s.length)) (h : LK l K) : LK (s ++ l) ((k, x) :: K) := fun a => by
  obtain ⟨T, h1, h2⟩ := h (a + s.length)
  have hm := nextL_le _ _ hn
  cases s with
  | nil => simp at hm
  | cons c t =>
    have hb : isBlankB c = false := by
      cases hb : isBlankB c with
      | false => rfl
      | true => rw [List.cons_append, next_blank c _ hb] at hn; cases hn
    refine ⟨⟨k, x, a, a + (c :: t).length⟩ :: T, .tok hb hn ?_, ?_⟩
    · show Lx (List.drop (c :: t).length ((c :: t) ++ l)) _ T
      rw [List.drop_left]
      exact h1
    · unfold kt at h2 ⊢
      rw [List.map_cons, h2]
theorem LK.mark {l : List UInt8} {K : List KT} (c : UInt8) (hc : isMarkB c = true) (h : LK l K) : LK (c :: l) ((1, [c]) :: K) :=
  LK.tok (s := [c]) (by rw [List.singleton_append, nextL_cons, if_pos hc]; rfl) h
theorem LK.quote {l : List UInt8} {K : List KT} (s : List UInt8) (h : LK l K) : LK (quoteL s ++ l) ((4, s) :: K) :=
  LK.tok (s := quoteL s) (by
    unfold quoteL
    rw [List.cons_append, nextL_cons, if_neg (by decide), if_pos rfl, List.append_assoc, List.singleton_append, qq_back s l]
    simp) h
theorem LK.word {l : List UInt8} {K : List KT} {s : List UInt8} {k : Nat} {x : List UInt8} (hn : nextL s = some (k, x, s.length)) (h : LK l K) (hl : ∀ c, l[0]? = some c → softB c = true) : LK (s ++ l) ((k, x) :: K) :=
  LK.tok (next_same hn (agree_app s l) ⟨fun c hc => by
    rw [List.getElem?_append_right (Nat.le_refl _), Nat.sub_self] at hc
    exact .inr (hl c hc), by rw [List.getElem?_eq_none (Nat.le_refl _)]; simp⟩) h
theorem numB_next {s : List UInt8} (h : numB s = true) : nextL s = some (3, s, s.length) := of_decide_eq_true h
theorem endK_soft (o : Bool) (l : List UInt8) : ∀ c, (endK o ++ l)[0]? = some c → softB c = true := fun c h => by
  unfold endK at h
  split at h <;> (cases h; decide)
mutual
/-- a value's text has the value's words -/
theorem text_LK : ∀ (v : JV), v.fnd = 0 → ∀ (l : List UInt8) (K : List KT), LK l K → (∀ c, l[0]? = some c → softB c = true) → LK (v.text ++ l) (v.kts ++ K)
  | .mk k s ks it, h, l, K, hl, hs => by
    obtain ⟨hsh, _, hL⟩ := fnd_zero h
    rcases shaped_cases hsh with ⟨hk, rfl, rfl, rfl⟩ | ⟨rfl, rfl, rfl, hn⟩ | ⟨rfl, rfl, rfl⟩ | ⟨rfl, rfl, rfl⟩ | ⟨rfl, rfl, hlen⟩
    · rcases hk with rfl | rfl | rfl
      · simpa [JV.text, JV.kts] using LK.word (s := wNull) (k := 2) (x := wNull) (by decide) hl hs
      · simpa [JV.text, JV.kts] using LK.word (s := wFalse) (k := 2) (x := wFalse) (by decide) hl hs
      · simpa [JV.text, JV.kts] using LK.word (s := wTrue) (k := 2) (x := wTrue) (by decide) hl hs
    · simpa [JV.text, JV.kts] using LK.word (numB_next hn) hl hs
    · simpa [JV.text, JV.kts] using LK.quote s hl
    · have := txtL_LK false it [] [] hL ((93 : UInt8) :: l) ((1, [93]) :: K) (hl.mark 93 (by decide)) (endK_soft false l)
      simpa [JV.text, JV.kts] using this.mark 91 (by decide)
    · have := txtL_LK true it ks [] hL ((125 : UInt8) :: l) ((1, [125]) :: K) (hl.mark 125 (by decide)) (endK_soft true l)
      simpa [JV.text, JV.kts] using this.mark 123 (by decide)
theorem txtL_LK (o : Bool) : ∀ (it : List JV) (ks met : List (List UInt8)), fndL o it ks met = 0 → ∀ (l : List UInt8) (K : List KT), LK l K → (∀ c, l[0]? = some c → softB c = true) → LK (txtL o it ks true ++ l) (ktL o it ks true ++ K)
  | [], _, _, _, l, K, hl, _ => by simpa [txtL, ktL] using hl
  | x :: t, ks, met, hf, l, K, hl, hs => by
    obtain ⟨_, hx, ht⟩ := fndL_cons hf
    have h1 := txtL_LK o t ks.tail _ ht l K hl hs
    have h2 : LK (txtL o t ks.tail false ++ l) (ktL o t ks.tail false ++ K) ∧ ∀ c, (txtL o t ks.tail false ++ l)[0]? = some c → softB c = true := by
      cases t with
      | nil => exact ⟨by simpa [txtL, ktL] using hl, by simpa [txtL] using hs⟩
      | cons y u =>
        have h3 := h1.mark 44 (by decide)
        refine ⟨by simpa [txtL, ktL] using h3, fun c hc => ?_⟩
        simp [txtL] at hc
        subst hc
        decide
    have h4 := text_LK x hx _ _ h2.1 h2.2
    rw [txtL, ktL]
    cases o with
    | false => simpa using h4
    | true =>
      have h5 := LK.quote (ks.headD []) (h4.mark 58 (by decide))
      simpa using h5
end
theorem LK.toks {l : List UInt8} {K : List KT} (h : LK l K) (hv : validD l = true) : ∃ T, toksL l = (T, 0, 0) ∧ kt T = K := by
  obtain ⟨T, h1, h2⟩ := h 0
  refine ⟨T, ?_, h2⟩
  unfold toksL
  rw [if_pos hv]
  exact h1.to_tt []
/-- a number's bytes are ASCII -/
theorem num_valid {s : List UInt8} (h : numB s = true) : validD s = true := by
  have hn := numB_next h
  cases s with
  | nil => rfl
  | cons c t =>
    have hm : numN (c :: t) = (c :: t).length := by
      rw [nextL_cons] at hn
      split at hn
      · cases hn
      · split at hn
        · obtain ⟨q, hq, e⟩ := Option.map_eq_some_iff.1 hn
          cases e
        · split at hn
          · cases hn
          · split at hn
            · simp only [Option.some.injEq, Prod.mk.injEq] at hn
              exact hn.2.2
            · cases hn
    have ha := asc_num (c :: t)
    rw [hm] at ha
    refine ascii_valid _ fun b hb => ?_
    obtain ⟨j, hj, e⟩ := List.getElem_of_mem hb
    obtain ⟨d, hd, h128⟩ := ha j hj
    rw [List.getElem?_eq_getElem hj, e] at hd
    obtain rfl := Option.some.inj hd
    exact h128
mutual
theorem text_valid : ∀ (v : JV), v.fnd = 0 → validD v.text = true
  | .mk k s ks it, h => by
    obtain ⟨hsh, hs4, hL⟩ := fnd_zero h
    rcases shaped_cases hsh with ⟨hk, rfl, rfl, rfl⟩ | ⟨rfl, rfl, rfl, hn⟩ | ⟨rfl, rfl, rfl⟩ | ⟨rfl, rfl, rfl⟩ | ⟨rfl, rfl, hlen⟩
    · rcases hk with rfl | rfl | rfl <;> (simp [JV.text]; decide)
    · simp only [JV.text]
      simp
      exact num_valid hn
    · simp only [JV.text]
      simp
      exact quote_valid s (hs4 rfl)
    · have := txtL_valid false it [] [] true hL
      simp only [JV.text]
      simp
      rw [valid_cons _ _ (by decide), valid_append _ _ _ (Nat.le_refl _) this]
      decide
    · have := txtL_valid true it ks [] true hL
      simp only [JV.text]
      simp
      rw [valid_cons _ _ (by decide), valid_append _ _ _ (Nat.le_refl _) this]
      decide
theorem txtL_valid (o : Bool) : ∀ (it : List JV) (ks met : List (List UInt8)) (first : Bool), fndL o it ks met = 0 → validD (txtL o it ks first) = true
  | [], _, _, _, _ => by rw [txtL]; rfl
  | x :: t, ks, met, first, hf => by
    obtain ⟨hk, hx, ht⟩ := fndL_cons hf
    have h1 := text_valid x hx
    have h2 := txtL_valid o t ks.tail _ false ht
    have h3 : validD (x.text ++ txtL o t ks.tail false) = true := by rw [valid_append _ _ _ (Nat.le_refl _) h1]; exact h2
    have h4 : validD ((if o = true then quoteL (ks.headD []) ++ [58] else []) ++ (x.text ++ txtL o t ks.tail false)) = true := by
      cases o with
      | false => simpa using h3
      | true =>
        simp only [if_true, List.append_assoc, List.singleton_append]
        rw [valid_append _ _ _ (Nat.le_refl _) (quote_valid _ (hk rfl).1), valid_cons _ _ (by decide)]
        exact h3
    rw [txtL]
    cases first with
    | true => simpa using h4
    | false =>
      simp only [Bool.false_eq_true, if_false, List.singleton_append]
      rw [valid_cons _ _ (by decide)]
      exact h4
end
end Go.Proofs.Jt
/- V5: Values of JSON, plain: Parse and Put undo each other; sizes. No program in sight. -/
namespace Go.Proofs.Jt
open Go.Lib Go.Proofs.Utf

mutual
theorem fnd_ok : ∀ (v : JV), v.fnd = 0 → v.ok = true
  | .mk k s ks it, h => by
    obtain ⟨h1, h2, h3⟩ := fnd_zero h
    have hl : k = 6 → ks.length = it.length := fun e => by
      rcases shaped_cases h1 with ⟨e, _⟩ | ⟨e, _⟩ | ⟨e, _⟩ | ⟨e, _⟩ | ⟨_, _, e⟩
      all_goals omega
    have h4 := fndL_ok _ it ks [] h3
    rw [JV.ok]
    simp only [Bool.and_eq_true, Bool.or_eq_true, decide_eq_true_eq, List.all_eq_true]
    refine ⟨⟨⟨h1, ?_⟩, ?_⟩, h4.1⟩
    · by_cases hk : k = 4
      · exact .inr (h2 hk)
      · exact .inl hk
    · by_cases hk : k = 6
      · exact .inr (h4.2 (decide_eq_true hk) (hl hk))
      · exact .inl hk
theorem fndL_ok (o : Bool) : ∀ (it : List JV) (ks met : List (List UInt8)), fndL o it ks met = 0 → okL it = true ∧ (o = true → ks.length = it.length → ∀ x ∈ ks, validD x = true)
  | [], ks, _, _ => ⟨rfl, fun _ hl x hx => by
    obtain rfl : ks = [] := List.length_eq_zero_iff.1 hl
    cases hx⟩
  | x :: t, ks, met, h => by
    obtain ⟨h1, h2, h3⟩ := fndL_cons h
    have h4 := fndL_ok o t ks.tail _ h3
    refine ⟨by rw [okL, fnd_ok x h2, h4.1]; rfl, fun ho hl y hy => ?_⟩
    cases ks with
    | nil => cases hy
    | cons k r =>
      rcases List.mem_cons.1 hy with rfl | hy
      · exact (h1 ho).1
      · exact h4.2 ho (by simpa using hl) y hy
end
theorem fnd_dup (v : JV) (h : v.fnd = 0) : v.dup = false := by
  have := ok_fnd v (fnd_ok v h)
  rw [h] at this
  cases hd : v.dup with
  | false => rfl
  | true => rw [hd] at this; cases this
/-- what words say, as Parse tells it -/
def parK (K : List KT) : JV × Nat :=
  if 64 < openN K 0 0 then (jn 0, 3)
  else match valP (2 * K.length + 1) K with
    | some (v, []) => if v.dup then (jn 0, 13) else (v, 0)
    | _ => (jn 0, 4)
theorem par_K {l : List UInt8} {K : List KT} (h : LK l K) (hv : validD l = true) : parV l = parK K := by
  obtain ⟨T, h1, h2⟩ := h.toks hv
  unfold parV parK
  rw [h1]
  simp only
  rw [if_neg (by simp), h2, show T.length = K.length by rw [← h2, kt, List.length_map]]
  all_goals rfl
theorem open_kts (v : JV) (h : v.fnd = 0) : openN v.kts 0 0 = v.dep := by
  have h1 := val_kts v h _ [] (Nat.le_refl _)
  rw [List.append_nil] at h1
  have h2 := (val_open _).1 _ _ _ h1 0 0 (Nat.le_refl _)
  rw [h2, openN]
  omega
theorem parK_kts (v : JV) (h : v.fnd = 0) : parK v.kts = if 64 < v.dep then (jn 0, 3) else (v, 0) := by
  unfold parK
  rw [open_kts v h]
  have h1 := val_kts v h _ [] (Nat.le_refl _)
  rw [List.append_nil] at h1
  rw [h1]
  simp only
  rw [fnd_dup v h]
  rfl
theorem chk_zero {v : JV} (h : v.chk = 0) : v.dep ≤ 64 ∧ v.fnd = 0 := by
  unfold JV.chk at h
  split at h
  · cases h
  · exact ⟨by omega, h⟩
/-- a value's text says the value -/
theorem par_text (v : JV) (h : v.chk = 0) : parV v.text = (v, 0) := by
  obtain ⟨h1, h2⟩ := chk_zero h
  have h3 := text_LK v h2 [] [] LK.nil (fun c hc => by cases hc)
  rw [List.append_nil, List.append_nil] at h3
  rw [par_K h3 (text_valid v h2), parK_kts v h2, if_neg (by omega)]
theorem toks_lx {l : List UInt8} (h : (toksL l).2.2 = 0) : validD l = true ∧ Lx l 0 (toksL l).1 := by
  unfold toksL at h ⊢
  cases hv : validD l with
  | false => rw [hv] at h; cases h
  | true =>
    rw [hv, if_pos rfl] at h
    rw [if_pos rfl]
    obtain ⟨R, p, e, hR⟩ : ∃ R p e, tt l 0 [] = (R, p, e) := ⟨_, _, _, rfl⟩
    have he : e = 0 := by
      have : (tt l 0 []).2.2 = 0 := h
      rw [hR] at this
      exact this
    subst he
    have h1 := Lx.of_tt _ l 0 [] R p (Nat.le_refl _) hR
    obtain ⟨_, T, h2, h3⟩ := h1
    refine ⟨rfl, ?_⟩
    show Lx l 0 (tt l 0 []).1
    rw [hR, h2]
    exact h3
/-- what a text says may be -/
theorem par_ok {l : List UInt8} {v : JV} (h : parV l = (v, 0)) : v.chk = 0 := by
  unfold parV at h
  split at h
  · rename_i h1
    simp only [Prod.mk.injEq] at h
    exact absurd h.2 h1
  · rename_i h1
    obtain ⟨hv, hx⟩ := toks_lx (Classical.not_not.1 h1)
    split at h
    · cases h
    · rename_i h2
      split at h
      · rename_i w hw
        split at h
        · cases h
        · rename_i h3
          cases h
          have h4 := (val_ok _).1 _ _ _ (hx.good hv) hw
          have h5 := ok_fnd v h4.1
          rw [if_neg h3] at h5
          have h6 := (val_open _).1 _ _ _ hw 0 0 (Nat.le_refl _)
          rw [openN] at h6
          unfold JV.chk
          rw [if_neg (by omega), h5]
      · cases h
theorem par_err {l : List UInt8} {v : JV} {e : Nat} (h : parV l = (v, e)) (he : e ≠ 0) : v = jn 0 := by
  unfold parV at h
  split at h
  · cases h; rfl
  · split at h
    · cases h; rfl
    · split at h
      · split at h
        · cases h; rfl
        · cases h; exact absurd rfl he
      · cases h; rfl
/-- sizes -/
def kw : List KT → Nat
  | [] => 0
  | (_, x) :: t => 1 + x.length + kw t
theorem kw_append (a b : List KT) : kw (a ++ b) = kw a + kw b := by
  induction a with
  | nil => simp [kw]
  | cons x t ih => obtain ⟨k, x⟩ := x; simp only [List.cons_append, kw, ih]; omega
theorem keysW_append (a b : List (List UInt8)) : keysW (a ++ b) = keysW a + keysW b := by
  induction a with
  | nil => simp [keysW]
  | cons x t ih => simp only [List.cons_append, keysW, ih]; omega
theorem wtL_append (a b : List JV) : wtL (a ++ b) = wtL a + wtL b := by
  induction a with
  | nil => simp [wtL]
  | cons x t ih => simp only [List.cons_append, wtL, ih]; omega
theorem esc_len (t : List UInt8) (h : (escR t).2 ≠ 0) : (encodeRune (escR t).1).length ≤ (escR t).2 := by
  have h4 := enc_len4 _ ((esc_ascii t).2.1 h)
  unfold escR at h h4 ⊢
  cases hs : t[0]?.bind simple with
  | some y =>
    cases hc : t[0]? with
    | none => rw [hc] at hs; cases hs
    | some b =>
      rw [hc] at hs
      have := simple_val b y hs
      simp only
      rw [enc1 _ ⟨by omega, by omega⟩]
      simp
  | none =>
    rw [hs] at h h4
    simp only at h h4 ⊢
    split at h
    · exact absurd rfl h
    · rename_i h0
      rw [if_neg h0] at h4 ⊢
      split at h
      · rename_i h1
        rw [if_pos h1] at h4 ⊢
        simp only at h4 ⊢
        omega
      · rename_i h1
        rw [if_neg h1] at h4 ⊢
        split at h
        · rename_i h2
          rw [if_pos h2] at h4 ⊢
          simp only at h4 ⊢
          omega
        · exact absurd rfl h
theorem qq_len : ∀ (k : Nat) (l : List UInt8), l.length ≤ k → ∀ r, qq l = some r → r.1.length + 1 ≤ r.2
  | _, [], _, r, h => by rw [qq_nil] at h; cases h
  | 0, c :: t, hk, r, h => by simp at hk
  | k + 1, c :: t, hk, r, h => by
    simp only [List.length_cons] at hk
    by_cases h34 : c = 34
    · subst h34
      rw [qq_end] at h
      cases h
      simp
    by_cases h2 : c.toNat < 32
    · rw [qq_ctl c t h2] at h; cases h
    by_cases h3 : c = 92
    · subst h3
      rw [qq_esc] at h
      split at h
      · cases h
      · rename_i h0
        obtain ⟨q, hq, rfl⟩ := Option.map_eq_some_iff.1 h
        have := qq_len k _ (by rw [List.length_drop]; omega) q hq
        have he := esc_len t h0
        simp only [List.length_append]
        omega
    · rw [qq_byte c t h34 h2 h3] at h
      obtain ⟨q, hq, rfl⟩ := Option.map_eq_some_iff.1 h
      have := qq_len k t (by omega) q hq
      simp only [List.length_cons]
      omega
theorem next_len {l : List UInt8} {k : Nat} {x : List UInt8} {m : Nat} (h : nextL l = some (k, x, m)) : x.length ≤ m := by
  by_cases hk : k = 4
  · subst hk
    cases l with
    | nil => cases h
    | cons c t =>
      rw [nextL_cons] at h
      split at h
      · cases h
      · split at h
        · obtain ⟨q, hq, e⟩ := Option.map_eq_some_iff.1 h
          cases e
          have := qq_len _ t (Nat.le_refl _) q hq
          omega
        · split at h
          · cases h
          · split at h
            · cases h
            · cases h
  · rw [next_text l k x m h hk, List.length_take]
    omega
theorem Lx.kw_le {l : List UInt8} {a : Nat} {T : List Tok} (h : Lx l a T) : kw (kt T) ≤ 2 * l.length := by
  induction h with
  | nil a => simp [kt, kw]
  | blank h _ ih => simp only [List.length_cons]; omega
  | @tok c t a T k x m h h1 h2 ih =>
    have hm := nextL_le _ _ h1
    have hx := next_len h1
    simp only at hm
    rw [List.length_drop] at ih
    unfold kt at ih ⊢
    simp only [List.map_cons, kw]
    omega
theorem val_wt : ∀ n : Nat, (∀ (l : List KT) (v : JV) (r : List KT), valP n l = some (v, r) → v.wt + kw r ≤ kw l) ∧
    (∀ (o : Bool) (l : List KT) (ks : List (List UInt8)) (it : List JV) (v : JV) (r : List KT), itmP n o l ks it = some (v, r) → v.wt + kw r ≤ kw l + 1 + (if o then keysW ks else 0) + wtL it)
  | 0 => ⟨fun l v r h => (by rw [valP] at h; cases h), fun o l ks it v r h => by rw [itmP] at h; cases h⟩
  | n + 1 => by
    obtain ⟨ih1, ih2⟩ := val_wt n
    refine ⟨fun l v r h => ?_, fun o l ks it v r h => ?_⟩
    · cases l with
      | nil => rw [valP] at h; cases h
      | cons t l =>
        obtain ⟨k, x⟩ := t
        rw [valP_cons] at h
        rw [kw]
        have hend : ∀ (e : List UInt8) (w : JV) (b : Bool), w.wt = 1 → (if l.head? = some (1, e) then some (w, l.tail) else itmP n b l [] []) = some (v, r) → v.wt + kw r ≤ 1 + kw l := fun e w b hw h => by
          split at h
          · rename_i hh
            cases h
            cases l with
            | nil => cases hh
            | cons y l => obtain ⟨k, x⟩ := y; simp only [List.tail_cons, kw]; omega
          · have := ih2 b l [] [] v r h
            simp only [wtL, keysW] at this
            split at this <;> omega
        split at h
        · split at h
          · cases h; simp [jn, JV.wt, keysW, wtL]
          · split at h
            · cases h; simp [jn, JV.wt, keysW, wtL]
            · split at h
              · cases h; simp [jn, JV.wt, keysW, wtL]
              · cases h
        · split at h
          · cases h; simp [JV.wt, keysW, wtL]
          · split at h
            · cases h; simp [JV.wt, keysW, wtL]
            · split at h
              · have := hend _ _ _ rfl h; omega
              · split at h
                · have := hend _ _ _ rfl h; omega
                · cases h
    · rw [itmP] at h
      split at h
      · cases h
      · rename_i key r2 hkey
        have hl2 : (if o then 1 + key.length else 0) + kw r2 ≤ kw l := by
          rcases keyP_some hkey with ⟨ho, e⟩ | ⟨ho, _, e⟩
          · rw [e, kw, kw, if_pos ho]; omega
          · rw [e, if_neg (by rw [ho]; simp)]; omega
        split at h
        · cases h
        · rename_i w r3 hv
          have h1 := ih1 r2 w r3 hv
          split at h
          · rename_i hh
            cases h
            cases r3 with
            | nil => cases hh
            | cons y r3 =>
              obtain ⟨k, x⟩ := y
              simp only [List.tail_cons, kw] at h1 ⊢
              rw [JV.wt, wtL_append]
              simp only [wtL, List.length_nil]
              cases o with
              | false => simp [keysW] at hl2 ⊢; omega
              | true => simp only [if_true, keysW_append, keysW] at hl2 ⊢; omega
          · split at h
            · rename_i hh
              cases r3 with
              | nil => cases hh
              | cons y r3 =>
                obtain ⟨k, x⟩ := y
                rw [List.tail_cons] at h
                have h9 := ih2 o r3 _ _ v r h
                rw [wtL_append, keysW_append] at h9
                simp only [wtL, keysW, kw] at h9 h1
                cases o with
                | false => simp at hl2 h9 ⊢; omega
                | true => simp only [if_true] at hl2 h9 ⊢; omega
            · cases h
theorem par_wt {l : List UInt8} {v : JV} (h : parV l = (v, 0)) : v.wt ≤ 2 * l.length := by
  unfold parV at h
  split at h
  · rename_i h1
    simp only [Prod.mk.injEq] at h
    exact absurd h.2 h1
  · rename_i h1
    obtain ⟨hv, hx⟩ := toks_lx (Classical.not_not.1 h1)
    split at h
    · cases h
    · split at h
      · rename_i w hw
        split at h
        · cases h
        · cases h
          have h4 := (val_wt _).1 _ _ _ hw
          have h5 := hx.kw_le
          omega
      · cases h
mutual
theorem text_len : ∀ (v : JV), v.text.length + 4 ≤ 9 * v.wt
  | .mk k s ks it => by
    have hq := quote_len s
    have h1 := txtL_len true it ks true
    have h2 := txtL_len false it ks true
    simp only [if_true, Bool.false_eq_true, if_false] at h1 h2
    rw [JV.text, JV.wt]
    repeat' split
    all_goals (simp [wNull, wFalse, wTrue]; try omega)
theorem txtL_len (o : Bool) : ∀ (it : List JV) (ks : List (List UInt8)) (first : Bool), (txtL o it ks first).length ≤ 9 * (wtL it + (if o then keysW ks else 0))
  | [], _, _ => by rw [txtL]; simp
  | x :: t, ks, first => by
    have h1 := text_len x
    have h2 := txtL_len o t ks.tail false
    rw [txtL, wtL]
    cases o with
    | false => cases first <;> (simp at h2 ⊢; omega)
    | true =>
      have h3 := quote_len (ks.headD [])
      simp only [if_true] at h2 ⊢
      cases ks with
      | nil =>
        rw [List.headD_nil] at h3
        cases first <;> (simp [keysW] at h2 h3 ⊢; omega)
      | cons k r =>
        rw [List.headD_cons] at h3
        rw [List.tail_cons] at h2
        cases first <;> (simp [keysW] at h2 ⊢; omega)
end
end Go.Proofs.Jt
