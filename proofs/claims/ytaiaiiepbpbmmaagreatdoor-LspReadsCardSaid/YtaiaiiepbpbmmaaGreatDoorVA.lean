/- Merged texts: V1, V2, V3, V4, V5. -/
import Derived.Test.YtaiaiiepbpbmmaaGreatDoorJw2
/- V1: Values of JSON, plain: what they are, their texts and words, and what words say. No program in sight. -/
namespace Go.Proofs.Jt
open Go.Lib Go.Proofs.Utf

inductive JV where
 | mk (kind : Int) (str : List UInt8) (keys : List (List UInt8)) (items : List JV)
namespace JV
def kind : JV → Int | .mk k _ _ _ => k
def str : JV → List UInt8 | .mk _ s _ _ => s
def keys : JV → List (List UInt8) | .mk _ _ ks _ => ks
def items : JV → List JV | .mk _ _ _ it => it
end JV
def jn (k : Int) : JV := .mk k [] [] []
def keysW : List (List UInt8) → Nat
 | [] => 0
 | k :: t => 1 + k.length + keysW t
mutual
/-- how many values, keys and bytes -/
def JV.wt : JV → Nat | .mk _ s ks it => 1 + s.length + keysW ks + wtL it
def wtL : List JV → Nat
 | [] => 0
 | x :: t => x.wt + wtL t
end
mutual
def JV.dep : JV → Nat | .mk k _ _ it => if k = 5 ∨ k = 6 then depL it + 1 else 0
def depL : List JV → Nat
 | [] => 0
 | x :: t => max x.dep (depL t)
end
/-- is a text a number? -/
def numB (s : List UInt8) : Bool := decide (nextL s = some (3, s, s.length))
def JV.shaped : JV → Bool
 | .mk k s ks it =>
  if k = 0 ∨ k = 1 ∨ k = 2 then decide (s = []) && ks.isEmpty && it.isEmpty
  else if k = 3 then ks.isEmpty && it.isEmpty && numB s
  else if k = 4 then ks.isEmpty && it.isEmpty
  else if k = 5 then decide (s = []) && ks.isEmpty
  else if k = 6 then decide (s = []) && ks.length == it.length
  else false
mutual
/-- what is found in a value -/
def JV.fnd : JV → Nat
 | .mk k s ks it => if (JV.mk k s ks it).shaped = false then 4 else if k = 4 ∧ validD s = false then 8 else fndL (decide (k = 6)) it ks []
def fndL (o : Bool) : List JV → List (List UInt8) → List (List UInt8) → Nat
 | [], _, _ => 0
 | x :: t, ks, met =>
  if o = true ∧ validD (ks.headD []) = false then 8
  else if o = true ∧ ks.headD [] ∈ met then 13
  else if x.fnd = 0 then fndL o t ks.tail (ks.headD [] :: met) else x.fnd
end
def JV.chk (v : JV) : Nat := if 64 < v.dep then 3 else v.fnd
mutual
def JV.text : JV → List UInt8
 | .mk k s ks it =>
  if k = 0 then wNull else if k = 1 then wFalse else if k = 2 then wTrue else if k = 3 then s else if k = 4 then quoteL s
  else if k = 6 then 123 :: (txtL true it ks true ++ [125]) else 91 :: (txtL false it ks true ++ [93])
def txtL (o : Bool) : List JV → List (List UInt8) → Bool → List UInt8
 | [], _, _ => []
 | x :: t, ks, first => (if first then [] else [44]) ++ ((if o then quoteL (ks.headD []) ++ [58] else []) ++ (x.text ++ txtL o t ks.tail false))
end
abbrev KT := Nat × List UInt8
mutual
/-- does a key stand twice in an object? -/
def JV.dup : JV → Bool | .mk k _ ks it => dupL (decide (k = 6)) it ks []
def dupL (o : Bool) : List JV → List (List UInt8) → List (List UInt8) → Bool
 | [], _, _ => false
 | x :: t, ks, met => (o && decide (ks.headD [] ∈ met)) || x.dup || dupL o t ks.tail (ks.headD [] :: met)
end
def endK (o : Bool) : List UInt8 := if o then [125] else [93]
/-- a key and its mark ahead of an item -/
def keyP (o : Bool) (r : List KT) : Option (List UInt8 × List KT) :=
 if o then match r with
  | (4, key) :: (1, [58]) :: r2 => some (key, r2)
  | _ => none
 else some ([], r)
mutual
/-- the value whose words stand ahead, and what stands behind -/
def valP : Nat → List KT → Option (JV × List KT)
 | 0, _ => none
 | _ + 1, [] => none
 | n + 1, (k, x) :: r =>
  if k = 2 then (if x = wNull then some (jn 0, r) else if x = wFalse then some (jn 1, r) else if x = wTrue then some (jn 2, r) else none)
  else if k = 3 then some (.mk 3 x [] [], r)
  else if k = 4 then some (.mk 4 x [] [], r)
  else if k = 1 ∧ x = [91] then (if r.head? = some (1, [93]) then some (jn 5, r.tail) else itmP n false r [] [])
  else if k = 1 ∧ x = [123] then (if r.head? = some (1, [125]) then some (jn 6, r.tail) else itmP n true r [] [])
  else none
def itmP : Nat → Bool → List KT → List (List UInt8) → List JV → Option (JV × List KT)
 | 0, _, _, _, _ => none
 | n + 1, o, r, ks, it =>
  match keyP o r with
  | none => none
  | some (key, r2) =>
   match valP n r2 with
   | none => none
   | some (v, r3) =>
    if r3.head? = some (1, endK o) then some (.mk (if o then 6 else 5) [] (if o then ks ++ [key] else []) (it ++ [v]), r3.tail)
    else if r3.head? = some (1, [44]) then itmP n o r3.tail (ks ++ [key]) (it ++ [v])
    else none
end
/-- the greatest number of marks that are open -/
def openN : List KT → Nat → Nat → Nat
 | [], _, h => h
 | (k, x) :: r, n, h =>
  let m := if k = 1 ∧ (x = [91] ∨ x = [123]) then n + 1 else if k = 1 ∧ (x = [93] ∨ x = [125]) then n - 1 else n
  openN r m (max m h)
/-- a text's value, and why it has none -/
def parV (l : List UInt8) : JV × Nat :=
 if (toksL l).2.2 ≠ 0 then (jn 0, (toksL l).2.2)
 else if 64 < openN (kt (toksL l).1) 0 0 then (jn 0, 3)
 else match valP (2 * (toksL l).1.length + 1) (kt (toksL l).1) with
  | some (v, []) => if v.dup then (jn 0, 13) else (v, 0)
  | _ => (jn 0, 4)
mutual
def eqV : JV → JV → Bool
 | .mk k s ks it, .mk k' s' ks' it' => decide (k = k') && decide (s = s') && decide (ks = ks') && eqL it it'
def eqL : List JV → List JV → Bool
 | [], [] => true
 | x :: t, y :: u => eqV x y && eqL t u
 | _, _ => false
end
mutual
theorem eqV_iff : ∀ (a b : JV), eqV a b = true ↔ a = b
 | .mk k s ks it, .mk k' s' ks' it' => by
  rw [eqV]
  have := eqL_iff it it'
  simp only [Bool.and_eq_true, decide_eq_true_eq, this, JV.mk.injEq, and_assoc]
theorem eqL_iff : ∀ (a b : List JV), eqL a b = true ↔ a = b
 | [], [] => by simp [eqL]
 | [], y :: u => by simp [eqL]
 | x :: t, [] => by simp [eqL]
 | x :: t, y :: u => by
  rw [eqL]
  have h1 := eqV_iff x y
  have h2 := eqL_iff t u
  simp only [Bool.and_eq_true, h1, h2, List.cons.injEq]
end
end Go.Proofs.Jt
/- V2: Values of JSON, plain: a value's words say the value; what words say. No program in sight. -/
namespace Go.Proofs.Jt
open Go.Lib Go.Proofs.Utf

end Go.Proofs.Jt
/- V3: Values of JSON, plain: what words say may be, but for keys that stand twice; how deep it is. No program in sight. -/
namespace Go.Proofs.Jt
open Go.Lib Go.Proofs.Utf

mutual
/-- a value that may be, but for keys that stand twice -/
def JV.ok : JV → Bool | .mk k s ks it => (JV.mk k s ks it).shaped && (decide (k ≠ 4) || validD s) && (decide (k ≠ 6) || ks.all validD) && okL it
def okL : List JV → Bool
 | [] => true
 | x :: t => x.ok && okL t
end
/-- words that are what they must be -/
def goodK (l : List KT) : Prop := ∀ x ∈ l, (x.1 = 3 → numB x.2 = true) ∧ (x.1 = 4 → validD x.2 = true)
theorem goodK.tail {l : List KT} (h : goodK l) : goodK l.tail := fun x hx => h x (List.mem_of_mem_tail hx)
theorem keyP_some {o : Bool} {r r2 : List KT} {key : List UInt8} (h : keyP o r = some (key, r2)) : (o = true ∧ r = (4, key) :: (1, [58]) :: r2) ∨ (o = false ∧ key = [] ∧ r2 = r) := by
 unfold keyP at h
 split at h
 · rename_i ho
   split at h
   · cases h
     exact .inl ⟨ho, rfl⟩
   · cases h
 · rename_i ho
   cases h
   exact .inr ⟨by simpa using ho, rfl, rfl⟩
theorem valP_cons (n : Nat) (k : Nat) (x : List UInt8) (r : List KT) : valP (n + 1) ((k, x) :: r) =
 if k = 2 then (if x = wNull then some (jn 0, r) else if x = wFalse then some (jn 1, r) else if x = wTrue then some (jn 2, r) else none)
 else if k = 3 then some (.mk 3 x [] [], r)
 else if k = 4 then some (.mk 4 x [] [], r)
 else if k = 1 ∧ x = [91] then (if r.head? = some (1, [93]) then some (jn 5, r.tail) else itmP n false r [] [])
 else if k = 1 ∧ x = [123] then (if r.head? = some (1, [125]) then some (jn 6, r.tail) else itmP n true r [] [])
 else none := by rw [valP]
/-- how deep what words say is -/
theorem openN_cons (k : Nat) (x : List UInt8) (r : List KT) (n h : Nat) : openN ((k, x) :: r) n h = openN r (if k = 1 ∧ (x = [91] ∨ x = [123]) then n + 1 else if k = 1 ∧ (x = [93] ∨ x = [125]) then n - 1 else n) (max (if k = 1 ∧ (x = [91] ∨ x = [123]) then n + 1 else if k = 1 ∧ (x = [93] ∨ x = [125]) then n - 1 else n) h) := rfl
theorem openN_le : ∀ (l : List KT) (n h : Nat), h ≤ openN l n h
 | [], _, _ => Nat.le_refl _
 | (k, x) :: r, n, h => by
  rw [openN_cons]
  exact Nat.le_trans (Nat.le_max_right _ _) (openN_le r _ _)
end Go.Proofs.Jt
/- V4: Values of JSON, plain: a value's text has the value's words; words of a text are what they must be. No program in sight. -/
namespace Go.Proofs.Jt
open Go.Lib Go.Proofs.Utf

theorem next_blank (c : UInt8) (t : List UInt8) (h : isBlankB c = true) : nextL (c :: t) = none := by
 have key : ∀ c : UInt8, isBlankB c = true → isMarkB c = false ∧ c ≠ 34 ∧ isLow c = false ∧ isDig c = false ∧ c ≠ 45 := forall_u8 (by decide +kernel)
 obtain ⟨h1, h2, h3, h4, h5⟩ := key c h
 rw [nextL_cons, h1, if_neg (by simp), if_neg h2, word_first c t h3, num_first c t h4 h5]
 rfl
theorem agree_take (l : List UInt8) (m : Nat) : Agree l (l.take m) m := fun j hj => by rw [List.getElem?_take_of_lt hj]
theorem agree_app (s l : List UInt8) : Agree s (s ++ l) s.length := fun j hj => by rw [List.getElem?_append_left hj]
/-- what a valid text's strings say is valid -/
theorem valid_qtext : ∀ (k : Nat) (l : List UInt8), l.length ≤ k → validD l = true → ∀ r, qq l = some r → validD r.1 = true
 | _, [], _, _, r, h => by rw [qq_nil] at h; cases h
 | 0, c :: t, hk, _, r, h => by simp at hk
 | k + 1, c :: t, hk, hv, r, h => by
  simp only [List.length_cons] at hk
  obtain ⟨hp, hv2⟩ := valid_step (c :: t) (by simp) hv
  obtain ⟨e1, e2, e3⟩ := dec_point_bytes (c :: t) (by simp) hp
  unfold headW at hv2
  have f34 := dec_first c t 34 (by omega)
  have f92 := dec_first c t 92 (by omega)
  by_cases h34 : (decodeL (c :: t)).1 = 34
  · obtain rfl : c = 34 := UInt8.toNat_inj.1 (f34.1 h34)
    rw [qq_end] at h
    cases h
    rfl
  by_cases h92 : (decodeL (c :: t)).1 = 92
  · obtain rfl : c = 92 := UInt8.toNat_inj.1 (f92.1 h92)
    rw [qq_esc] at h
    split at h
    · cases h
    · rename_i h0
      obtain ⟨q, hq, rfl⟩ := Option.map_eq_some_iff.1 h
      have hvt := valid_asc t _ (esc_ascii t).1 (valid_ascii 92 t (by decide) hv)
      have := valid_qtext k _ (by rw [List.length_drop]; omega) hvt q hq
      simp only
      rw [valid_append _ _ _ (Nat.le_refl _) (enc_valid _ ((esc_ascii t).2.1 h0))]
      exact this
  by_cases h32 : (decodeL (c :: t)).1 < 32
  · have hc : c.toNat < 32 := by
     by_cases hb : c.toNat < 128
     · rw [decodeL_ascii c t hb] at h32; exact h32
     · have := dec_high c t (by omega); omega
    rw [qq_ctl c t hc] at h
    cases h
  · rw [qq_point (c :: t) (by simp) hp h34 h32 h92] at h
    obtain ⟨q, hq, rfl⟩ := Option.map_eq_some_iff.1 h
    simp only [List.length_cons] at e2
    have := valid_qtext k _ (by rw [List.length_drop, List.length_cons]; omega) hv2 q hq
    simp only
    rw [valid_append _ _ _ (Nat.le_refl _) (by
     rw [e1]
     exact valid_take _ _ _ (Nat.le_refl _) (by simpa using e2) hv hv2)]
    exact this
theorem next_good {l : List UInt8} {k : Nat} {x : List UInt8} {m : Nat} (h : nextL l = some (k, x, m)) (hv : validD l = true) (hh : l[m]? ≠ some 46 ∧ l[m]? ≠ some 101 ∧ l[m]? ≠ some 69) : (k = 3 → numB x = true) ∧ (k = 4 → validD x = true) := by
 have hm := nextL_le l _ h
 simp only at hm
 refine ⟨fun hk => ?_, fun hk => ?_⟩
 · subst hk
   have hx := next_text l 3 x m h (by decide)
   subst hx
   unfold numB
   refine decide_eq_true ?_
   have hlen : (l.take m).length = m := by rw [List.length_take]; omega
   rw [hlen]
   refine next_same h (agree_take l m) ⟨fun c hc => ?_, hh⟩
   rw [List.getElem?_eq_none (by omega)] at hc
   cases hc
 · subst hk
   cases l with
   | nil => cases h
   | cons c t =>
    rw [nextL_cons] at h
    split at h
    · cases h
    · split at h
      · rename_i h34
        subst h34
        obtain ⟨q, hq, e⟩ := Option.map_eq_some_iff.1 h
        cases e
        exact valid_qtext _ t (Nat.le_refl _) (valid_ascii 34 t (by decide) hv) q hq
      · split at h
        · cases h
        · split at h
          · cases h
          · cases h
theorem Lx.good {l : List UInt8} {a : Nat} {T : List Tok} (h : Lx l a T) : validD l = true → goodK (kt T) := by
 induction h with
 | nil a => exact fun _ x hx => by cases hx
 | blank h _ ih => exact fun hv => ih (valid_ascii _ _ (blank_low _ h) hv)
 | @tok c t a T k x m h h1 h2 ih =>
  intro hv y hy
  have hm := nextL_le _ _ h1
  simp only at hm
  unfold kt at hy
  rw [List.map_cons, List.mem_cons] at hy
  rcases hy with rfl | hy
  · have hd := h2.head
    rw [List.getElem?_drop, Nat.add_zero] at hd
    exact next_good h1 hv hd
  · exact ih (valid_next _ hv _ h1) y hy
/-- a text of these words, wherever it stands -/
def LK (l : List UInt8) (K : List KT) : Prop := ∀ a, ∃ T, Lx l a T ∧ kt T = K
theorem LK.nil : LK [] [] := fun a => ⟨[], .nil a, rfl⟩
theorem LK.blanks {l : List UInt8} {K : List KT} (bs : List UInt8) (hb : ∀ b ∈ bs, isBlankB b = true) (h : LK l K) : LK (bs ++ l) K := fun a => by
 obtain ⟨T, h1, h2⟩ := h (a + bs.length)
 exact ⟨T, h1.blanks bs a hb, h2⟩
theorem LK.tok {l : List UInt8} {K : List KT} {s : List UInt8} {k : Nat} {x : List UInt8} (hn : nextL (s ++ l) = some (k, x, s.length)) (h : LK l K) : LK (s ++ l) ((k, x) :: K) := fun a => by
 obtain ⟨T, h1, h2⟩ := h (a + s.length)
 have hm := nextL_le _ _ hn
 cases s with
 | nil => simp at hm
 | cons c t =>
  have hb : isBlankB c = false := by
   cases hb : isBlankB c with
   | false => rfl
   | true => rw [List.cons_append, next_blank c _ hb] at hn; cases hn
  refine ⟨⟨k, x, a, a + (c :: t).length⟩ :: T, .tok hb hn ?_, ?_⟩
  · show Lx (List.drop (c :: t).length ((c :: t) ++ l)) _ T
    rw [List.drop_left]
    exact h1
  · unfold kt at h2 ⊢
    rw [List.map_cons, h2]
theorem LK.mark {l : List UInt8} {K : List KT} (c : UInt8) (hc : isMarkB c = true) (h : LK l K) : LK (c :: l) ((1, [c]) :: K) :=
 LK.tok (s := [c]) (by rw [List.singleton_append, nextL_cons, if_pos hc]; rfl) h
theorem LK.word {l : List UInt8} {K : List KT} {s : List UInt8} {k : Nat} {x : List UInt8} (hn : nextL s = some (k, x, s.length)) (h : LK l K) (hl : ∀ c, l[0]? = some c → softB c = true) : LK (s ++ l) ((k, x) :: K) :=
 LK.tok (next_same hn (agree_app s l) ⟨fun c hc => by
  rw [List.getElem?_append_right (Nat.le_refl _), Nat.sub_self] at hc
  exact .inr (hl c hc), by rw [List.getElem?_eq_none (Nat.le_refl _)]; simp⟩) h
theorem LK.toks {l : List UInt8} {K : List KT} (h : LK l K) (hv : validD l = true) : ∃ T, toksL l = (T, 0, 0) ∧ kt T = K := by
 obtain ⟨T, h1, h2⟩ := h 0
 refine ⟨T, ?_, h2⟩
 unfold toksL
 rw [if_pos hv]
 exact h1.to_tt []
end Go.Proofs.Jt
/- V5: Values of JSON, plain: Parse and Put undo each other; sizes. No program in sight. -/
namespace Go.Proofs.Jt
open Go.Lib Go.Proofs.Utf

theorem toks_lx {l : List UInt8} (h : (toksL l).2.2 = 0) : validD l = true ∧ Lx l 0 (toksL l).1 := by
 unfold toksL at h ⊢
 cases hv : validD l with
 | false => rw [hv] at h; cases h
 | true =>
  rw [hv, if_pos rfl] at h
  rw [if_pos rfl]
  obtain ⟨R, p, e, hR⟩ : ∃ R p e, tt l 0 [] = (R, p, e) := ⟨_, _, _, rfl⟩
  have he : e = 0 := by
   have : (tt l 0 []).2.2 = 0 := h
   rw [hR] at this
   exact this
  subst he
  have h1 := Lx.of_tt _ l 0 [] R p (Nat.le_refl _) hR
  obtain ⟨_, T, h2, h3⟩ := h1
  refine ⟨rfl, ?_⟩
  show Lx l 0 (tt l 0 []).1
  rw [hR, h2]
  exact h3
/-- sizes -/
def kw : List KT → Nat
 | [] => 0
 | (_, x) :: t => 1 + x.length + kw t
theorem keysW_append (a b : List (List UInt8)) : keysW (a ++ b) = keysW a + keysW b := by
 induction a with
 | nil => simp [keysW]
 | cons x t ih => simp only [List.cons_append, keysW, ih]; omega
theorem wtL_append (a b : List JV) : wtL (a ++ b) = wtL a + wtL b := by
 induction a with
 | nil => simp [wtL]
 | cons x t ih => simp only [List.cons_append, wtL, ih]; omega
theorem esc_len (t : List UInt8) (h : (escR t).2 ≠ 0) : (encodeRune (escR t).1).length ≤ (escR t).2 := by
 have h4 := enc_len4 _ ((esc_ascii t).2.1 h)
 unfold escR at h h4 ⊢
 cases hs : t[0]?.bind simple with
 | some y =>
  cases hc : t[0]? with
  | none => rw [hc] at hs; cases hs
  | some b =>
   rw [hc] at hs
   have := simple_val b y hs
   simp only
   rw [enc1 _ ⟨by omega, by omega⟩]
   simp
 | none =>
  rw [hs] at h h4
  simp only at h h4 ⊢
  split at h
  · exact absurd rfl h
  · rename_i h0
    rw [if_neg h0] at h4 ⊢
    split at h
    · rename_i h1
      rw [if_pos h1] at h4 ⊢
      simp only at h4 ⊢
      omega
    · rename_i h1
      rw [if_neg h1] at h4 ⊢
      split at h
      · rename_i h2
        rw [if_pos h2] at h4 ⊢
        simp only at h4 ⊢
        omega
      · exact absurd rfl h
theorem qq_len : ∀ (k : Nat) (l : List UInt8), l.length ≤ k → ∀ r, qq l = some r → r.1.length + 1 ≤ r.2
 | _, [], _, r, h => by rw [qq_nil] at h; cases h
 | 0, c :: t, hk, r, h => by simp at hk
 | k + 1, c :: t, hk, r, h => by
  simp only [List.length_cons] at hk
  by_cases h34 : c = 34
  · subst h34
    rw [qq_end] at h
    cases h
    simp
  by_cases h2 : c.toNat < 32
  · rw [qq_ctl c t h2] at h; cases h
  by_cases h3 : c = 92
  · subst h3
    rw [qq_esc] at h
    split at h
    · cases h
    · rename_i h0
      obtain ⟨q, hq, rfl⟩ := Option.map_eq_some_iff.1 h
      have := qq_len k _ (by rw [List.length_drop]; omega) q hq
      have he := esc_len t h0
      simp only [List.length_append]
      omega
  · rw [qq_byte c t h34 h2 h3] at h
    obtain ⟨q, hq, rfl⟩ := Option.map_eq_some_iff.1 h
    have := qq_len k t (by omega) q hq
    simp only [List.length_cons]
    omega
theorem next_len {l : List UInt8} {k : Nat} {x : List UInt8} {m : Nat} (h : nextL l = some (k, x, m)) : x.length ≤ m := by
 by_cases hk : k = 4
 · subst hk
   cases l with
   | nil => cases h
   | cons c t =>
    rw [nextL_cons] at h
    split at h
    · cases h
    · split at h
      · obtain ⟨q, hq, e⟩ := Option.map_eq_some_iff.1 h
        cases e
        have := qq_len _ t (Nat.le_refl _) q hq
        omega
      · split at h
        · cases h
        · split at h
          · cases h
          · cases h
 · rw [next_text l k x m h hk, List.length_take]
   omega
theorem Lx.kw_le {l : List UInt8} {a : Nat} {T : List Tok} (h : Lx l a T) : kw (kt T) ≤ 2 * l.length := by
 induction h with
 | nil a => simp [kt, kw]
 | blank h _ ih => simp only [List.length_cons]; omega
 | @tok c t a T k x m h h1 h2 ih =>
  have hm := nextL_le _ _ h1
  have hx := next_len h1
  simp only at hm
  rw [List.length_drop] at ih
  unfold kt at ih ⊢
  simp only [List.map_cons, kw]
  omega
theorem val_wt : ∀ n : Nat, (∀ (l : List KT) (v : JV) (r : List KT), valP n l = some (v, r) → v.wt + kw r ≤ kw l) ∧
 (∀ (o : Bool) (l : List KT) (ks : List (List UInt8)) (it : List JV) (v : JV) (r : List KT), itmP n o l ks it = some (v, r) → v.wt + kw r ≤ kw l + 1 + (if o then keysW ks else 0) + wtL it)
 | 0 => ⟨fun l v r h => (by rw [valP] at h; cases h), fun o l ks it v r h => by rw [itmP] at h; cases h⟩
 | n + 1 => by
  obtain ⟨ih1, ih2⟩ := val_wt n
  refine ⟨fun l v r h => ?_, fun o l ks it v r h => ?_⟩
  · cases l with
    | nil => rw [valP] at h; cases h
    | cons t l =>
     obtain ⟨k, x⟩ := t
     rw [valP_cons] at h
     rw [kw]
     have hend : ∀ (e : List UInt8) (w : JV) (b : Bool), w.wt = 1 → (if l.head? = some (1, e) then some (w, l.tail) else itmP n b l [] []) = some (v, r) → v.wt + kw r ≤ 1 + kw l := fun e w b hw h => by
      split at h
      · rename_i hh
        cases h
        cases l with
        | nil => cases hh
        | cons y l => obtain ⟨k, x⟩ := y; simp only [List.tail_cons, kw]; omega
      · have := ih2 b l [] [] v r h
        simp only [wtL, keysW] at this
        split at this <;> omega
     split at h
     · split at h
       · cases h; simp [jn, JV.wt, keysW, wtL]
       · split at h
         · cases h; simp [jn, JV.wt, keysW, wtL]
         · split at h
           · cases h; simp [jn, JV.wt, keysW, wtL]
           · cases h
     · split at h
       · cases h; simp [JV.wt, keysW, wtL]
       · split at h
         · cases h; simp [JV.wt, keysW, wtL]
         · split at h
           · have := hend _ _ _ rfl h; omega
           · split at h
             · have := hend _ _ _ rfl h; omega
             · cases h
  · rw [itmP] at h
    split at h
    · cases h
    · rename_i key r2 hkey
      have hl2 : (if o then 1 + key.length else 0) + kw r2 ≤ kw l := by
       rcases keyP_some hkey with ⟨ho, e⟩ | ⟨ho, _, e⟩
       · rw [e, kw, kw, if_pos ho]; omega
       · rw [e, if_neg (by rw [ho]; simp)]; omega
      split at h
      · cases h
      · rename_i w r3 hv
        have h1 := ih1 r2 w r3 hv
        split at h
        · rename_i hh
          cases h
          cases r3 with
          | nil => cases hh
          | cons y r3 =>
           obtain ⟨k, x⟩ := y
           simp only [List.tail_cons, kw] at h1 ⊢
           rw [JV.wt, wtL_append]
           simp only [wtL, List.length_nil]
           cases o with
           | false => simp [keysW] at hl2 ⊢; omega
           | true => simp only [if_true, keysW_append, keysW] at hl2 ⊢; omega
        · split at h
          · rename_i hh
            cases r3 with
            | nil => cases hh
            | cons y r3 =>
             obtain ⟨k, x⟩ := y
             rw [List.tail_cons] at h
             have h9 := ih2 o r3 _ _ v r h
             rw [wtL_append, keysW_append] at h9
             simp only [wtL, keysW, kw] at h9 h1
             cases o with
             | false => simp at hl2 h9 ⊢; omega
             | true => simp only [if_true] at hl2 h9 ⊢; omega
          · cases h
end Go.Proofs.Jt
