/- Frames, by plain functions on bytes. No program in sight. -/
import Derived.Lib.IndexMore
import Derived.Lib.IndexLaws
import Derived.Lib.Split
import Derived.Lib.SplitLaws
import Derived.Lib.Atoi
import Derived.Lib.ItoaNum
import Derived.Lib.Hide
namespace Go.Proofs.Fr
open Go.Lib

def crlf : List UInt8 := [13, 10]
def end4 : List UInt8 := [13, 10, 13, 10]
def lowB (c : UInt8) : UInt8 := if 65 ≤ c.toNat ∧ c.toNat ≤ 90 then c + 32 else c
def nameLen : List UInt8 := [99, 111, 110, 116, 101, 110, 116, 45, 108, 101, 110, 103, 116, 104]
def nameTyp : List UInt8 := [99, 111, 110, 116, 101, 110, 116, 45, 116, 121, 112, 101]
def isDig (c : UInt8) : Bool := decide (48 ≤ c.toNat ∧ c.toNat ≤ 57)
def decV : List UInt8 → Nat → Nat
  | [], n => n
  | c :: t, n => decV t (10 * n + (c.toNat - 48))
/-- behind the blanks ahead -/
def skip (v : List UInt8) : List UInt8 := v.dropWhile fun c => c == 32
def numV (v : List UInt8) : Int := if skip v = [] ∨ 18 < (skip v).length ∨ (skip v).all isDig = false then -1 else (decV (skip v) 0 : Nat)
def plainB (v : List UInt8) : Bool := v.all fun c => decide (32 ≤ c.toNat ∧ c.toNat ≤ 126)
/-- a line's value, if it has this name -/
def named (l name : List UInt8) : Option (List UInt8) := if (l.take name.length).map lowB = name ∧ l[name.length]? = some 58 then some (l.drop (name.length + 1)) else none
def headGo : List (List UInt8) → Int → Nat → Int
  | [], n, _ => n
  | l :: t, n, k =>
    match named l nameLen with
    | some v => if n = -1 ∧ numV v ≠ -1 then headGo t (numV v) k else -1
    | none =>
      match named l nameTyp with
      | some v => if k = 0 ∧ plainB v = true then headGo t n (k + 1) else -1
      | none => -1
def lns (s : List UInt8) : List (List UInt8) := splitK crlf 0 s.length s
/-- how long a head says that the body is -/
def headL (s : List UInt8) : Int := headGo (lns s) (-1) 0
def endAt (h : List UInt8) : Int := index (h.take 1024) end4
structure Nxt where
  body : List UInt8
  ok : Bool
  err : Nat
  held : List UInt8
deriving DecidableEq
def nextV (h : List UInt8) : Nxt :=
  if endAt h < 0 then ⟨[], false, if 1024 ≤ h.length then 4 else 0, h⟩
  else if headL (h.take (endAt h).toNat) < 0 then ⟨[], false, 4, h⟩
  else if 262144 < headL (h.take (endAt h).toNat) then ⟨[], false, 3, h⟩
  else if h.length < (endAt h).toNat + 4 + (headL (h.take (endAt h).toNat)).toNat then ⟨[], false, 0, h⟩
  else ⟨(h.drop ((endAt h).toNat + 4)).take (headL (h.take (endAt h).toNat)).toNat, true, 0, h.drop ((endAt h).toNat + 4 + (headL (h.take (endAt h).toNat)).toNat)⟩
def putL (b : List UInt8) : List UInt8 := [67, 111, 110, 116, 101, 110, 116, 45, 76, 101, 110, 103, 116, 104, 58, 32] ++ itoa b.length ++ end4 ++ b

/-- all that comes out -/
inductive Dr : List UInt8 → List (List UInt8) → Nat → List UInt8 → Prop
  | stop {h : List UInt8} {e : Nat} (h1 : (nextV h).ok = false) (h2 : (nextV h).err = e) : Dr h [] e h
  | step {h h' : List UInt8} {bs : List (List UInt8)} {e : Nat} (h1 : (nextV h).ok = true) (h2 : Dr (nextV h).held bs e h') : Dr h ((nextV h).body :: bs) e h'

theorem occ_at {s sub : List UInt8} {i : Nat} : occAt s sub i = true ↔ (s.drop i).take sub.length = sub ∧ (s.drop i).length ≥ sub.length := by
  unfold occAt
  rw [List.isPrefixOf_iff_prefix]
  constructor
  · rintro ⟨t, ht⟩
    rw [← ht]
    simp
  · rintro ⟨h1, _⟩
    exact ⟨(s.drop i).drop sub.length, by conv => rhs; rw [← List.take_append_drop sub.length (s.drop i), h1]⟩
/-- the first end of a head -/
theorem end_at (h : List UInt8) : (endAt h = -1 ∧ ∀ j, j + 4 ≤ 1024 → j + 4 ≤ h.length → (h.drop j).take 4 ≠ end4) ∨
    ∃ i : Nat, endAt h = i ∧ i + 4 ≤ 1024 ∧ i + 4 ≤ h.length ∧ (h.drop i).take 4 = end4 ∧ ∀ j, j < i → (h.drop j).take 4 ≠ end4 := by
  have key : ∀ j, j + 4 ≤ 1024 → j + 4 ≤ h.length → (occAt (h.take 1024) end4 j = true ↔ (h.drop j).take 4 = end4) := by
    intro j h1 h2
    rw [occ_at]
    have e : ((h.take 1024).drop j).take 4 = (h.drop j).take 4 := by
      rw [List.drop_take, List.take_take, show min 4 (1024 - j) = 4 by omega]
    have e4 : end4.length = 4 := rfl
    rw [e4, e, List.length_drop, List.length_take]
    constructor
    · exact fun h => h.1
    · exact fun h => ⟨h, by omega⟩
  have room : ∀ j, occAt (h.take 1024) end4 j = true → j + 4 ≤ 1024 ∧ j + 4 ≤ h.length := by
    intro j hj
    have := (occ_at.1 hj).2
    rw [List.length_drop, List.length_take, show end4.length = 4 from rfl] at this
    omega
  unfold endAt
  rcases index_spec (h.take 1024) end4 with ⟨h1, h2⟩ | ⟨i, h1, _, h3, h4⟩
  · refine .inl ⟨h1, fun j j1 j2 hj => ?_⟩
    have := (key j j1 j2).2 hj
    rw [h2 j (by rw [List.length_take]; omega)] at this
    cases this
  · have hr := room i h3
    refine .inr ⟨i, h1, hr.1, hr.2, (key i hr.1 hr.2).1 h3, fun j hj he => ?_⟩
    have := (key j (by omega) (by omega)).2 he
    rw [h4 j hj] at this
    cases this
theorem end_none {h : List UInt8} (hn : ∀ j, j + 4 ≤ 1024 → j + 4 ≤ h.length → (h.drop j).take 4 ≠ end4) : endAt h = -1 := by
  rcases end_at h with ⟨h1, _⟩ | ⟨i, _, h2, h3, h4, _⟩
  · exact h1
  · exact absurd h4 (hn i h2 h3)
theorem end_some {h : List UInt8} {i : Nat} (h1 : i + 4 ≤ 1024) (h2 : i + 4 ≤ h.length) (h3 : (h.drop i).take 4 = end4) (h4 : ∀ j, j < i → (h.drop j).take 4 ≠ end4) : endAt h = i := by
  rcases end_at h with ⟨_, g⟩ | ⟨k, g1, g2, g3, g4, g5⟩
  · exact absurd h3 (g i h1 h2)
  · rw [g1]
    congr 1
    rcases Nat.lt_trichotomy k i with hk | hk | hk
    · exact absurd g4 (h4 k hk)
    · exact hk
    · exact absurd h3 (g5 i hk)
theorem drop_take_append (h t : List UInt8) (j n : Nat) (hj : j + n ≤ h.length) : ((h ++ t).drop j).take n = (h.drop j).take n := by
  rw [List.drop_append_of_le_length (by omega), List.take_append_of_le_length (by rw [List.length_drop]; omega)]
/-- what has been decided stays -/
theorem end_more (h t : List UInt8) (hd : 0 ≤ endAt h ∨ 1024 ≤ h.length) : endAt (h ++ t) = endAt h := by
  rcases end_at h with ⟨h1, h2⟩ | ⟨i, h1, h2, h3, h4, h5⟩
  · have hl : 1024 ≤ h.length := by omega
    rw [h1]
    exact end_none fun j j1 j2 => by
      rw [drop_take_append h t j 4 (by omega)]
      exact h2 j j1 (by omega)
  · rw [h1]
    refine end_some h2 (by rw [List.length_append]; omega) (by rw [drop_take_append h t i 4 h3]; exact h4) fun j hj => ?_
    rw [drop_take_append h t j 4 (by omega)]
    exact h5 j hj
theorem next_more (h t : List UInt8) (hd : (nextV h).ok = true ∨ (nextV h).err ≠ 0) : nextV (h ++ t) = { nextV h with held := (nextV h).held ++ t } := by
  unfold nextV at hd ⊢
  by_cases h1 : endAt h < 0
  · rw [if_pos h1] at hd
    have hl : 1024 ≤ h.length := by
      by_cases hl : 1024 ≤ h.length
      · exact hl
      · simp [hl] at hd
    rw [end_more h t (.inr hl), if_pos h1, if_pos h1, if_pos hl, if_pos (by rw [List.length_append]; omega)]
  · rw [if_neg h1] at hd
    rw [end_more h t (.inl (by omega)), if_neg h1, if_neg h1]
    obtain ⟨i, hi⟩ : ∃ i : Nat, endAt h = i := ⟨(endAt h).toNat, by omega⟩
    have hroom : i + 4 ≤ h.length := by
      rcases end_at h with ⟨g1, _⟩ | ⟨k, g1, _, g3, _⟩
      · omega
      · omega
    rw [hi] at hd ⊢
    simp only [Int.toNat_natCast] at hd ⊢
    rw [List.take_append_of_le_length (by omega)]
    obtain ⟨n, hn⟩ : ∃ n, headL (h.take i) = n := ⟨_, rfl⟩
    rw [hn] at hd ⊢
    by_cases h2 : n < 0
    · rw [if_pos h2, if_pos h2]
    · rw [if_neg h2] at hd
      rw [if_neg h2, if_neg h2]
      by_cases h3 : 262144 < n
      · rw [if_pos h3, if_pos h3]
      · rw [if_neg h3] at hd
        rw [if_neg h3, if_neg h3]
        by_cases h4 : h.length < i + 4 + n.toNat
        · rw [if_pos h4] at hd
          simp at hd
        · rw [if_neg h4, if_neg (by rw [List.length_append]; omega), drop_take_append h t _ _ (by omega), List.drop_append_of_le_length (by omega)]
theorem next_held (h : List UInt8) (hk : (nextV h).ok = false) : (nextV h).held = h ∧ (nextV h).body = [] := by
  unfold nextV at hk ⊢
  split
  · exact ⟨rfl, rfl⟩
  · rename_i h1
    rw [if_neg h1] at hk
    split
    · exact ⟨rfl, rfl⟩
    · rename_i h2
      rw [if_neg h2] at hk
      split
      · exact ⟨rfl, rfl⟩
      · rename_i h3
        rw [if_neg h3] at hk
        split
        · exact ⟨rfl, rfl⟩
        · rename_i h4
          rw [if_neg h4] at hk
          cases hk
theorem next_ok_err (h : List UInt8) (hk : (nextV h).ok = true) : (nextV h).err = 0 := by
  unfold nextV at hk ⊢
  split
  · rename_i h1; rw [if_pos h1] at hk; cases hk
  · rename_i h1
    rw [if_neg h1] at hk
    split
    · rename_i h2; rw [if_pos h2] at hk; cases hk
    · rename_i h2
      rw [if_neg h2] at hk
      split
      · rename_i h3; rw [if_pos h3] at hk; cases hk
      · rename_i h3
        rw [if_neg h3] at hk
        split
        · rfl
        · rfl
theorem splitK_len (sep : List UInt8) : ∀ (k : Nat) (s : List UInt8), ∀ l ∈ splitK sep 0 k s, l.length ≤ s.length
  | 0, s, l, hl => by
    rw [splitK, List.mem_singleton] at hl
    exact Nat.le_of_eq (by rw [hl])
  | k + 1, s, l, hl => by
    rw [splitK] at hl
    split at hl
    · rw [List.mem_singleton] at hl
      exact Nat.le_of_eq (by rw [hl])
    · rcases List.mem_cons.1 hl with h | h
      · rw [h, List.length_take]; omega
      · have := splitK_len sep k _ l h
        rw [List.length_drop] at this
        omega
theorem skip_len (v : List UInt8) : (skip v).length ≤ v.length := by
  unfold skip
  exact (List.dropWhile_sublist _).length_le
theorem numV_pos {v : List UInt8} (h : numV v ≠ -1) : 1 ≤ v.length := by
  unfold numV at h
  split at h
  · exact absurd rfl h
  · rename_i h1
    have h2 : skip v ≠ [] := fun e => h1 (.inl e)
    have := skip_len v
    have := List.length_pos_iff.2 h2
    omega
theorem numV_ge (v : List UInt8) : -1 ≤ numV v := by
  unfold numV
  split <;> omega
theorem headGo_ge : ∀ (ls : List (List UInt8)) (n : Int) (k : Nat), -1 ≤ n → -1 ≤ headGo ls n k
  | [], n, k, h => h
  | l :: t, n, k, h => by
    unfold headGo
    split
    · split
      · exact headGo_ge t _ k (numV_ge _)
      · omega
    · split
      · split
        · exact headGo_ge t n _ h
        · omega
      · omega
theorem named_len {l name v : List UInt8} (h : named l name = some v) : v.length + name.length + 1 ≤ l.length := by
  unfold named at h
  split at h
  · rename_i hh
    have := (List.getElem?_eq_some_iff.1 hh.2).1
    cases h
    rw [List.length_drop]
    omega
  · cases h
theorem headGo_len : ∀ (ls : List (List UInt8)) (k : Nat), 0 ≤ headGo ls (-1) k → ∃ l ∈ ls, 16 ≤ l.length
  | [], k, h => by simp [headGo] at h
  | l :: t, k, h => by
    unfold headGo at h
    split at h
    · rename_i v hv
      split at h
      · rename_i h1
        have := named_len hv
        have := numV_pos h1.2
        have e : nameLen.length = 14 := rfl
        exact ⟨l, List.mem_cons_self, by omega⟩
      · omega
    · split at h
      · split at h
        · obtain ⟨l', h1, h2⟩ := headGo_len t _ h
          exact ⟨l', List.mem_cons_of_mem _ h1, h2⟩
        · omega
      · omega
theorem headL_len {s : List UInt8} (h : 0 ≤ headL s) : 16 ≤ s.length := by
  obtain ⟨l, h1, h2⟩ := headGo_len _ _ h
  have := splitK_len crlf _ _ l h1
  omega
/-- what comes out was in, with its head -/
theorem next_size (h : List UInt8) (hk : (nextV h).ok = true) : (nextV h).body.length + (nextV h).held.length + 20 ≤ h.length := by
  unfold nextV at hk ⊢
  split
  · rename_i h1; rw [if_pos h1] at hk; cases hk
  · rename_i h1
    rw [if_neg h1] at hk
    split
    · rename_i h2; rw [if_pos h2] at hk; cases hk
    · rename_i h2
      rw [if_neg h2] at hk
      split
      · rename_i h3; rw [if_pos h3] at hk; cases hk
      · rename_i h3
        rw [if_neg h3] at hk
        split
        · rename_i h4; rw [if_pos h4] at hk; cases hk
        · rename_i h4
          have := headL_len (s := h.take (endAt h).toNat) (by omega)
          rw [List.length_take] at this
          simp only [List.length_take, List.length_drop]
          omega
theorem Dr.size {h h' : List UInt8} {bs : List (List UInt8)} {e : Nat} (d : Dr h bs e h') : (bs.map fun b => b.length + 20).sum + h'.length ≤ h.length := by
  induction d with
  | stop h1 h2 => simp
  | step h1 h2 ih =>
    have := next_size _ h1
    simp only [List.map_cons, List.sum_cons]
    omega
theorem Dr.few {h h' : List UInt8} {bs : List (List UInt8)} {e : Nat} (d : Dr h bs e h') : bs.length * 20 ≤ h.length := by
  induction d with
  | stop h1 h2 => simp
  | step h1 h2 ih =>
    have := next_size _ h1
    simp only [List.length_cons]
    omega
theorem Dr.ex : ∀ (n : Nat) (h : List UInt8), h.length ≤ n → ∃ bs e h', Dr h bs e h'
  | n, h, hn => by
    cases hk : (nextV h).ok with
    | false => exact ⟨_, _, _, .stop hk rfl⟩
    | true =>
      have := next_size h hk
      match n, hn with
      | 0, hn => omega
      | n + 1, hn =>
        obtain ⟨bs, e, h', d⟩ := Dr.ex n (nextV h).held (by omega)
        exact ⟨_, _, _, .step hk d⟩
theorem Dr.det {h h' : List UInt8} {bs : List (List UInt8)} {e : Nat} (d : Dr h bs e h') : ∀ {bs2 : List (List UInt8)} {e2 : Nat} {h2 : List UInt8}, Dr h bs2 e2 h2 → bs = bs2 ∧ e = e2 ∧ h' = h2 := by
  induction d with
  | stop h1 h2 =>
    intro bs2 e2 h3 d2
    cases d2 with
    | stop g1 g2 => exact ⟨rfl, h2.symm.trans g2, rfl⟩
    | step g1 g2 => rw [h1] at g1; cases g1
  | step h1 h2 ih =>
    intro bs2 e2 h3 d2
    cases d2 with
    | stop g1 g2 => rw [h1] at g1; cases g1
    | step g1 g2 =>
      obtain ⟨e1, e2, e3⟩ := ih g2
      exact ⟨by rw [e1], e2, e3⟩
theorem Dr.last {h h' : List UInt8} {bs : List (List UInt8)} {e : Nat} (d : Dr h bs e h') : (nextV h').ok = false ∧ (nextV h').err = e := by
  induction d with
  | stop h1 h2 => exact ⟨h1, h2⟩
  | step h1 h2 ih => exact ih
/-- an error stays, whatever comes behind -/
theorem Dr.more_err {h h' : List UInt8} {bs : List (List UInt8)} {e : Nat} (d : Dr h bs e h') (he : e ≠ 0) (t : List UInt8) : Dr (h ++ t) bs e (h' ++ t) := by
  induction d with
  | @stop h e h1 h2 =>
    have hm := next_more h t (.inr (by rw [h2]; exact he))
    exact .stop (by rw [hm]; exact h1) (by rw [hm]; exact h2)
  | @step h h' bs e h1 h2 ih =>
    have hm := next_more h t (.inl h1)
    have := Dr.step (h := h ++ t) (h' := h' ++ t) (bs := bs) (e := e) (by rw [hm]; exact h1) (by rw [hm]; exact ih he)
    rw [hm] at this
    exact this
theorem Dr.more {h h' : List UInt8} {bs : List (List UInt8)} {e : Nat} (d : Dr h bs e h') (t : List UInt8) {bs2 : List (List UInt8)} {e2 : Nat} {h2 : List UInt8} (d2 : Dr (h' ++ t) bs2 e2 h2) : Dr (h ++ t) (bs ++ bs2) e2 h2 := by
  induction d with
  | stop _ _ => exact d2
  | @step h h' bs e h1 _ ih =>
    have hm := next_more h t (.inl h1)
    have := Dr.step (h := h ++ t) (h' := h2) (bs := bs ++ bs2) (e := e2) (by rw [hm]; exact h1) (by rw [hm]; exact ih d2)
    rw [hm] at this
    exact this
end Go.Proofs.Fr
