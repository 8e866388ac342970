/- Merged texts: Plain, Plain2, Plain3, Lin, W4, X1, X2, X3, X4, X5, X7, Z2. -/
import Derived.Lib.ValidLaws
import Derived.Lib.RuneBytes
import Derived.Lib.TrimUEq
import Derived.Lib.DecodeN
import Derived.Lib.IndexAny
import Derived.Test.YtcenfckjkboabaaGreatDoorShelf
import Derived.WalkKit
import Derived.WalkSpells
import Derived.WalkLawsBesides
import Derived.Laws.RangeString
import Derived.Laws.RangeAny
import Derived.LoopTactic
import Derived.Lib.Hide
import Derived.Laws.Runes
import Derived.LoopN
import Derived.Deep.QuietTactic
import Derived.BigQuiet
import Derived.Scope
import Derived.RangeFuncRecord
import Derived.RangeFuncKeeps
import Derived.RangeFuncBox
import Derived.RangeFuncNested
import Derived.RangeFuncFrom
import Derived.RangeFuncLeaves
import Derived.RangeFuncCalls
import Derived.Shelf.Abstract
import Derived.Shelf.RegionOpen
import Derived.OwnWalkIn
import Derived.TacticsInMore
import Derived.LoopNIn
import Derived.LoopIn
import Derived.Deep.RegionHeld3
/- Plain: Plain laws on points and their bytes: what a text's pieces are, what the document's search for a point's bytes finds. No program in sight. -/
namespace Go.Proofs.Utf
open Go.Lib

/-- a number that is a point -/
def IsPoint (n : Int) : Prop := 0 ≤ n ∧ n ≤ 1114111 ∧ (n < 55296 ∨ 57343 < n)
instance (n : Int) : Decidable (IsPoint n) := by unfold IsPoint; infer_instance

/-- the point at the head of bytes, or -1 -/
def headP (l : List UInt8) : Int := if (decodeL l).1 = 65533 ∧ (decodeL l).2 = 1 then -1 else ((decodeL l).1 : Int)
def headW (l : List UInt8) : Nat := (decodeL l).2
def wt (r : Nat) : Nat := if 65535 < r then 2 else 1

theorem wt_pos (r : Nat) : 1 ≤ wt r := by unfold wt; split <;> omega
theorem wt_le (r : Nat) : wt r ≤ 2 := by unfold wt; split <;> omega

/-- what the reference's Decode tries: the number that `long` bytes spell -/
def cand (long b0 b1 b2 b3 : Nat) : Nat :=
  if long = 1 then b0 else if long = 2 then b0 % 32 * 64 + b1 % 64 else if long = 3 then b0 % 16 * 4096 + b1 % 64 * 64 + b2 % 64
  else b0 % 8 * 262144 + b1 % 64 * 4096 + b2 % 64 * 64 + b3 % 64

theorem toU8 (x : Int) (b : UInt8) (h0 : 0 ≤ x) (h1 : x < 256) : x.toNat.toUInt8 = b ↔ x = b.toNat := by
  constructor
  · intro h
    subst h
    simp
    omega
  · intro h
    subst h
    simp

theorem enc1 (n : Int) (h : 0 ≤ n ∧ n ≤ 127) : encodeRune n = [n.toNat.toUInt8] := by simp [encodeRune, encodeRuneZ, h]
theorem enc2 (n : Int) (h : 128 ≤ n ∧ n ≤ 2047) : encodeRune n = [(192 + n / 64).toNat.toUInt8, (128 + n % 64).toNat.toUInt8] := by
  simp [encodeRune, encodeRuneZ_two h.1 h.2]
theorem enc3 (n : Int) (h : (2048 ≤ n ∧ n < 55296) ∨ (57343 < n ∧ n ≤ 65535)) :
    encodeRune n = [(224 + n / 4096).toNat.toUInt8, (128 + n / 64 % 64).toNat.toUInt8, (128 + n % 64).toNat.toUInt8] := by
  simp [encodeRune, encodeRuneZ_three h]
theorem enc4 (n : Int) (h : 65536 ≤ n ∧ n ≤ 1114111) :
    encodeRune n = [(240 + n / 262144).toNat.toUInt8, (128 + n / 4096 % 64).toNat.toUInt8, (128 + n / 64 % 64).toNat.toUInt8, (128 + n % 64).toNat.toUInt8] := by
  simp [encodeRune, encodeRuneZ_four h.1 h.2]

theorem len_cases (n : Int) (hp : IsPoint n) : (n ≤ 127 ∧ (encodeRune n).length = 1) ∨ (128 ≤ n ∧ n ≤ 2047 ∧ (encodeRune n).length = 2) ∨
    (((2048 ≤ n ∧ n < 55296) ∨ (57343 < n ∧ n ≤ 65535)) ∧ (encodeRune n).length = 3) ∨ (65536 ≤ n ∧ (encodeRune n).length = 4) := by
  obtain ⟨h0, h1, h2⟩ := hp
  by_cases a : n ≤ 127
  · exact .inl ⟨a, by rw [enc1 n ⟨h0, a⟩]; rfl⟩
  by_cases b : n ≤ 2047
  · exact .inr (.inl ⟨by omega, b, by rw [enc2 n ⟨by omega, b⟩]; rfl⟩)
  by_cases c : n ≤ 65535
  · have h3 : (2048 ≤ n ∧ n < 55296) ∨ (57343 < n ∧ n ≤ 65535) := by omega
    exact .inr (.inr (.inl ⟨h3, by rw [enc3 n h3]; rfl⟩))
  · exact .inr (.inr (.inr ⟨by omega, by rw [enc4 n ⟨by omega, h1⟩]; rfl⟩))

/-- one byte -/
theorem hit1 (b0 : UInt8) : (IsPoint (cand 1 b0.toNat 0 0 0) ∧ encodeRune (cand 1 b0.toNat 0 0 0) = [b0]) ↔ b0.toNat < 128 := by
  have := b0.toNat_lt
  simp only [cand, if_pos]
  constructor
  · rintro ⟨hp, he⟩
    rcases len_cases _ hp with ⟨h, _⟩ | ⟨_, _, h⟩ | ⟨_, h⟩ | ⟨_, h⟩
    · omega
    all_goals rw [he] at h; simp at h
  · intro h
    have hp : IsPoint (b0.toNat : Int) := ⟨by omega, by omega, by omega⟩
    refine ⟨hp, ?_⟩
    rw [enc1 _ ⟨by omega, by omega⟩]
    simp
theorem hit2 (b0 b1 : UInt8) : (IsPoint (cand 2 b0.toNat b1.toNat 0 0) ∧ encodeRune (cand 2 b0.toNat b1.toNat 0 0) = [b0, b1]) ↔
    (b0.toNat / 32 = 6 ∧ b1.toNat / 64 = 2 ∧ b0.toNat % 32 * 64 + b1.toNat % 64 ≥ 128) := by
  have := b0.toNat_lt
  have := b1.toNat_lt
  have hc : cand 2 b0.toNat b1.toNat 0 0 = b0.toNat % 32 * 64 + b1.toNat % 64 := by simp [cand]
  rw [hc]
  generalize hn : b0.toNat % 32 * 64 + b1.toNat % 64 = n
  constructor
  · rintro ⟨hp, he⟩
    rcases len_cases _ hp with ⟨_, h⟩ | ⟨h1, h2, _⟩ | ⟨_, h⟩ | ⟨_, h⟩
    · rw [he] at h; simp at h
    · rw [enc2 _ ⟨h1, h2⟩] at he
      simp only [List.cons.injEq, and_true] at he
      obtain ⟨e0, e1⟩ := he
      rw [toU8 _ _ (by omega) (by omega)] at e0 e1
      omega
    all_goals rw [he] at h; simp at h
  · rintro ⟨h1, h2, h3⟩
    have hp : IsPoint (n : Int) := ⟨by omega, by omega, by omega⟩
    refine ⟨hp, ?_⟩
    rw [enc2 _ ⟨by omega, by omega⟩]
    simp only [List.cons.injEq, and_true]
    rw [toU8 _ _ (by omega) (by omega), toU8 _ _ (by omega) (by omega)]
    omega
theorem hit3 (b0 b1 b2 : UInt8) : (IsPoint (cand 3 b0.toNat b1.toNat b2.toNat 0) ∧ encodeRune (cand 3 b0.toNat b1.toNat b2.toNat 0) = [b0, b1, b2]) ↔
    (b0.toNat / 16 = 14 ∧ b1.toNat / 64 = 2 ∧ b2.toNat / 64 = 2 ∧ b0.toNat % 16 * 4096 + b1.toNat % 64 * 64 + b2.toNat % 64 ≥ 2048 ∧
      (b0.toNat % 16 * 4096 + b1.toNat % 64 * 64 + b2.toNat % 64 < 55296 ∨ (57344 ≤ b0.toNat % 16 * 4096 + b1.toNat % 64 * 64 + b2.toNat % 64 ∧ b0.toNat % 16 * 4096 + b1.toNat % 64 * 64 + b2.toNat % 64 ≤ 1114111))) := by
  have := b0.toNat_lt
  have := b1.toNat_lt
  have := b2.toNat_lt
  have hc : cand 3 b0.toNat b1.toNat b2.toNat 0 = b0.toNat % 16 * 4096 + b1.toNat % 64 * 64 + b2.toNat % 64 := by simp [cand]
  rw [hc]
  generalize hn : b0.toNat % 16 * 4096 + b1.toNat % 64 * 64 + b2.toNat % 64 = n
  constructor
  · rintro ⟨hp, he⟩
    rcases len_cases _ hp with ⟨_, h⟩ | ⟨_, _, h⟩ | ⟨h3, _⟩ | ⟨_, h⟩
    · rw [he] at h; simp at h
    · rw [he] at h; simp at h
    · rw [enc3 _ h3] at he
      simp only [List.cons.injEq, and_true] at he
      obtain ⟨e0, e1, e2⟩ := he
      rw [toU8 _ _ (by omega) (by omega)] at e0 e1 e2
      omega
    · rw [he] at h; simp at h
  · rintro ⟨h1, h2, h3, h4, h5⟩
    have hp : IsPoint (n : Int) := ⟨by omega, by omega, by omega⟩
    refine ⟨hp, ?_⟩
    rw [enc3 _ (by omega)]
    simp only [List.cons.injEq, and_true]
    rw [toU8 _ _ (by omega) (by omega), toU8 _ _ (by omega) (by omega), toU8 _ _ (by omega) (by omega)]
    omega
theorem hit4 (b0 b1 b2 b3 : UInt8) : (IsPoint (cand 4 b0.toNat b1.toNat b2.toNat b3.toNat) ∧ encodeRune (cand 4 b0.toNat b1.toNat b2.toNat b3.toNat) = [b0, b1, b2, b3]) ↔
    (b0.toNat / 8 = 30 ∧ b1.toNat / 64 = 2 ∧ b2.toNat / 64 = 2 ∧ b3.toNat / 64 = 2 ∧ b0.toNat % 8 * 262144 + b1.toNat % 64 * 4096 + b2.toNat % 64 * 64 + b3.toNat % 64 ≥ 65536 ∧
      b0.toNat % 8 * 262144 + b1.toNat % 64 * 4096 + b2.toNat % 64 * 64 + b3.toNat % 64 ≤ 1114111) := by
  have := b0.toNat_lt
  have := b1.toNat_lt
  have := b2.toNat_lt
  have := b3.toNat_lt
  have hc : cand 4 b0.toNat b1.toNat b2.toNat b3.toNat = b0.toNat % 8 * 262144 + b1.toNat % 64 * 4096 + b2.toNat % 64 * 64 + b3.toNat % 64 := by simp [cand]
  rw [hc]
  generalize hn : b0.toNat % 8 * 262144 + b1.toNat % 64 * 4096 + b2.toNat % 64 * 64 + b3.toNat % 64 = n
  constructor
  · rintro ⟨hp, he⟩
    have hle : (n : Int) ≤ 1114111 := hp.2.1
    rcases len_cases _ hp with ⟨_, h⟩ | ⟨_, _, h⟩ | ⟨_, h⟩ | ⟨h3, _⟩
    · rw [he] at h; simp at h
    · rw [he] at h; simp at h
    · rw [he] at h; simp at h
    · rw [enc4 _ ⟨h3, hle⟩] at he
      simp only [List.cons.injEq, and_true] at he
      obtain ⟨e0, e1, e2, e3⟩ := he
      rw [toU8 _ _ (by omega) (by omega)] at e0 e1 e2 e3
      omega
  · rintro ⟨h1, h2, h3, h4, h5, h6⟩
    have hp : IsPoint (n : Int) := ⟨by omega, by omega, by omega⟩
    refine ⟨hp, ?_⟩
    rw [enc4 _ ⟨by omega, by omega⟩]
    simp only [List.cons.injEq, and_true]
    rw [toU8 _ _ (by omega) (by omega), toU8 _ _ (by omega) (by omega), toU8 _ _ (by omega) (by omega), toU8 _ _ (by omega) (by omega)]
    omega

/-- the number that the first k bytes spell -/
def candL (l : List UInt8) (k : Nat) : Nat := cand k (l.getD 0 0).toNat (l.getD 1 0).toNat (l.getD 2 0).toNat (l.getD 3 0).toNat
def Hit (l : List UInt8) (k : Nat) : Prop := IsPoint (candL l k) ∧ encodeRune (candL l k) = l.take k
instance (l : List UInt8) (k : Nat) : Decidable (Hit l k) := by unfold Hit; infer_instance

theorem take1 (l : List UInt8) (h : 1 ≤ l.length) : l.take 1 = [l.getD 0 0] := by
  match l, h with
  | [a], _ => simp
  | a :: b :: t, _ => simp
theorem take2 (l : List UInt8) (h : 2 ≤ l.length) : l.take 2 = [l.getD 0 0, l.getD 1 0] := by
  match l, h with
  | a :: b :: t, _ => simp
theorem take3 (l : List UInt8) (h : 3 ≤ l.length) : l.take 3 = [l.getD 0 0, l.getD 1 0, l.getD 2 0] := by
  match l, h with
  | a :: b :: c :: t, _ => simp
theorem take4 (l : List UInt8) (h : 4 ≤ l.length) : l.take 4 = [l.getD 0 0, l.getD 1 0, l.getD 2 0, l.getD 3 0] := by
  match l, h with
  | a :: b :: c :: d :: t, _ => simp
theorem cand1 (a b c d : Nat) : cand 1 a b c d = cand 1 a 0 0 0 := by simp [cand]
theorem cand2 (a b c d : Nat) : cand 2 a b c d = cand 2 a b 0 0 := by simp [cand]
theorem cand3 (a b c d : Nat) : cand 3 a b c d = cand 3 a b c 0 := by simp [cand]
theorem Hit1 (l : List UInt8) (h : 1 ≤ l.length) : Hit l 1 ↔ (l.getD 0 0).toNat < 128 := by
  unfold Hit candL; rw [cand1, take1 l h]; exact hit1 _
theorem Hit2 (l : List UInt8) (h : 2 ≤ l.length) : Hit l 2 ↔ ((l.getD 0 0).toNat / 32 = 6 ∧ (l.getD 1 0).toNat / 64 = 2 ∧ (l.getD 0 0).toNat % 32 * 64 + (l.getD 1 0).toNat % 64 ≥ 128) := by
  unfold Hit candL; rw [cand2, take2 l h]; exact hit2 _ _
theorem Hit3 (l : List UInt8) (h : 3 ≤ l.length) : Hit l 3 ↔ ((l.getD 0 0).toNat / 16 = 14 ∧ (l.getD 1 0).toNat / 64 = 2 ∧ (l.getD 2 0).toNat / 64 = 2 ∧ (l.getD 0 0).toNat % 16 * 4096 + (l.getD 1 0).toNat % 64 * 64 + (l.getD 2 0).toNat % 64 ≥ 2048 ∧ ((l.getD 0 0).toNat % 16 * 4096 + (l.getD 1 0).toNat % 64 * 64 + (l.getD 2 0).toNat % 64 < 55296 ∨ (57344 ≤ (l.getD 0 0).toNat % 16 * 4096 + (l.getD 1 0).toNat % 64 * 64 + (l.getD 2 0).toNat % 64 ∧ (l.getD 0 0).toNat % 16 * 4096 + (l.getD 1 0).toNat % 64 * 64 + (l.getD 2 0).toNat % 64 ≤ 1114111))) := by
  unfold Hit candL; rw [cand3, take3 l h]; exact hit3 _ _ _
theorem Hit4 (l : List UInt8) (h : 4 ≤ l.length) : Hit l 4 ↔ ((l.getD 0 0).toNat / 8 = 30 ∧ (l.getD 1 0).toNat / 64 = 2 ∧ (l.getD 2 0).toNat / 64 = 2 ∧ (l.getD 3 0).toNat / 64 = 2 ∧ (l.getD 0 0).toNat % 8 * 262144 + (l.getD 1 0).toNat % 64 * 4096 + (l.getD 2 0).toNat % 64 * 64 + (l.getD 3 0).toNat % 64 ≥ 65536 ∧ (l.getD 0 0).toNat % 8 * 262144 + (l.getD 1 0).toNat % 64 * 4096 + (l.getD 2 0).toNat % 64 * 64 + (l.getD 3 0).toNat % 64 ≤ 1114111) := by
  unfold Hit candL; rw [take4 l h]; exact hit4 _ _ _ _

theorem found (l : List UInt8) (k : Nat) (h1 : 1 ≤ k) (h4 : k ≤ 4) (hl : k ≤ l.length) (hh : Hit l k) : decodeL l = (candL l k, k) := by
  rw [decodeL_N]
  have hb0 := (l.getD 0 0).toNat_lt
  have hb1 := (l.getD 1 0).toNat_lt
  have hb2 := (l.getD 2 0).toNat_lt
  have hb3 := (l.getD 3 0).toNat_lt
  rcases (show k = 1 ∨ k = 2 ∨ k = 3 ∨ k = 4 from by omega) with rfl | rfl | rfl | rfl
  · have := (Hit1 l hl).1 hh
    unfold candL
    generalize (l.getD 0 0).toNat = a at *
    simp [decodeN, cand, this]
  · have := (Hit2 l hl).1 hh
    unfold candL
    generalize (l.getD 0 0).toNat = a at *
    generalize (l.getD 1 0).toNat = b at *
    obtain ⟨e1, e2, e3⟩ := this
    simp only [decodeN, cand]
    rw [if_neg (by omega), if_pos (by omega), if_pos e3]
    simp
  · have := (Hit3 l hl).1 hh
    unfold candL
    generalize (l.getD 0 0).toNat = a at *
    generalize (l.getD 1 0).toNat = b at *
    generalize (l.getD 2 0).toNat = c at *
    obtain ⟨e1, e2, e3, e4, e5⟩ := this
    simp only [decodeN, cand]
    rw [if_neg (by omega), if_neg (by omega), if_pos (by omega), if_pos ⟨e4, e5⟩]
    simp
  · have := (Hit4 l hl).1 hh
    unfold candL
    generalize (l.getD 0 0).toNat = a at *
    generalize (l.getD 1 0).toNat = b at *
    generalize (l.getD 2 0).toNat = c at *
    generalize (l.getD 3 0).toNat = d at *
    obtain ⟨e1, e2, e3, e4, e5, e6⟩ := this
    simp only [decodeN, cand]
    rw [if_neg (by omega), if_neg (by omega), if_neg (by omega), if_pos (by omega), if_pos ⟨e5, by omega⟩]
    simp
theorem missed (l : List UInt8) (h0 : 1 ≤ l.length) (h : ∀ k, 1 ≤ k → k ≤ 4 → k ≤ l.length → ¬ Hit l k) : decodeL l = (65533, 1) := by
  rw [decodeL_N]
  have hb0 := (l.getD 0 0).toNat_lt
  have n1 := mt (Hit1 l h0).2 (h 1 (by omega) (by omega) h0)
  have n2 : 2 ≤ l.length → _ := fun hl => mt (Hit2 l hl).2 (h 2 (by omega) (by omega) hl)
  have n3 : 3 ≤ l.length → _ := fun hl => mt (Hit3 l hl).2 (h 3 (by omega) (by omega) hl)
  have n4 : 4 ≤ l.length → _ := fun hl => mt (Hit4 l hl).2 (h 4 (by omega) (by omega) hl)
  generalize (l.getD 0 0).toNat = a at *
  generalize (l.getD 1 0).toNat = b at *
  generalize (l.getD 2 0).toNat = c at *
  generalize (l.getD 3 0).toNat = d at *
  generalize l.length = n at *
  simp only [decodeN]
  rw [if_neg n1]
  split
  · rename_i hh
    rw [if_neg (fun hc => n2 (by omega) ⟨hh.1, hh.2.2, hc⟩)]
  split
  · rename_i hh
    rw [if_neg (fun hc => n3 (by omega) ⟨hh.1, hh.2.1.2, hh.2.2.2, hc.1, hc.2⟩)]
  split
  · rename_i hh
    rw [if_neg (fun hc => n4 (by omega) ⟨hh.1, hh.2.1.2, hh.2.2.1.2, hh.2.2.2.2, hc.1, by omega⟩)]
  rfl
theorem cand_ne (l : List UInt8) (k : Nat) (h1 : 1 ≤ k) (h4 : k ≤ 4) (hl : k ≤ l.length) (hh : Hit l k) : ¬ (candL l k = 65533 ∧ k = 1) := by
  rintro ⟨h, rfl⟩
  have := (Hit1 l hl).1 hh
  simp [candL, cand] at h
  simp at this
  omega
theorem head_found (l : List UInt8) (k : Nat) (h1 : 1 ≤ k) (h4 : k ≤ 4) (hl : k ≤ l.length) (hh : Hit l k) : headP l = candL l k ∧ headW l = k := by
  have := cand_ne l k h1 h4 hl hh
  unfold headP headW
  rw [found l k h1 h4 hl hh, if_neg this]
  exact ⟨rfl, rfl⟩
theorem head_missed (l : List UInt8) (h0 : 1 ≤ l.length) (h : ∀ k, 1 ≤ k → k ≤ 4 → k ≤ l.length → ¬ Hit l k) : headP l = -1 ∧ headW l = 1 := by
  unfold headP headW
  rw [missed l h0 h]
  simp

/-! ### a text's pieces: the width and the number of each -/
def isPt (l : List UInt8) : Bool := decide (¬ ((decodeL l).1 = 65533 ∧ (decodeL l).2 = 1))
theorem isPt_yes (l : List UInt8) (h : isPt l = true) : headP l = ((decodeL l).1 : Int) := by
  unfold isPt at h; unfold headP; rw [if_neg (of_decide_eq_true h)]
theorem isPt_no (l : List UInt8) (h : isPt l = false) : headP l = -1 ∧ headW l = 1 := by
  unfold isPt at h
  have h' : (decodeL l).1 = 65533 ∧ (decodeL l).2 = 1 := by simpa using h
  exact ⟨by unfold headP; rw [if_pos h'], h'.2⟩
theorem headW_pos (l : List UInt8) : 1 ≤ headW l := decodeL_width l
theorem decodeN_le (n a b c d : Nat) (hn : 1 ≤ n) : (decodeN n a b c d).2 ≤ n := by
  unfold decodeN
  repeat' split
  all_goals simp only []
  all_goals omega
theorem headW_le (l : List UInt8) (h : 1 ≤ l.length) : headW l ≤ l.length := by
  unfold headW; rw [decodeL_N]; exact decodeN_le _ _ _ _ _ h
theorem decodeN_wt (n a b c d : Nat) (ha : a < 256) : wt (decodeN n a b c d).1 ≤ (decodeN n a b c d).2 := by
  unfold decodeN wt
  repeat' split
  all_goals simp only [] at *
  all_goals omega
theorem wt_le_headW (l : List UInt8) : wt (decodeL l).1 ≤ headW l := by
  unfold headW; rw [decodeL_N]; exact decodeN_wt _ _ _ _ _ (UInt8.toNat_lt _)
theorem decodeN_le4 (n a b c d : Nat) : (decodeN n a b c d).2 ≤ 4 := by
  unfold decodeN
  repeat' split
  all_goals simp only []
  all_goals omega
theorem headW_le4 (l : List UInt8) : headW l ≤ 4 := by
  unfold headW; rw [decodeL_N]; exact decodeN_le4 _ _ _ _ _

def pcs : Nat → List UInt8 → List (Nat × Nat)
  | 0, _ => []
  | n + 1, l => if l = [] then [] else (headW l, (decodeL l).1) :: pcs n (l.drop (headW l))
def pieces (l : List UInt8) : List (Nat × Nat) := pcs l.length l
theorem pcs_nil : ∀ n, pcs n [] = []
  | 0 => rfl
  | _ + 1 => by simp [pcs]
theorem pcs_fuel : ∀ (n m : Nat) (l : List UInt8), l.length ≤ n → l.length ≤ m → pcs n l = pcs m l
  | 0, m, l, hn, _ => by
    have : l = [] := List.eq_nil_of_length_eq_zero (by omega)
    subst this
    rw [pcs_nil, pcs_nil]
  | n + 1, 0, l, _, hm => by
    have : l = [] := List.eq_nil_of_length_eq_zero (by omega)
    subst this
    rw [pcs_nil, pcs_nil]
  | n + 1, m + 1, l, hn, hm => by
    unfold pcs
    by_cases hne : l = []
    · simp [hne]
    · have hw := headW_pos l
      have hl : 0 < l.length := List.length_pos_iff.2 hne
      rw [if_neg hne, if_neg hne, pcs_fuel n m (l.drop (headW l)) (by rw [List.length_drop]; omega) (by rw [List.length_drop]; omega)]
theorem pieces_step (l : List UInt8) (h : l ≠ []) : pieces l = (headW l, (decodeL l).1) :: pieces (l.drop (headW l)) := by
  have hl : 0 < l.length := List.length_pos_iff.2 h
  have hw := headW_pos l
  obtain ⟨n, hn⟩ : ∃ n, l.length = n + 1 := ⟨l.length - 1, by omega⟩
  unfold pieces
  rw [hn]
  show (if l = [] then [] else _) = _
  rw [if_neg h, pcs_fuel n (l.drop (headW l)).length _ (by rw [List.length_drop]; omega) (Nat.le_refl _)]
theorem pieces_nil : pieces [] = [] := rfl

/-- the units of pieces -/
def unitsP : List (Nat × Nat) → Nat
  | [] => 0
  | (_, r) :: t => wt r + unitsP t
/-- where the piece of a unit begins: `pos`, `acc`: what lies ahead -/
def byteP : List (Nat × Nat) → Nat → Nat → Int → Nat
  | [], pos, _, _ => pos
  | (w, r) :: t, pos, acc, want => if want < ((acc + wt r : Nat) : Int) then pos else byteP t (pos + w) (acc + wt r) want
/-- the units ahead of a place, as the program reckons them -/
def uaP : List (Nat × Nat) → Nat → Nat → Nat → Int → Nat
  | [], pos, n, last, a => if a < (pos : Int) then n - last else n
  | (w, r) :: t, pos, n, last, a => if a < (pos : Int) then n - last else if (pos : Int) = a then n else uaP t (pos + w) (n + wt r) (wt r) a
def widthP : List (Nat × Nat) → Nat
  | [] => 0
  | (w, _) :: t => w + widthP t
theorem widthP_pieces : ∀ (k : Nat) (l : List UInt8), l.length ≤ k → widthP (pieces l) = l.length
  | 0, l, h => by
    have : l = [] := List.eq_nil_of_length_eq_zero (by omega)
    subst this; rfl
  | k + 1, l, h => by
    by_cases hne : l = []
    · subst hne; rfl
    · have hl : 0 < l.length := List.length_pos_iff.2 hne
      have h1 := headW_pos l
      have h2 := headW_le l hl
      rw [pieces_step l hne]
      simp only [widthP]
      rw [widthP_pieces k _ (by rw [List.length_drop]; omega), List.length_drop]
      omega
theorem unitsP_le : ∀ (k : Nat) (l : List UInt8), l.length ≤ k → unitsP (pieces l) ≤ l.length
  | 0, l, h => by
    have : l = [] := List.eq_nil_of_length_eq_zero (by omega)
    subst this; exact Nat.le_refl _
  | k + 1, l, h => by
    by_cases hne : l = []
    · subst hne; exact Nat.le_refl _
    · have hl : 0 < l.length := List.length_pos_iff.2 hne
      have h1 := headW_pos l
      have h2 := headW_le l hl
      have h3 := wt_le_headW l
      have := unitsP_le k (l.drop (headW l)) (by rw [List.length_drop]; omega)
      rw [pieces_step l hne]
      simp only [unitsP]
      rw [List.length_drop] at this
      omega

/-- the pieces of a text from a place on, for a walk over it -/
def from_ (s : ByteArray) (pos : Nat) : List (Nat × Nat) := pieces (s.data.toList.drop pos)
theorem from_step (s : ByteArray) (pos : Nat) (h : pos < s.size) : from_ s pos = ((Utf8.decode s pos).2, (Utf8.decode s pos).1) :: from_ s (pos + (Utf8.decode s pos).2) := by
  unfold from_
  rw [pieces_step _ (by intro e; have := congrArg List.length e; rw [List.length_drop, ← Lib.size_eq] at this; simp at this; omega), List.drop_drop]
  unfold headW
  rw [decodeL_drop]
theorem from_end (s : ByteArray) (pos : Nat) (h : ¬ pos < s.size) : from_ s pos = [] := by
  unfold from_
  rw [List.drop_eq_nil_of_le (by rw [← Lib.size_eq]; omega)]
  rfl
theorem dec_le (s : ByteArray) (pos : Nat) (h : pos < s.size) : pos + (Utf8.decode s pos).2 ≤ s.size := by
  have := headW_le (s.data.toList.drop pos) (by rw [List.length_drop, ← Lib.size_eq]; omega)
  unfold headW at this
  rw [decodeL_drop, List.length_drop, ← Lib.size_eq] at this
  omega
theorem dec_pos (s : ByteArray) (pos : Nat) : 1 ≤ (Utf8.decode s pos).2 := by
  have := headW_pos (s.data.toList.drop pos)
  unfold headW at this
  rwa [decodeL_drop] at this
theorem dec_wt (s : ByteArray) (pos : Nat) : wt (Utf8.decode s pos).1 ≤ (Utf8.decode s pos).2 := by
  have := wt_le_headW (s.data.toList.drop pos)
  unfold headW at this
  rwa [decodeL_drop] at this

/-! ### the number that the reference's loop gathers -/
def startN (k b0 : Nat) : Nat := if k = 1 then b0 else if k = 3 then b0 % 16 else if k = 4 then b0 % 8 else b0 % 32
def gather (l : List UInt8) (k : Nat) : Nat → Nat
  | 0 => 0
  | 1 => startN k (l.getD 0 0).toNat
  | i + 2 => 64 * gather l k (i + 1) + (l.getD (i + 1) 0).toNat % 64
theorem gather_le (l : List UInt8) (k i : Nat) (h : i ≤ 4) : gather l k i ≤ 67108863 := by
  have h1 : gather l k 1 ≤ 255 := by
    have := (l.getD 0 0).toNat_lt
    simp only [gather, startN]
    repeat' split
    all_goals omega
  rcases (show i = 0 ∨ i = 1 ∨ i = 2 ∨ i = 3 ∨ i = 4 from by omega) with rfl | rfl | rfl | rfl | rfl
  · simp [gather]
  · omega
  · show 64 * gather l k 1 + _ ≤ _
    omega
  · show 64 * (64 * gather l k 1 + _) + _ ≤ _
    omega
  · show 64 * (64 * (64 * gather l k 1 + _) + _) + _ ≤ _
    omega
theorem gather_cand (l : List UInt8) (k : Nat) (h1 : 1 ≤ k) (h4 : k ≤ 4) : gather l k k = candL l k := by
  rcases (show k = 1 ∨ k = 2 ∨ k = 3 ∨ k = 4 from by omega) with rfl | rfl | rfl | rfl
  · simp [gather, startN, candL, cand]
  · simp [gather, startN, candL, cand]; omega
  · simp [gather, startN, candL, cand]; omega
  · simp [gather, startN, candL, cand]; omega
theorem gather_succ (l : List UInt8) (k i : Nat) (h : 1 ≤ i) : gather l k (i + 1) = 64 * gather l k i + (l.getD i 0).toNat % 64 := by
  obtain ⟨j, rfl⟩ : ∃ j, i = j + 1 := ⟨i - 1, by omega⟩
  rfl
theorem start1 (l : List UInt8) (k : Nat) (x : UInt8) (h : x = l.getD 0 0) (h1 : 1 ≤ k) (h2 : k ≤ 1) : (x.toNat : Int) = (gather l k 1 : Nat) := by
  obtain rfl : k = 1 := by omega
  rw [h]; simp [gather, startN]
theorem start2 (l : List UInt8) (k : Nat) (x : UInt8) (h : x = l.getD 0 0) (h1 : 2 ≤ k) (h2 : k ≤ 2) : (x.toNat : Int) % 32 = (gather l k 1 : Nat) := by
  obtain rfl : k = 2 := by omega
  rw [h]; simp [gather, startN]
theorem start3 (l : List UInt8) (k : Nat) (x : UInt8) (h : x = l.getD 0 0) (h1 : 3 ≤ k) (h2 : k ≤ 3) : (x.toNat : Int) % 16 = (gather l k 1 : Nat) := by
  obtain rfl : k = 3 := by omega
  rw [h]; simp [gather, startN]
theorem start4 (l : List UInt8) (k : Nat) (x : UInt8) (h : x = l.getD 0 0) (h1 : 4 ≤ k) (h2 : k ≤ 4) : (x.toNat : Int) % 8 = (gather l k 1 : Nat) := by
  obtain rfl : k = 4 := by omega
  rw [h]; simp [gather, startN]

/-! ### the reference's rows: where each piece begins and ends, its units, whether it has a point -/
structure Row where
  from_ : Nat
  to_ : Nat
  units : Nat
  is_ : Bool
def ptP (w r : Nat) : Bool := decide (¬ (r = 65533 ∧ w = 1))
def rowsP : List (Nat × Nat) → Nat → List Row
  | [], _ => []
  | (w, r) :: t, pos => ⟨pos, pos + w, wt r, ptP w r⟩ :: rowsP t (pos + w)
theorem rowsP_length : ∀ (t : List (Nat × Nat)) (pos : Nat), (rowsP t pos).length = t.length
  | [], _ => rfl
  | (w, r) :: t, pos => by simp [rowsP, rowsP_length t]
theorem pieces_length : ∀ (k : Nat) (l : List UInt8), l.length ≤ k → (pieces l).length ≤ l.length
  | 0, l, h => by
    have : l = [] := List.eq_nil_of_length_eq_zero (by omega)
    subst this; exact Nat.le_refl _
  | k + 1, l, h => by
    by_cases hne : l = []
    · subst hne; exact Nat.le_refl _
    · have hl : 0 < l.length := List.length_pos_iff.2 hne
      have h1 := headW_pos l
      have := pieces_length k (l.drop (headW l)) (by rw [List.length_drop]; omega)
      rw [pieces_step l hne]
      rw [List.length_drop] at this
      simp only [List.length_cons]
      omega
theorem headP_int (l : List UInt8) : headP l = if isPt l then ((decodeL l).1 : Int) else -1 := by
  unfold headP isPt
  by_cases h : (decodeL l).1 = 65533 ∧ (decodeL l).2 = 1 <;> simp [h]
theorem isPt_ptP (l : List UInt8) : isPt l = ptP (headW l) (decodeL l).1 := rfl
theorem headP_ge (l : List UInt8) : decide (0 ≤ headP l) = isPt l := by
  rw [headP_int]
  cases isPt l <;> simp
theorem headP_big (l : List UInt8) : 65535 < headP l ↔ 65535 < (decodeL l).1 := by
  unfold headP
  split
  · rename_i h; rw [h.1]; simp
  · omega
theorem headP_le (l : List UInt8) : headP l ≤ 1114111 := by
  have := decodeL_rune l
  unfold headP
  split <;> omega

end Go.Proofs.Utf
/- Plain2: Plain laws on the reference's rows. -/
namespace Go.Proofs.Utf
open Go.Lib
/-! ### what the reference's loops over the rows give -/
def unitsR : List Row → Nat
  | [] => 0
  | r :: t => r.units + unitsR t
def byteR : List Row → Nat → Int → Nat → Nat
  | [], _, _, len => len
  | r :: t, acc, want, len => if (acc : Int) ≤ want ∧ want < (acc : Int) + r.units then r.from_ else byteR t (acc + r.units) want len
def uaR : List Row → Int → Nat
  | [], _ => 0
  | r :: t, a => (if (r.to_ : Int) ≤ a then r.units else 0) + uaR t a
def validR : List Row → Bool
  | [] => true
  | r :: t => r.is_ && validR t
theorem rowsP_units : ∀ (t : List (Nat × Nat)) (pos : Nat) (r : Row), r ∈ rowsP t pos → r.units ≤ 2
  | [], _, r, h => by simp [rowsP] at h
  | (w, x) :: t, pos, r, h => by
    simp only [rowsP, List.mem_cons] at h
    rcases h with rfl | h
    · exact wt_le x
    · exact rowsP_units t _ r h
theorem rowsP_to : ∀ (t : List (Nat × Nat)) (pos : Nat) (r : Row), r ∈ rowsP t pos → r.to_ ≤ pos + widthP t ∧ r.from_ ≤ r.to_
  | [], _, r, h => by simp [rowsP] at h
  | (w, x) :: t, pos, r, h => by
    simp only [rowsP, List.mem_cons] at h
    rcases h with rfl | h
    · simp only [widthP]; omega
    · have := rowsP_to t _ r h
      simp only [widthP]
      omega
theorem flat4 {α β : Type} (f : α → List β) (hf : ∀ a, (f a).length = 4) : ∀ (l : List α) (k : Nat) (h : k < l.length) (j : Nat), j < 4 → (l.flatMap f)[k * 4 + j]? = (f l[k])[j]?
  | [], k, h, _, _ => by simp at h
  | a :: l, 0, _, j, hj => by
    simp only [List.flatMap_cons, Nat.zero_mul, Nat.zero_add, List.getElem_cons_zero]
    rw [List.getElem?_append_left (by rw [hf]; exact hj)]
  | a :: l, k + 1, h, j, hj => by
    simp only [List.flatMap_cons, List.getElem_cons_succ]
    rw [List.getElem?_append_right (by rw [hf]; omega), hf, show (k + 1) * 4 + j - 4 = k * 4 + j from by omega]
    exact flat4 f hf l k (by simpa using h) j hj
theorem drop_at {α : Type} (l : List α) (k : Nat) (h : k < l.length) : l.drop k = l[k] :: l.drop (k + 1) := List.drop_eq_getElem_cons h
end Go.Proofs.Utf
/- Plain3: Plain laws: the program's answers are the reference's; places and units; joined texts; a point's bytes. -/
namespace Go.Proofs.Utf
open Go.Lib

theorem units_eq : ∀ (t : List (Nat × Nat)) (pos : Nat), unitsR (rowsP t pos) = unitsP t
  | [], _ => rfl
  | (w, r) :: t, pos => by simp only [rowsP, unitsR, unitsP]; rw [units_eq t]
theorem byte_eq : ∀ (t : List (Nat × Nat)) (pos acc : Nat) (want : Int), (acc : Int) ≤ want → byteR (rowsP t pos) acc want (pos + widthP t) = byteP t pos acc want
  | [], pos, acc, want, _ => rfl
  | (w, r) :: t, pos, acc, want, h => by
    simp only [rowsP, byteR, byteP, widthP]
    by_cases h2 : want < ((acc + wt r : Nat) : Int)
    · rw [if_pos ⟨h, by omega⟩, if_pos h2]
    · rw [if_neg (by omega), if_neg h2, ← byte_eq t (pos + w) (acc + wt r) want (by omega), Nat.add_assoc]
theorem byte_neg (t : List (Nat × Nat)) (want : Int) (h : want < 0) : byteP t 0 0 want = 0 := by
  cases t with
  | nil => rfl
  | cons x t => obtain ⟨w, r⟩ := x; simp only [byteP]; rw [if_pos (by omega)]
def Wide (t : List (Nat × Nat)) : Prop := ∀ x ∈ t, 1 ≤ x.1 ∧ x.1 ≤ 4
theorem Wide.tail {x : Nat × Nat} {t : List (Nat × Nat)} (h : Wide (x :: t)) : Wide t := fun y hy => h y (List.mem_cons_of_mem _ hy)
theorem Wide.head {x : Nat × Nat} {t : List (Nat × Nat)} (h : Wide (x :: t)) : 1 ≤ x.1 ∧ x.1 ≤ 4 := h x List.mem_cons_self
theorem wide_pieces : ∀ (k : Nat) (l : List UInt8), l.length ≤ k → Wide (pieces l)
  | 0, l, h => by
    have : l = [] := List.eq_nil_of_length_eq_zero (by omega)
    subst this; intro x hx; cases hx
  | k + 1, l, h => by
    by_cases hne : l = []
    · subst hne; intro x hx; cases hx
    · have hl : 0 < l.length := List.length_pos_iff.2 hne
      rw [pieces_step l hne]
      intro x hx
      rcases List.mem_cons.1 hx with rfl | hx
      · exact ⟨headW_pos l, headW_le4 l⟩
      · exact wide_pieces k _ (by rw [List.length_drop]; have := headW_pos l; omega) x hx
theorem ua_zero : ∀ (t : List (Nat × Nat)) (pos : Nat) (a : Int), Wide t → a ≤ pos → uaR (rowsP t pos) a = 0
  | [], _, _, _, _ => rfl
  | (w, r) :: t, pos, a, hw, h => by
    have h1 : 1 ≤ w := hw.head.1
    simp only [rowsP, uaR]
    rw [if_neg (by omega), ua_zero t (pos + w) a hw.tail (by omega)]
theorem ua_past : ∀ (t : List (Nat × Nat)) (pos n last : Nat) (a : Int), a < (pos : Int) → uaP t pos n last a = n - last
  | [], pos, n, last, a, h => by simp only [uaP]; rw [if_pos h]
  | (w, r) :: t, pos, n, last, a, h => by simp only [uaP]; rw [if_pos h]
theorem ua_eq : ∀ (t : List (Nat × Nat)) (pos n last : Nat) (a : Int), Wide t → (pos : Int) ≤ a → uaP t pos n last a = n + uaR (rowsP t pos) a
  | [], pos, n, last, a, _, h => by simp only [uaP, rowsP, uaR]; rw [if_neg (by omega)]; rfl
  | (w, r) :: t, pos, n, last, a, hw, h => by
    have h1 : 1 ≤ w := hw.head.1
    simp only [uaP]
    rw [if_neg (by omega)]
    by_cases he : (pos : Int) = a
    · rw [if_pos he, ua_zero ((w, r) :: t) pos a hw (by omega)]; rfl
    · rw [if_neg he]
      simp only [rowsP, uaR]
      by_cases hc : ((pos + w : Nat) : Int) ≤ a
      · rw [if_pos hc, ua_eq t (pos + w) (n + wt r) (wt r) a hw.tail hc]; omega
      · rw [if_neg hc, ua_past t _ _ _ a (by omega), ua_zero t (pos + w) a hw.tail (by omega)]; omega
theorem ua_same (t : List (Nat × Nat)) (a : Int) (hw : Wide t) : uaP t 0 0 0 a = uaR (rowsP t 0) a := by
  by_cases h : (0 : Int) ≤ a
  · rw [ua_eq t 0 0 0 a hw (by omega), Nat.zero_add]
  · rw [ua_past t 0 0 0 a (by omega), ua_zero t 0 a hw (by omega)]
theorem valid_eq : ∀ (k : Nat) (l : List UInt8) (pos : Nat), l.length ≤ k → validR (rowsP (pieces l) pos) = validD l
  | 0, l, pos, h => by
    have : l = [] := List.eq_nil_of_length_eq_zero (by omega)
    subst this; rfl
  | k + 1, l, pos, h => by
    by_cases hne : l = []
    · subst hne; rfl
    · have hl : 0 < l.length := List.length_pos_iff.2 hne
      rw [pieces_step l hne, validD_step l hne]
      simp only [rowsP, validR, ptP]
      rw [valid_eq k _ _ (by rw [List.length_drop]; have := headW_pos l; omega)]
      unfold headW
      by_cases hh : (decodeL l).1 = 65533 ∧ (decodeL l).2 = 1 <;> simp [hh]

/-! ### places and units, piece by piece -/
def U : List (Nat × Nat) → Nat → Nat
  | [], _ => 0
  | (w, r) :: t, a => if a < w then 0 else wt r + U t (a - w)
def B : List (Nat × Nat) → Nat → Nat
  | [], _ => 0
  | (w, r) :: t, u => if u < wt r then 0 else w + B t (u - wt r)
theorem U_in {w r : Nat} {t : List (Nat × Nat)} {a : Nat} (h : a < w) : U ((w, r) :: t) a = 0 := if_pos h
theorem U_out {w r : Nat} {t : List (Nat × Nat)} {a : Nat} (h : ¬ a < w) : U ((w, r) :: t) a = wt r + U t (a - w) := if_neg h
theorem B_in {w r : Nat} {t : List (Nat × Nat)} {u : Nat} (h : u < wt r) : B ((w, r) :: t) u = 0 := if_pos h
theorem B_out {w r : Nat} {t : List (Nat × Nat)} {u : Nat} (h : ¬ u < wt r) : B ((w, r) :: t) u = w + B t (u - wt r) := if_neg h
theorem ua_U : ∀ (t : List (Nat × Nat)) (pos a : Nat), Wide t → pos ≤ a → uaR (rowsP t pos) a = U t (a - pos)
  | [], _, _, _, _ => rfl
  | (w, r) :: t, pos, a, hw, h => by
    simp only [rowsP, uaR, U]
    by_cases hc : a - pos < w
    · rw [if_neg (by omega), if_pos hc, ua_zero t (pos + w) a hw.tail (by omega)]
    · rw [if_pos (by omega), if_neg hc, ua_U t (pos + w) a hw.tail (by omega), show a - (pos + w) = a - pos - w from by omega]
theorem byte_B : ∀ (t : List (Nat × Nat)) (pos acc want : Nat), acc ≤ want → byteP t pos acc want = pos + B t (want - acc)
  | [], _, _, _, _ => rfl
  | (w, r) :: t, pos, acc, want, h => by
    simp only [byteP, B]
    by_cases hc : want - acc < wt r
    · rw [if_pos (by omega), if_pos hc]; rfl
    · rw [if_neg (by omega), if_neg hc, byte_B t (pos + w) (acc + wt r) want (by omega), show want - (acc + wt r) = want - acc - wt r from by omega]; omega
theorem BU_le : ∀ (t : List (Nat × Nat)) (a : Nat), Wide t → a ≤ widthP t → B t (U t a) ≤ a ∧ a ≤ B t (U t a) + 3
  | [], a, _, h => by simp only [widthP] at h; simp only [B]; omega
  | (w, r) :: t, a, hw, h => by
    have hp := wt_pos r
    have h1 : 1 ≤ w ∧ w ≤ 4 := hw.head
    by_cases hc : a < w
    · rw [U_in hc, B_in (by omega)]; omega
    · rw [U_out hc, B_out (by omega), show wt r + U t (a - w) - wt r = U t (a - w) from by omega]
      simp only [widthP] at h
      have := BU_le t (a - w) hw.tail (by omega)
      omega
theorem UB_le : ∀ (t : List (Nat × Nat)) (u : Nat), Wide t → u ≤ unitsP t → U t (B t u) ≤ u ∧ u ≤ U t (B t u) + 1
  | [], u, _, h => by simp only [unitsP] at h; simp only [U]; omega
  | (w, r) :: t, u, hw, h => by
    have hp := wt_pos r
    have hp2 := wt_le r
    have h1 : 1 ≤ w ∧ w ≤ 4 := hw.head
    by_cases hc : u < wt r
    · rw [B_in hc, U_in (by omega)]; omega
    · rw [B_out hc, U_out (by omega), show w + B t (u - wt r) - w = B t (u - wt r) from by omega]
      simp only [unitsP] at h
      have := UB_le t (u - wt r) hw.tail (by omega)
      omega
theorem UBU : ∀ (t : List (Nat × Nat)) (a : Nat), Wide t → U t (B t (U t a)) = U t a
  | [], a, _ => rfl
  | (w, r) :: t, a, hw => by
    have hp := wt_pos r
    have h1 : 1 ≤ w ∧ w ≤ 4 := hw.head
    by_cases hc : a < w
    · rw [U_in hc, B_in (by omega), U_in (by omega)]
    · rw [U_out hc, B_out (by omega), show wt r + U t (a - w) - wt r = U t (a - w) from by omega, U_out (by omega), show w + B t (U t (a - w)) - w = B t (U t (a - w)) from by omega, UBU t (a - w) hw.tail]
theorem U_mono : ∀ (t : List (Nat × Nat)) (a : Nat), Wide t → U t a ≤ U t (a + 1)
  | [], _, _ => Nat.le_refl _
  | (w, r) :: t, a, hw => by
    by_cases hc : a < w
    · rw [U_in hc]; omega
    · rw [U_out hc, U_out (by omega), show a + 1 - w = (a - w) + 1 from by omega]
      have := U_mono t (a - w) hw.tail
      omega
theorem B_mono : ∀ (t : List (Nat × Nat)) (u : Nat), B t u ≤ B t (u + 1)
  | [], _ => Nat.le_refl _
  | (w, r) :: t, u => by
    by_cases hc : u < wt r
    · rw [B_in hc]; omega
    · rw [B_out hc, B_out (by omega), show u + 1 - wt r = (u - wt r) + 1 from by omega]
      have := B_mono t (u - wt r)
      omega
theorem U_all : ∀ (t : List (Nat × Nat)), U t (widthP t) = unitsP t
  | [] => rfl
  | (w, r) :: t => by
    show U ((w, r) :: t) (w + widthP t) = wt r + unitsP t
    rw [U_out (by omega), show w + widthP t - w = widthP t from by omega, U_all t]
theorem B_all : ∀ (t : List (Nat × Nat)), B t (unitsP t) = widthP t
  | [] => rfl
  | (w, r) :: t => by
    show B ((w, r) :: t) (wt r + unitsP t) = w + widthP t
    rw [B_out (by omega), show wt r + unitsP t - wt r = unitsP t from by omega, B_all t]

/-! ### a text behind a valid one -/
theorem cand_take (l m : List UInt8) (k : Nat) (h1 : 1 ≤ k) (h4 : k ≤ 4) (hk : k ≤ l.length) : candL (l ++ m) k = candL l k := by
  have g (i : Nat) (hi : i < l.length) : (l ++ m).getD i 0 = l.getD i 0 := by simp [List.getD, List.getElem?_append_left hi]
  unfold candL
  rcases (show k = 1 ∨ k = 2 ∨ k = 3 ∨ k = 4 from by omega) with rfl | rfl | rfl | rfl
  · rw [cand1, g 0 (by omega)]; exact (cand1 _ _ _ _).symm
  · rw [cand2, g 0 (by omega), g 1 (by omega)]; exact (cand2 _ _ _ _).symm
  · rw [cand3, g 0 (by omega), g 1 (by omega), g 2 (by omega)]; exact (cand3 _ _ _ _).symm
  · rw [g 0 (by omega), g 1 (by omega), g 2 (by omega), g 3 (by omega)]
theorem hit_append (l m : List UInt8) (k : Nat) (h1 : 1 ≤ k) (h4 : k ≤ 4) (hk : k ≤ l.length) (h : Hit l k) : Hit (l ++ m) k := by
  unfold Hit at *
  rw [cand_take l m k h1 h4 hk, List.take_append_of_le_length hk]
  exact h
theorem pt_hit (l : List UInt8) (hne : l ≠ []) (h : isPt l = true) : ∃ k, 1 ≤ k ∧ k ≤ 4 ∧ k ≤ l.length ∧ Hit l k := by
  have hl : 0 < l.length := List.length_pos_iff.2 hne
  by_cases hc : ∀ k, 1 ≤ k → k ≤ 4 → k ≤ l.length → ¬ Hit l k
  · have := missed l hl hc
    unfold isPt at h
    rw [this] at h
    simp at h
  · simp only [Classical.not_forall, Classical.not_not] at hc
    obtain ⟨k, a, b, c, d⟩ := hc
    exact ⟨k, a, b, c, d⟩
theorem dec_append (l m : List UInt8) (hne : l ≠ []) (h : isPt l = true) : decodeL (l ++ m) = decodeL l := by
  obtain ⟨k, h1, h4, hk, hh⟩ := pt_hit l hne h
  rw [found l k h1 h4 hk hh, found (l ++ m) k h1 h4 (by rw [List.length_append]; omega) (hit_append l m k h1 h4 hk hh), cand_take l m k h1 h4 hk]
theorem valid_step (l : List UInt8) (hne : l ≠ []) (h : validD l = true) : isPt l = true ∧ validD (l.drop (headW l)) = true := by
  rw [validD_step l hne] at h
  unfold isPt headW
  by_cases hh : (decodeL l).1 = 65533 ∧ (decodeL l).2 = 1
  · rw [if_pos hh] at h; cases h
  · rw [if_neg hh] at h
    exact ⟨decide_eq_true hh, h⟩
theorem pieces_append : ∀ (k : Nat) (l m : List UInt8), l.length ≤ k → validD l = true → pieces (l ++ m) = pieces l ++ pieces m
  | 0, l, m, h, _ => by
    have : l = [] := List.eq_nil_of_length_eq_zero (by omega)
    subst this; rfl
  | k + 1, l, m, h, hv => by
    by_cases hne : l = []
    · subst hne; rfl
    · have hl : 0 < l.length := List.length_pos_iff.2 hne
      obtain ⟨hp, hv2⟩ := valid_step l hne hv
      have hd := dec_append l m hne hp
      have hw : headW (l ++ m) = headW l := by unfold headW; rw [hd]
      have hle := headW_le l hl
      rw [pieces_step (l ++ m) (by simp [hne]), hd, hw, pieces_step l hne, List.drop_append_of_le_length hle,
        pieces_append k (l.drop (headW l)) m (by rw [List.length_drop]; have := headW_pos l; omega) hv2, List.cons_append]
theorem valid_append : ∀ (k : Nat) (l m : List UInt8), l.length ≤ k → validD l = true → validD (l ++ m) = validD m
  | 0, l, m, h, _ => by
    have : l = [] := List.eq_nil_of_length_eq_zero (by omega)
    subst this; rfl
  | k + 1, l, m, h, hv => by
    by_cases hne : l = []
    · subst hne; rfl
    · have hl : 0 < l.length := List.length_pos_iff.2 hne
      obtain ⟨hp, hv2⟩ := valid_step l hne hv
      have hd := dec_append l m hne hp
      have hle := headW_le l hl
      unfold headW at hle hv2
      rw [validD_step (l ++ m) (by simp [hne]), hd]
      have hh : ¬ ((decodeL l).1 = 65533 ∧ (decodeL l).2 = 1) := of_decide_eq_true hp
      rw [if_neg hh, List.drop_append_of_le_length hle]
      exact valid_append k (l.drop (decodeL l).2) m (by rw [List.length_drop]; have := decodeL_width l; omega) hv2
theorem unitsP_append : ∀ (t u : List (Nat × Nat)), unitsP (t ++ u) = unitsP t + unitsP u
  | [], u => by simp [unitsP]
  | (w, r) :: t, u => by simp only [List.cons_append, unitsP]; rw [unitsP_append t u]; omega
theorem U_append : ∀ (t u : List (Nat × Nat)) (a : Nat), U (t ++ u) (widthP t + a) = unitsP t + U u a
  | [], u, a => by simp [unitsP, widthP]
  | (w, r) :: t, u, a => by
    show U ((w, r) :: (t ++ u)) (w + widthP t + a) = wt r + unitsP t + U u a
    rw [U_out (by omega), show w + widthP t + a - w = widthP t + a from by omega, U_append t u a]; omega
theorem B_append : ∀ (t u : List (Nat × Nat)) (a : Nat), B (t ++ u) (unitsP t + a) = widthP t + B u a
  | [], u, a => by simp [unitsP, widthP]
  | (w, r) :: t, u, a => by
    show B ((w, r) :: (t ++ u)) (wt r + unitsP t + a) = w + widthP t + B u a
    rw [B_out (by omega), show wt r + unitsP t + a - wt r = unitsP t + a from by omega, B_append t u a]; omega
theorem U_zero (t : List (Nat × Nat)) (hw : Wide t) : U t 0 = 0 := by
  cases t with
  | nil => rfl
  | cons x t => obtain ⟨w, r⟩ := x; exact U_in hw.head.1
theorem B_zero (t : List (Nat × Nat)) : B t 0 = 0 := by
  cases t with
  | nil => rfl
  | cons x t => obtain ⟨w, r⟩ := x; exact B_in (wt_pos r)

/-! ### a point's bytes -/
theorem enc_hit (n : Int) (hp : IsPoint n) (m : List UInt8) : 1 ≤ (encodeRune n).length ∧ (encodeRune n).length ≤ 4 ∧ candL (encodeRune n ++ m) (encodeRune n).length = n ∧ Hit (encodeRune n ++ m) (encodeRune n).length := by
  have hc : (candL (encodeRune n ++ m) (encodeRune n).length : Int) = n ∧ 1 ≤ (encodeRune n).length ∧ (encodeRune n).length ≤ 4 := by
    obtain ⟨h0, h1, h2⟩ := id hp
    rcases len_cases n hp with ⟨a, hl⟩ | ⟨a, b, hl⟩ | ⟨a, hl⟩ | ⟨a, hl⟩
    · refine ⟨?_, by omega, by omega⟩
      rw [hl, enc1 n ⟨h0, a⟩]
      simp [candL, cand]
      omega
    · refine ⟨?_, by omega, by omega⟩
      rw [hl, enc2 n ⟨a, b⟩]
      simp [candL, cand]
      omega
    · refine ⟨?_, by omega, by omega⟩
      rw [hl, enc3 n a]
      simp [candL, cand]
      omega
    · refine ⟨?_, by omega, by omega⟩
      rw [hl, enc4 n ⟨a, h1⟩]
      simp [candL, cand]
      omega
  refine ⟨hc.2.1, hc.2.2, hc.1, ?_⟩
  unfold Hit
  rw [hc.1]
  exact ⟨hp, by simp⟩
theorem enc_head (n : Int) (hp : IsPoint n) (m : List UInt8) : headP (encodeRune n ++ m) = n ∧ headW (encodeRune n ++ m) = (encodeRune n).length := by
  obtain ⟨h1, h4, hc, hh⟩ := enc_hit n hp m
  have := head_found _ _ h1 h4 (by rw [List.length_append]; omega) hh
  rw [hc] at this
  exact this
theorem enc_valid (n : Int) (hp : IsPoint n) : validD (encodeRune n) = true := by
  obtain ⟨h1, h4, hc, hh⟩ := enc_hit n hp []
  rw [List.append_nil] at hc hh
  have hne : encodeRune n ≠ [] := by intro e; rw [e] at h1; simp at h1
  have hf := found _ _ h1 h4 (Nat.le_refl _) hh
  have hn := cand_ne _ _ h1 h4 (Nat.le_refl _) hh
  rw [validD_step _ hne, hf, if_neg hn]
  simp [validD_nil]
theorem enc_prefix (a b : Int) (ha : IsPoint a) (hb : IsPoint b) : (encodeRune b).isPrefixOf (encodeRune a) = (a == b) := by
  by_cases h : a = b
  · subst h
    simp
  · have h' : (a == b) = false := by simpa using h
    rw [h']
    cases hc : (encodeRune b).isPrefixOf (encodeRune a) with
    | false => rfl
    | true =>
      obtain ⟨m, hm⟩ := List.isPrefixOf_iff_prefix.1 hc
      have e1 := enc_head a ha []
      have e2 := enc_head b hb m
      rw [List.append_nil, ← hm, e2.1] at e1
      exact absurd e1.1.symm h
end Go.Proofs.Utf
/- Lin: A text's lines, in plain Lean: where each begins and ends; what 'the first 13 or 10 from here' says of them. -/
namespace Go.Proofs.Utf
open Go.Lib

/-- the lines of what is left: whether the byte ahead is 13, where the line began, where we are -/
def linesP : List UInt8 → Bool → Nat → Nat → List (Nat × Nat)
  | [], _, f, a => [(f, a)]
  | b :: r, cr, f, a =>
    if cr && b == 10 then linesP r false (a + 1) (a + 1)
    else if b == 10 || b == 13 then (f, a) :: linesP r (b == 13) (a + 1) (a + 1)
    else linesP r false f (a + 1)
def linesL (l : List UInt8) : List (Nat × Nat) := linesP l false 0 0

theorem linesP_cr (l : List UInt8) (f a : Nat) (h : ∀ r, l ≠ 10 :: r) : linesP l true f a = linesP l false f a := by
  cases l with
  | nil => rfl
  | cons b r =>
    have hb : (b == 10) = false := by
      cases e : b == 10 with
      | false => rfl
      | true => exact absurd (by rw [eq_of_beq e]) (h r)
    simp only [linesP, hb, Bool.and_false, Bool.false_eq_true, if_false, Bool.false_or]
theorem linesP_ten (r : List UInt8) (f a : Nat) : linesP (10 :: r) true f a = linesP r false (a + 1) (a + 1) := rfl

theorem lines_none : ∀ (l : List UInt8) (f a : Nat), indexAny l [13, 10] = -1 → linesP l false f a = [(f, a + l.length)]
  | [], f, a, _ => rfl
  | b :: r, f, a, h => by
    unfold indexAny at h
    by_cases hb : ([13, 10] : List UInt8).contains b = true
    · rw [if_pos hb] at h; omega
    · rw [if_neg hb] at h
      have hr : indexAny r [13, 10] = -1 := by
        have := indexAny_ge [13, 10] r
        split at h
        · next e => exact eq_of_beq e
        · omega
      have h10 : (b == 10) = false := by simp at hb; simp; exact hb.2
      have h13 : (b == 13) = false := by simp at hb; simp; exact hb.1
      simp only [linesP, h10, h13, Bool.and_false, Bool.or_self, Bool.false_eq_true, if_false]
      rw [lines_none r f (a + 1) hr]
      simp only [List.length_cons, List.cons.injEq, Prod.mk.injEq, and_true, true_and]
      omega

theorem lines_hit : ∀ (l : List UInt8) (f a k : Nat), indexAny l [13, 10] = (k : Int) → k < l.length ∧
    linesP l false f a = (f, a + k) :: (if hasPrefix (l.drop k) [13, 10] then linesP (l.drop (k + 2)) false (a + k + 2) (a + k + 2) else linesP (l.drop (k + 1)) false (a + k + 1) (a + k + 1))
  | [], f, a, k, h => by simp [indexAny] at h
  | b :: r, f, a, k, h => by
    unfold indexAny at h
    by_cases hb : ([13, 10] : List UInt8).contains b = true
    · rw [if_pos hb] at h
      obtain rfl : k = 0 := by omega
      refine ⟨by simp, ?_⟩
      have hor : (b == 10 || b == 13) = true := by simp at hb; simp; exact hb.symm
      simp only [linesP, Bool.false_and, Bool.false_eq_true, if_false, hor, if_true, List.drop_zero, Nat.add_zero, Nat.zero_add, List.cons.injEq, true_and]
      by_cases h13 : b = 13
      · subst h13
        cases r with
        | nil => rfl
        | cons c t =>
          by_cases h10 : c = 10
          · subst h10
            rfl
          · have hp : hasPrefix (13 :: c :: t) [13, 10] = false := by
              simp [hasPrefix, List.isPrefixOf]
              exact fun e => h10 e.symm
            rw [hp, if_neg (by simp)]
            exact linesP_cr _ _ _ (fun r' e => h10 (by injection e))
      · have hp : hasPrefix (b :: r) [13, 10] = false := by
          simp [hasPrefix, List.isPrefixOf]
          exact fun e => absurd e.symm h13
        rw [hp, if_neg (by simp), show (b == 13) = false by simp [h13]]
        rfl
    · rw [if_neg hb] at h
      have h10 : (b == 10) = false := by simp at hb; simp; exact hb.2
      have h13 : (b == 13) = false := by simp at hb; simp; exact hb.1
      split at h
      · omega
      · rename_i e2
        have e3 : indexAny r [13, 10] ≠ -1 := fun e => by simp [e] at e2
        have e4 := indexAny_ge [13, 10] r
        obtain ⟨j, rfl⟩ : ∃ j, k = j + 1 := ⟨k - 1, by omega⟩
        obtain ⟨hj, he⟩ := lines_hit r f (a + 1) j (by omega)
        refine ⟨by simp; omega, ?_⟩
        simp only [linesP, h10, h13, Bool.and_false, Bool.or_self, Bool.false_eq_true, if_false]
        rw [he]
        simp only [List.drop_succ_cons, show a + 1 + j = a + (j + 1) by omega]

theorem linesP_in : ∀ (l : List UInt8) (cr : Bool) (f a : Nat), f ≤ a → ∀ x ∈ linesP l cr f a, x.1 ≤ x.2 ∧ x.2 ≤ a + l.length
  | [], cr, f, a, h, x, hx => by
    simp [linesP] at hx
    subst hx
    simp [h]
  | b :: r, cr, f, a, h, x, hx => by
    simp only [linesP] at hx
    split at hx
    · have := linesP_in r false (a + 1) (a + 1) (Nat.le_refl _) x hx
      simp; omega
    · split at hx
      · simp only [List.mem_cons] at hx
        rcases hx with rfl | hx
        · simp [h]
        · have := linesP_in r _ (a + 1) (a + 1) (Nat.le_refl _) x hx
          simp; omega
      · have := linesP_in r false f (a + 1) (by omega) x hx
        simp; omega
theorem linesP_pos : ∀ (l : List UInt8) (cr : Bool) (f a : Nat), 1 ≤ (linesP l cr f a).length
  | [], _, _, _ => by simp [linesP]
  | b :: r, cr, f, a => by
    simp only [linesP]
    split
    · exact linesP_pos r _ _ _
    · split
      · simp
      · exact linesP_pos r _ _ _
theorem linesP_length : ∀ (l : List UInt8) (cr : Bool) (f a : Nat), (linesP l cr f a).length ≤ l.length + 1
  | [], _, _, _ => by simp [linesP]
  | b :: r, cr, f, a => by
    simp only [linesP]
    split
    · have := linesP_length r false (a + 1) (a + 1); simp; omega
    · split
      · have := linesP_length r (b == 13) (a + 1) (a + 1); simp; omega
      · have := linesP_length r false f (a + 1); simp; omega
end Go.Proofs.Utf
/- W4: emend/utf.units, Byte (the Lines seat's texts with other numbers: printed by port.py). -/
namespace Go.Proofs.YtcenfckjkboabaaGreatDoor
open Go.RowKit Go.Proofs.Utf Go.Lib

theorem units_any (n : Int) (w : World) :
    Calls Tryz.prog 150 #[.int .i32 n] w fun e w' => e = .returned (.int .i64 (if 65535 < n then 2 else 1)) ∧ w' = w := by
  go_enter Tryz.func150, Tryz.ntmps150
  go_wp2
  all_goals go_ret
  all_goals simp [*]
theorem units_nat (r : Nat) (w : World) : Calls Tryz.prog 150 #[.int .i32 r] w fun e w' => e = .returned (.int .i64 (wt r)) ∧ w' = w := by
  refine (units_any r w).mono ?_
  rintro e w' ⟨rfl, rfl⟩
  refine ⟨?_, rfl⟩
  unfold wt
  by_cases h : 65535 < r
  · rw [if_pos h, if_pos (by omega)]; rfl
  · rw [if_neg h, if_neg (by omega)]; rfl

theorem ret_nat {a b : Nat} (h : a = b) : Ending.returned (.int .i64 (a : Int)) = .returned (.int .i64 (b : Int)) := by rw [h]
theorem ret_int {a b : Int} (h : a = b) : Ending.returned (.int .i64 a) = .returned (.int .i64 b) := by rw [h]
theorem below_iter (w : World) (s : ByteArray) (pos : Nat) : Below w.heap.size w (w.iter s pos) := (Below.refl _ _).alloc (Nat.le_refl _) _
set_option maxHeartbeats 400000 in
theorem utfByte_any (s : ByteArray) (want : Int) (w : World) (hs : s.size ≤ 140737488355328) :
    Calls Tryz.prog 129 #[.string s, .int .i64 want] w fun e w' => e = .returned (.int .i64 (byteP (pieces s.data.toList) 0 0 want)) ∧ Below w.heap.size w w' := by
  go_enter Tryz.func129, Tryz.ntmps129
  go_wp2
  go_loopw [5] (fun n w' => ∃ (pos acc : Nat), w' = w.iter s pos ∧ n = .int .i64 acc ∧ byteP (from_ s pos) pos acc want = byteP (pieces s.data.toList) 0 0 want ∧ acc ≤ pos ∧ pos ≤ s.size) (fun _ w' => s.size - w'.iterPos w.heap.size)
  case atStart => exact ⟨0, 0, rfl, rfl, by simp [from_], Nat.le_refl _, Nat.zero_le _⟩
  case round =>
    obtain ⟨pos, acc, rfl, rfl, hc, ha, hp0⟩ := hrel
    have HC := Lib.hid hc
    clear hc
    by_cases hp : pos < s.size
    · have hnx : ∀ ty, (Instr.next (.pointer (some ⟨w.heap.size, 0, none⟩)) true ty).run Tryz.prog (w.iter s pos) = _ := fun ty => run_next_any w s pos ty hp
      have hle := dec_le s pos hp
      have hpos := dec_pos s pos
      have hwt := dec_wt s pos
      have HF := Lib.hid (from_step s pos hp)
      by_cases hg : want < (acc : Int) + (wt (Utf8.decode s pos).1 : Int)
      · go_wp2_with (go_at_call 150; refine (units_nat _ _).mono ?_; rintro e w' ⟨rfl, rfl⟩)
        go_ret
        refine ⟨?_, below_iter _ _ _⟩
        have := HC.out
        rw [HF.out] at this
        simp only [byteP] at this
        rw [if_pos (by omega)] at this
        exact ret_nat this
      · go_wp2_with (go_at_call 150; refine (units_nat _ _).mono ?_; rintro e w' ⟨rfl, rfl⟩)
        go_roundw
        case rel =>
          refine ⟨_, acc + wt (Utf8.decode s pos).1, rfl, by go_num, ?_, by omega, hle⟩
          have := HC.out
          rw [HF.out] at this
          simp only [byteP] at this
          rw [if_neg (by omega)] at this
          exact this
        case measure =>
          simp
          omega
    · have hnx : ∀ ty, (Instr.next (.pointer (some ⟨w.heap.size, 0, none⟩)) true ty).run Tryz.prog (w.iter s pos) = _ := fun ty => run_next_end w s pos ty hp
      obtain rfl : pos = s.size := by omega
      go_wp2
      go_ret
      refine ⟨?_, below_iter _ _ _⟩
      have := HC.out
      rw [from_end s s.size hp] at this
      simp only [byteP] at this
      exact ret_nat this
end Go.Proofs.YtcenfckjkboabaaGreatDoor
/- X1: strings.IndexRune and strings.IndexAny at the two bytes 13, 10, whatever the text. -/
namespace Go.Proofs.YtcenfckjkboabaaGreatDoor
open Go.RowKit Go.Proofs.Utf Go.Lib

theorem below_draws {w wr : World} (hB : Below w.heap.size w wr) (n : Nat) : Below w.heap.size w (wr.drewN n) := by
  induction n with
  | zero => exact hB
  | succ n ih => exact ih.drew
theorem below_drewN (w : World) (n : Nat) : Below w.heap.size w (w.drewN n) := by
  have := Below.refl w.heap.size w
  induction n with
  | zero => exact this
  | succ n ih => exact ih.drew
def crlf : ByteArray := ⟨#[13, 10]⟩
theorem dec_big (l : List UInt8) (h0 : 1 ≤ l.length) (hb : 128 ≤ (l.getD 0 0).toNat) :
    128 ≤ (decodeL l).1 ∧ IsPoint (decodeL l).1 ∧ ∀ j, j < (decodeL l).2 → 128 ≤ (l.getD j 0).toNat := by
  have hit : ∀ k, 1 ≤ k → k ≤ 4 → k ≤ l.length → Hit l k → 128 ≤ (decodeL l).1 ∧ IsPoint (decodeL l).1 ∧ ∀ j, j < (decodeL l).2 → 128 ≤ (l.getD j 0).toNat := by
    intro k h1 h4 hl hh
    rw [found l k h1 h4 hl hh]
    have hlen : (encodeRune (candL l k)).length = k := by rw [hh.2, List.length_take]; omega
    rcases (show k = 1 ∨ k = 2 ∨ k = 3 ∨ k = 4 by omega) with rfl | rfl | rfl | rfl
    · have := (Hit1 l hl).1 hh
      omega
    · have h2 := (Hit2 l hl).1 hh
      refine ⟨?_, hh.1, ?_⟩
      · rcases len_cases _ hh.1 with hc | hc | hc | hc <;> omega
      · intro j hj
        rcases (show j = 0 ∨ j = 1 by omega) with rfl | rfl <;> omega
    · have h2 := (Hit3 l hl).1 hh
      refine ⟨?_, hh.1, ?_⟩
      · rcases len_cases _ hh.1 with hc | hc | hc | hc <;> omega
      · intro j hj
        rcases (show j = 0 ∨ j = 1 ∨ j = 2 by omega) with rfl | rfl | rfl <;> omega
    · have h2 := (Hit4 l hl).1 hh
      refine ⟨?_, hh.1, ?_⟩
      · rcases len_cases _ hh.1 with hc | hc | hc | hc <;> omega
      · intro j hj
        rcases (show j = 0 ∨ j = 1 ∨ j = 2 ∨ j = 3 by omega) with rfl | rfl | rfl | rfl <;> omega
  by_cases hex : ∃ k, 1 ≤ k ∧ k ≤ 4 ∧ k ≤ l.length ∧ Hit l k
  · obtain ⟨k, h1, h4, hl, hh⟩ := hex
    exact hit k h1 h4 hl hh
  · rw [missed l h0 (fun k h1 h4 hl hh => hex ⟨k, h1, h4, hl, hh⟩)]
    refine ⟨by decide, by unfold IsPoint; decide, fun j hj => ?_⟩
    obtain rfl : j = 0 := by omega
    exact hb
theorem valid_of {r : Int} (h : IsPoint r) : Utf8.valid r = true := by
  unfold IsPoint at h
  unfold Utf8.valid
  simp
  omega
theorem validRune_of {r : Int} (h : IsPoint r) : Lib.validRune r = true := by
  unfold IsPoint at h
  unfold Lib.validRune
  simp
  omega

set_option maxHeartbeats 8000000 in
set_option maxRecDepth 1000000 in
theorem rune_bad (w : World) : Calls Tryz.prog 160 #[.string crlf, .int .i32 65533] w fun e w' => e = .returned (.int .i64 (-1)) ∧ Below w.heap.size w w' := by
  unfold crlf
  have n0 : ∀ ty, (Instr.next (.pointer (some ⟨w.heap.size, 0, none⟩)) true ty).run Tryz.prog (w.iter ⟨#[13, 10]⟩ 0) = _ := fun ty => run_next_ascii w ⟨#[13, 10]⟩ 0 ty (by decide) (by decide)
  have n1 : ∀ ty, (Instr.next (.pointer (some ⟨w.heap.size, 0, none⟩)) true ty).run Tryz.prog (w.iter ⟨#[13, 10]⟩ 1) = _ := fun ty => run_next_ascii w ⟨#[13, 10]⟩ 1 ty (by decide) (by decide)
  have n2 : ∀ ty, (Instr.next (.pointer (some ⟨w.heap.size, 0, none⟩)) true ty).run Tryz.prog (w.iter ⟨#[13, 10]⟩ 2) = _ := fun ty => run_next_end w ⟨#[13, 10]⟩ 2 ty (by decide)
  simp at n0 n1 n2
  go_enter Tryz.func160, Tryz.ntmps160
  go_wp2
  refine wp_loop_rounds 3 ?_
  rw [rounds_succ]
  go_wp2
  rw [rounds_succ]
  go_wp2
  rw [rounds_succ]
  go_wp2
  go_ret
  exact ⟨rfl, below_iter _ _ _⟩
set_option maxHeartbeats 8000000 in
set_option maxRecDepth 1000000 in
theorem rune_big (r : Int) (w : World) (h : 128 ≤ r) (hp : IsPoint r) (h3 : r ≠ 65533) : Calls Tryz.prog 160 #[.string crlf, .int .i32 r] w fun e w' => e = .returned (.int .i64 (-1)) ∧ Below w.heap.size w w' := by
  have hr : r ≤ 1114111 := hp.2.1
  have hv := validRune_of hp
  have hd := encode_facts r (valid_of hp) h
  obtain ⟨x, hx⟩ : ∃ x, Utf8.encode r = x := ⟨_, rfl⟩
  rw [hx] at hd
  obtain ⟨h2, h4, hl⟩ := hd
  have hcv : ∀ w' : World, (convert 21 9 (.int .i32 r)).run Tryz.prog w' = .ok (.string x) w' := fun w' => by rw [← hx]; exact run_convert_int_string w' 21 9 .i32 r (by kernel_rfl) Tryz.underlying9
  clear hx
  unfold crlf
  by_cases hsz : x.size = 2
  · have hb := hl (by omega)
    obtain ⟨a, b, rfl⟩ : ∃ a b : UInt8, x = ⟨#[a, b]⟩ := by
      obtain ⟨⟨l⟩⟩ := x
      match l, hsz with
      | [a, b], _ => exact ⟨a, b, rfl⟩
    have hb' : 128 ≤ b.toNat := hb
    have hne : ((((⟨#[13, 10]⟩ : ByteArray)[1]'(by decide)).toNat : Int) != (((⟨#[a, b]⟩ : ByteArray)[1]'(by show 1 < 2; omega)).toNat : Int)) = true := by
      show ((10 : Int) != (b.toNat : Int)) = true
      simp
      omega
    have hix : indexByte [] ((⟨#[a, b]⟩ : ByteArray)[1]'(by show 1 < 2; omega)) < 0 := by show (-1 : Int) < 0; decide
    clear hb hl h2 h4
    go_enter Tryz.func160, Tryz.ntmps160
    go_wp2_with (go_at_call 165; refine (Tryz.utf8_ValidRune _ _).mono ?_; rintro e w' ⟨rfl, rfl⟩; rw [hv])
    refine wp_scope_straight ?_
    go_wp2
    refine wp_loop_rounds 1 ?_
    rw [rounds_succ]
    go_wp2
    refine wp_scope_straight ?_
    go_wp2
    go_quiet (fail)
    go_wp2
    obtain ⟨w1, hw1⟩ : ∃ w1, w'.drewN nq = w1 := ⟨_, rfl⟩
    have hB : Below w'.heap.size w' w1 := by rw [← hw1]; exact below_drewN _ _
    rw [hw1]
    clear hw1
    go_quiet ((go_at_call 164; exact Calls.quiet_of_same (Tryz.strings_IndexByte _ _ _)))
    go_wp2
    dsimp only [Exit.noGoto, Exit.inBlock, Exit.then]
    go_ret
    exact ⟨rfl, hB.trans (below_draws (Below.refl _ _) _ |>.mono hB.size)⟩
  · go_enter Tryz.func160, Tryz.ntmps160
    go_wp2_with (go_at_call 165; refine (Tryz.utf8_ValidRune _ _).mono ?_; rintro e w' ⟨rfl, rfl⟩; rw [hv])
    refine wp_scope_straight ?_
    go_wp2
    refine wp_loop_rounds 1 ?_
    rw [rounds_succ]
    go_wp2
    all_goals dsimp only [Exit.noGoto, Exit.inBlock]
    all_goals go_ret
    all_goals exact ⟨rfl, Below.refl _ _⟩
end Go.Proofs.YtcenfckjkboabaaGreatDoor
/- X2: strings.IndexAny at the two bytes 13, 10: the first place of either, in any text. -/
namespace Go.Proofs.YtcenfckjkboabaaGreatDoor
open Go.RowKit Go.Proofs.Utf Go.Lib

theorem next_in {P : Program} (W : World) (b : Nat) (s : ByteArray) (pos : Nat) (ty : TypeId) (hb : W.heap[b]? = some (.stringIter s pos)) (h : pos < s.size) :
    (Instr.next (.pointer (some ⟨b, 0, none⟩)) true ty).run P W = .ok (.tuple #[.bool true, .int .i64 pos, .int .i32 (Utf8.decode s pos).1]) (W.putObj b (.stringIter s (pos + (Utf8.decode s pos).2))) := by
  simp only [Instr.next, getObj, setObj, Sem.run_bind, Sem.run, hb, Result.andThen, h, if_true]
  simp [goInt]
  rfl
theorem next_out {P : Program} (W : World) (b : Nat) (s : ByteArray) (pos : Nat) (ty : TypeId) (hb : W.heap[b]? = some (.stringIter s pos)) (h : ¬ pos < s.size) :
    (Instr.next (.pointer (some ⟨b, 0, none⟩)) true ty).run P W = .ok (.tuple #[.bool false]) W := by
  simp [Instr.next, getObj, Sem.run, hb, h]
theorem below_put {n : Nat} {a W : World} {b : Nat} {o o' : Obj} (h : Below n a W) (hb : W.heap[b]? = some o) (hn : n ≤ b) : Below n a (W.putObj b o') :=
  h.grown (grownBy_putObj' W b o') (Nat.le_trans hn (by have := (Array.getElem?_eq_some_iff.1 hb).1; omega)) (fun k e => by cases e; exact hn)
theorem rune_any (r : Int) (w : World) (h : 128 ≤ r) (hp : IsPoint r) : Calls Tryz.prog 160 #[.string crlf, .int .i32 r] w fun e w' => e = .returned (.int .i64 (-1)) ∧ Below w.heap.size w w' := by
  by_cases e : r = 65533
  · subst e; exact rune_bad w
  · exact rune_big r w h hp e
theorem iter_new (w : World) (s : ByteArray) (pos : Nat) : (w.iter s pos).heap[w.heap.size]? = some (.stringIter s pos) := World.iter_heap w s pos
theorem heap_kept {wr w1 : World} {b : Nat} {o : Obj} (h : wr.heap[b]? = some o) (hb : Below wr.heap.size wr w1) : w1.heap[b]? = some o := by
  rw [hb.block b (Array.getElem?_eq_some_iff.1 h).1, h]
theorem iterPos_of {w : World} {k : Nat} {s : ByteArray} {p : Nat} (h : w.heap[k]? = some (.stringIter s p)) : w.iterPos k = p := by simp [World.iterPos, h]

set_option maxHeartbeats 8000000 in
set_option maxRecDepth 1000000 in
theorem indexAny_short (s : ByteArray) (w : World) (h8 : s.size ≤ 8) : Calls Tryz.prog 157 #[.string s, .string crlf] w fun e w' => e = .returned (.int .i64 (indexAny s.data.toList [13, 10])) ∧ Below w.heap.size w w' := by
  have h8z : decide ((8 : Int) < (s.size : Int)) = false := decide_eq_false (by omega)
  unfold crlf
  go_enter Tryz.func157, Tryz.ntmps157
  go_wp2_with (go_at_call 161; refine (Tryz.strings_shouldUseASCIISet _ _).mono ?_; rintro e w' ⟨rfl, hw⟩; rw [hw, h8z])
  go_loopw [9, 10] (fun _ _ wx => ∃ i : Nat, wx.heap[w.heap.size]? = some (.stringIter s i) ∧ i ≤ s.size ∧ NoAny s.data.toList [13, 10] i ∧ Below w.heap.size w wx) (fun _ _ wx => s.size - wx.iterPos w.heap.size)
  case atStart => exact ⟨0, iter_new _ _ _, Nat.zero_le _, NoAny.zero _ _, below_iter _ _ _⟩
  case round =>
    obtain ⟨i, hit, hi, hno, hB⟩ := hrel
    have HN := Lib.hid hno
    clear hno
    by_cases hp : i < s.size
    · have hnx : ∀ ty, (Instr.next (.pointer (some ⟨w.heap.size, 0, none⟩)) true ty).run Tryz.prog wr = _ := fun ty => next_in wr _ s i ty hit hp
      obtain ⟨x, hx⟩ : ∃ x : UInt8, s[i]'hp = x := ⟨_, rfl⟩
      have hxl : s.data.toList[i]? = some x := by rw [← hx]; exact data_getElem? s i hp
      have hxd : (s.data.toList.drop i).getD 0 0 = x := by simp [hxl]
      have hle := dec_le s i hp
      have hpos := dec_pos s i
      have hBp := fun p => below_put (o' := .stringIter s p) hB hit (Nat.le_refl _)
      have hip : ∀ p, (wr.putObj w.heap.size (.stringIter s p)).heap[w.heap.size]? = some (.stringIter s p) := fun p => World.putObj_heap_same (Array.getElem?_eq_some_iff.1 hit).1
      by_cases hs : x.toNat < 128
      · have hdec : Utf8.decode s i = (x.toNat, 1) := by rw [decode_ascii s i hp (by rw [hx]; exact hs), hx]
        rw [hdec] at hnx
        have hcon := contains_iff_indexByte [13, 10] x
        have hback : ((x.toNat : Int)).toNat.toUInt8 = x := by simp
        cases hin : ([13, 10] : List UInt8).contains x
        · rw [hin] at hcon
          have hlt : ¬ ((0 : Int) ≤ indexByte [13, 10] x) := of_decide_eq_false hcon.symm
          clear hcon
          go_wp2_with (go_at_call 160; refine (Tryz.strings_IndexRune_ascii _ _ _ (by omega) (by omega)).mono ?_; rintro e w' ⟨rfl, hw⟩; rw [hw, hback])
          go_roundw
          case rel => exact ⟨i + 1, hip _, by omega, HN.out.succ hxl hin, hBp _⟩
          case measure => rw [iterPos_of hit, iterPos_of (hip _)]; omega
        · rw [hin] at hcon
          have hge : (0 : Int) ≤ indexByte [13, 10] x := of_decide_eq_true hcon.symm
          clear hcon
          go_wp2_with (go_at_call 160; refine (Tryz.strings_IndexRune_ascii _ _ _ (by omega) (by omega)).mono ?_; rintro e w' ⟨rfl, hw⟩; rw [hw, hback])
          go_ret
          exact ⟨by rw [indexAny_hit HN.out hxl hin]; rfl, hBp _⟩
      · have hbig := dec_big (s.data.toList.drop i) (by rw [List.length_drop, ← size_eq]; omega) (by rw [hxd]; omega)
        rw [decodeL_drop] at hbig
        obtain ⟨hb1, hb2, hb3⟩ := hbig
        have HB3 := Lib.hid hb3
        clear hb3
        go_wp2_with (go_at_call 160; refine (rune_any _ _ (by omega) hb2).mono ?_; rintro e w' ⟨rfl, hw⟩)
        go_roundw
        case rel =>
          refine ⟨i + (Utf8.decode s i).2, heap_kept (hip _) hw, hle, ?_, (hBp (i + (Utf8.decode s i).2)).trans (hw.mono (hBp (i + (Utf8.decode s i).2)).size)⟩
          intro j b hj hb
          by_cases hji : j < i
          · exact HN.out j b hji hb
          · have := HB3.out (j - i) (by omega)
            rw [List.getD_eq_getElem?_getD, List.getElem?_drop, show i + (j - i) = j by omega, hb] at this
            simp at this
            cases hc : ([13, 10] : List UInt8).contains b with
            | false => rfl
            | true => exfalso; simp at hc; rcases hc with rfl | rfl <;> simp at this
        case measure => rw [iterPos_of hit, iterPos_of (heap_kept (hip _) hw)]; omega
    · have hnx : ∀ ty, (Instr.next (.pointer (some ⟨w.heap.size, 0, none⟩)) true ty).run Tryz.prog wr = _ := fun ty => next_out wr _ s i ty hit hp
      go_wp2
      go_ret
      have he : i = s.size := by omega
      subst he
      exact ⟨by rw [indexAny_none (by rw [← size_eq]; exact HN.out)]; rfl, hB⟩
theorem zero71 : ∀ w, (zeroValue 218).run Tryz.prog w = .ok (.agg (Array.replicate 256 (.bool false))) w := (zero_of_info (by kernel_rfl : (Tryz.prog.info? 218).map (fun i => (i.zero, i.size)) = some (some (.agg (Array.replicate 256 (.bool false))), 256))).1
theorem indexAny_any (s : ByteArray) (w : World) (hs : s.size < 4294967281) : Calls Tryz.prog 157 #[.string s, .string crlf] w fun e w' => e = .returned (.int .i64 (indexAny s.data.toList [13, 10])) ∧ Below w.heap.size w w' := by
  by_cases h8 : s.size ≤ 8
  · exact indexAny_short s w h8
  · refine (Tryz.strings_IndexAny_long zero71 s crlf w (by decide) (by omega) hs (by decide) ?_).mono ?_
    · intro j b hb
      match j, hb with
      | 0, hb => cases hb; decide
      | 1, hb => cases hb; decide
      | j + 2, hb => simp [crlf] at hb
    · rintro e w' ⟨rfl, rfl⟩
      exact ⟨rfl, ((Below.refl _ w).alloc (Nat.le_refl _) _).alloc (by simp) _⟩
end Go.Proofs.YtcenfckjkboabaaGreatDoor
/- X3: emend/lines.each: the iterator over a text's lines hands its caller's body each line in turn. -/
namespace Go.Proofs.YtcenfckjkboabaaGreatDoor
open Go.RowKit Go.Shelf Go.Proofs.Utf Go.Lib

attribute [local go_sem] Oper.semAt_some

/-- a line of a text of n bytes: where it begins and ends -/
abbrev Ln (n : Nat) := { x : Nat × Nat // x.1 ≤ x.2 ∧ x.2 ≤ n }
abbrev Ln.encs {n : Nat} (x : Ln n) : Array Value := #[.int .i64 (x.1.1 : Int), .int .i64 (x.1.2 : Int)]
def lns (s : ByteArray) : List (Ln s.size) := (linesL s.data.toList).pmap Subtype.mk (fun x hx => by
  have := linesP_in s.data.toList false 0 0 (Nat.le_refl _) x hx
  rw [size_eq]
  omega)
theorem lns_val (s : ByteArray) : (lns s).map (·.1) = linesL s.data.toList := by
  unfold lns
  rw [List.map_pmap]
  exact List.pmap_eq_self.2 (fun _ _ => rfl)

set_option maxHeartbeats 1000000 in
theorem each_any (s : ByteArray) (w : World) :
    Calls Tryz.prog 149 #[.string s] w fun e w' => e = .returned (.func (.func 156) #[] #[.pointer (some ⟨w.heap.size, 0, none⟩)]) ∧ w' = w.alloc (.cells #[.string s] 9) := by
  go_enter Tryz.func149, Tryz.ntmps149
  go_wp2
  go_ret
  exact ⟨rfl, rfl⟩

/-- the box of the text keeps it -/
def Kp (Bs : Nat) (A B : World) : Prop := ∀ v, Boxed A Bs 9 v → Boxed B Bs 9 v
theorem Kp.refl (Bs : Nat) (A : World) : Kp Bs A A := fun _ h => h
theorem Kp.trans {Bs : Nat} {A B C : World} (h : Kp Bs A B) (k : Kp Bs B C) : Kp Bs A C := fun v hv => k v (h v hv)
theorem kp_b {Bs : Nat} (W : World) (l : Nat) (o o' : Obj) (h : W.heap[l]? = some o) (hc : o.isCells = false) : Kp Bs W (W.putObj l o') := fun v hv =>
  hv.kept (grownBy_putObj' W l o') (fun e => by cases e; rw [show W.heap[Bs]? = _ from hv] at h; cases h; cases hc)
theorem kp_below {Bs : Nat} {A B : World} (h : Below A.heap.size A B) : Kp Bs A B := fun _v hv => (h.block Bs hv.lt).trans hv
theorem grown_of {A C : World} (h : Below A.heap.size A C) : A.grownBy C none := ⟨h.os, h.tape, h.output, h.size, fun i hi _ => h.block i hi⟩
theorem cut_list (s : ByteArray) (a : Nat) : (s.extract a s.size).data.toList = s.data.toList.drop a := by
  have h1 : s.data.toList.length = s.size := by rw [← size_eq]
  simp [ByteArray.data_extract, List.take_of_length_le, h1]
theorem cut_size (s : ByteArray) (a : Nat) : (s.extract a s.size).size ≤ s.size := by
  simp
theorem cons_of {n : Nat} {rest : List (Ln n)} {y : Nat × Nat} {t : List (Nat × Nat)} (h : rest.map (·.1) = y :: t) : ∃ (x : Ln n) (rest' : List (Ln n)), rest = x :: rest' ∧ x.1 = y ∧ rest'.map (·.1) = t := by
  cases rest with
  | nil => simp at h
  | cons x r => exact ⟨x, r, rfl, (List.cons.inj h).1, (List.cons.inj h).2⟩
theorem prefix_two (l : List UInt8) (h : hasPrefix l [13, 10] = true) : 2 ≤ l.length := by
  match l, h with
  | [], h => simp [hasPrefix, List.isPrefixOf] at h
  | [x], h => simp [hasPrefix, List.isPrefixOf] at h
  | x :: y :: t, _ => simp
theorem lns_length (s : ByteArray) : (lns s).length ≤ s.size + 1 := by
  have h1 := linesP_length s.data.toList false 0 0
  have h2 := congrArg List.length (lns_val s)
  rw [List.length_map] at h2
  rw [h2, size_eq]
  exact h1

set_option maxRecDepth 1000000 in
set_option maxHeartbeats 8000000 in
theorem each1_in (s : ByteArray) (hs : s.size < 4294967281) (n l Bs : Nat) (hn : 1 ≤ n) (J Jx : List (Ln s.size) → World → Prop)
    (hY : ∀ pre x W, J pre W → pre.length < s.size + 1 → YieldAt Fence.wide (n - 1) Tryz.prog l (Ln.encs x) W fun e W' =>
      (e = .returned (.bool true) ∧ J (pre ++ [x]) W' ∧ Kp Bs W W') ∨ (e = .returned (.bool false) ∧ Jx (pre ++ [x]) W'))
    (W : World) (hBs : Boxed W Bs 9 (.string s)) (hJa : AbidesFrom W.heap.size J) (h0 : J [] W) :
    CallsIn Fence.wide n Tryz.prog 156 #[.func (.yield l) #[] #[], .pointer (some ⟨Bs, 0, none⟩)] W fun e W' => (∃ v, e = .returned v) ∧
      ((∃ ys, ys = lns s ∧ J ys W') ∨ (∃ pre, pre <+: lns s ∧ Jx pre W')) := by
  refine callsIn_of_wp Tryz.func156 rfl trivial ?_ rfl
  simp only [Tryz.ntmps156, List.size_toArray, List.length_cons, List.length_nil, Nat.reduceAdd, Nat.reduceSub, Array.replicate_succ, Array.replicate_zero, List.push_toArray, List.append_toArray, List.nil_append, List.cons_append]
  gi_wp2
  gi_loopw [3] (fun f wr => ∃ (pre rest : List (Ln s.size)) (a : Nat), f = .int .i64 a ∧ a ≤ s.size ∧ lns s = pre ++ rest ∧ rest.map (·.1) = linesP (s.data.toList.drop a) false a a ∧ J pre wr ∧ Boxed wr Bs 9 (.string s))
    (fun f _ => s.size + 1 - (RowKit.intOf f).toNat)
  case atStart => exact ⟨[], lns s, 0, rfl, Nat.zero_le _, rfl, lns_val s, h0, hBs⟩
  case round =>
    obtain ⟨pre, rest, a, rfl, ha, hl, hr, hJ, hB⟩ := hrel
    have hc := hB.cell
    have hlen : rest ≠ [] → pre.length < s.size + 1 := fun hne => by
      have h1 := lns_length s
      have h2 := congrArg List.length hl
      rw [List.length_append] at h2
      have := List.length_pos_iff.2 hne
      omega
    obtain ⟨k, hk⟩ : ∃ k, indexAny (s.data.toList.drop a) [13, 10] = k := ⟨_, rfl⟩
    have hnew : ∀ w1, Below wr.heap.size wr w1 → J pre w1 ∧ Boxed w1 Bs 9 (.string s) ∧ w1.cell? ⟨Bs, 0, none⟩ = some (.string s) := fun w1 hw1 =>
      have hb1 : Boxed w1 Bs 9 (.string s) := kp_below hw1 _ hB
      ⟨hJa pre wr w1 none hJ (grown_of hw1) (fun r e => by cases e), hb1, hb1.cell⟩
    by_cases hk0 : k < 0
    · have hkm : k = -1 := by have := indexAny_ge [13, 10] (s.data.toList.drop a); omega
      subst hkm
      have hone := lines_none _ a a hk
      rw [hone, List.length_drop, ← size_eq, show a + (s.size - a) = s.size by omega] at hr
      obtain ⟨x, rfl, hx⟩ : ∃ x : Ln s.size, rest = [x] ∧ x.1 = (a, s.size) := by
        match rest, hr with
        | [], hr => simp at hr
        | [x], hr => exact ⟨x, rfl, by simpa using hr⟩
        | x :: y :: t, hr => simp at hr
      have hxe : Ln.encs x = #[.int .i64 (a : Int), .int .i64 (s.size : Int)] := by simp [Ln.encs, hx]
      have hlen' := hlen (by simp)
      gi_wp2_with (refine ⟨trivial, ?_⟩; gi_at_call 157; refine (callsIn_wide.2 (indexAny_any _ _ (by have := cut_size s a; omega))).mono ?_; rintro e w1 ⟨rfl, hw1⟩; rw [cut_list, hk]; obtain ⟨hJ1, hB1, hc1⟩ := hnew w1 hw1; obtain ⟨fn, tmps, assign, body, hy, hR⟩ := hY pre x w1 hJ1 hlen'; rw [hxe] at hy)
      refine hR.mono ?_
      rintro e W3 (⟨rfl, hJ3, hk3⟩ | ⟨rfl, hJx3⟩)
      · gi_wp2
        refine bodyPost_ret (results_none rfl _ _ _) rfl ?_
        exact ⟨⟨_, rfl⟩, .inl ⟨_, hl.symm, hJ3⟩⟩
      · gi_wp2
        refine bodyPost_ret (results_none rfl _ _ _) rfl ?_
        exact ⟨⟨_, rfl⟩, .inr ⟨_, ⟨[], by rw [hl]; simp⟩, hJx3⟩⟩
    · obtain ⟨j, rfl⟩ : ∃ j : Nat, k = j := ⟨k.toNat, by omega⟩
      obtain ⟨hjl, he⟩ := lines_hit _ a a j hk
      rw [List.length_drop, ← size_eq] at hjl
      rw [he, List.drop_drop, List.drop_drop, List.drop_drop] at hr
      obtain ⟨x, rest', rfl, hx, hr'⟩ := cons_of hr
      have hxe : Ln.encs x = #[.int .i64 (a : Int), .int .i64 (a + j : Int)] := by simp [Ln.encs, hx]
      have hlen' := hlen (by simp)
      clear hr hlen
      gi_wp2_with (refine ⟨trivial, ?_⟩; gi_at_call 157; refine (callsIn_wide.2 (indexAny_any _ _ (by have := cut_size s a; omega))).mono ?_; rintro e w1 ⟨rfl, hw1⟩; rw [cut_list, hk]; obtain ⟨hJ1, hB1, hc1⟩ := hnew w1 hw1; obtain ⟨fn, tmps, assign, body, hy, hR⟩ := hY pre x w1 hJ1 hlen'; rw [hxe] at hy)
      refine hR.mono ?_
      rintro e W3 (⟨rfl, hJ3, hk3⟩ | ⟨rfl, hJx3⟩)
      · have hB3 := hk3 _ hB1
        have hc3 := hB3.cell
        obtain ⟨p, hp⟩ : ∃ p, hasPrefix (s.data.toList.drop (a + j)) [13, 10] = p := ⟨_, rfl⟩
        rw [hp] at hr'
        have hpx : hasPrefix (s.data.toList.drop (a + j)) (⟨#[13, 10]⟩ : ByteArray).data.toList = p := hp
        have hl' : lns s = (pre ++ [x]) ++ rest' := by rw [hl]; simp
        have haj : a + j < s.size := by omega
        cases p
        · gi_wp2_with (refine ⟨trivial, ?_⟩; gi_at_call 158; refine (callsIn_wide.2 (Tryz.strings_HasPrefix _ _ _)).mono ?_; rintro e w2 ⟨rfl, hw2⟩; rw [hw2, cut_list, hpx])
          go_roundw
          case rel => exact ⟨pre ++ [x], rest', a + j + 1, by go_num, haj, hl', hr', hJ3, hB3⟩
          case measure => simp [RowKit.intOf]; omega
        · have h2 := prefix_two _ hp
          rw [List.length_drop, ← size_eq] at h2
          gi_wp2_with (refine ⟨trivial, ?_⟩; gi_at_call 158; refine (callsIn_wide.2 (Tryz.strings_HasPrefix _ _ _)).mono ?_; rintro e w2 ⟨rfl, hw2⟩; rw [hw2, cut_list, hpx])
          go_roundw
          case rel => exact ⟨pre ++ [x], rest', a + j + 2, by go_num, by omega, hl', hr', hJ3, hB3⟩
          case measure => simp [RowKit.intOf]; omega
      · gi_wp2
        refine bodyPost_ret (results_none rfl _ _ _) rfl ?_
        exact ⟨⟨_, rfl⟩, .inr ⟨_, ⟨rest', by rw [hl]; simp⟩, hJx3⟩⟩
end Go.Proofs.YtcenfckjkboabaaGreatDoor
/- X4: emend/lines.Count and emend/lines.Line. -/
namespace Go.Proofs.YtcenfckjkboabaaGreatDoor
open Go.RowKit Go.Shelf Go.Proofs.Utf Go.Lib

attribute [local go_sem] Oper.semAt_some

theorem each_stops (s : ByteArray) (hs : s.size < 4294967281) (n : Nat) (hn : 1 ≤ n) (Bs : Nat) (w : World) (hc : Boxed w Bs 9 (.string s)) :
    SeqStopsK Fence.wide n Tryz.prog 156 #[.pointer (some ⟨Bs, 0, none⟩)] (Ln.encs (n := s.size)) (Kp Bs) (fun ys => ys = lns s) (fun pre => pre <+: lns s) (s.size + 1) w := fun l J Jx W hW hJ _ hY h0 =>
  each1_in s hs n l Bs hn J Jx hY W (kp_below hW _ hc) hJ h0

end Go.Proofs.YtcenfckjkboabaaGreatDoor
/- X5: emend/lines.Line: the line of a number, or none. -/
namespace Go.Proofs.YtcenfckjkboabaaGreatDoor
open Go.RowKit Go.Shelf Go.Proofs.Utf Go.Lib

attribute [local go_sem] Oper.semAt_some

theorem Bx.ok {W W' : World} {row : Option Nat} {B : Nat} {t : TypeId} {v : Value} (h : Boxed W B t v) (hg : W.grownBy W' row) (hr : ∀ r, row = some r → ∃ o : Obj, W.heap[r]? = some o ∧ o.isCells = false) : Boxed W' B t v :=
  h.kept hg (fun e => by obtain ⟨o, ho, hc⟩ := hr B e.symm; rw [show W.heap[B]? = _ from h] at ho; cases ho; cases hc)
theorem Bx.at {w : World} {B : Nat} (t : TypeId) (v : Value) (h : B = w.heap.size) : Boxed (w.alloc (.cells #[v] t)) B t v := by subst h; exact Boxed.new _ _ _
/-- the line of a number -/
def lineAt (l : List (Nat × Nat)) (n : Int) : Option (Nat × Nat) := if 0 ≤ n then l[n.toNat]? else none
def lineV : Option (Nat × Nat) → Value
  | some p => .tuple #[.int .i64 (p.1 : Int), .int .i64 (p.2 : Int), .bool true]
  | none => .tuple #[.int .i64 0, .int .i64 0, .bool false]

set_option maxRecDepth 100000 in
set_option maxHeartbeats 4000000 in
theorem line_any (s : ByteArray) (n : Int) (w : World) (hs : s.size < 4294967281) :
    Calls Tryz.prog 128 #[.string s, .int .i64 n] w fun e w' => e = .returned (lineV (lineAt (linesL s.data.toList) n)) ∧ Below w.heap.size w w' := by
  refine (callsIn_wide (n := 5)).1 ?_
  refine callsIn_of_wp_marks Tryz.func128 rfl trivial ?_ rfl
  simp only [Tryz.ntmps128, List.size_toArray, List.length_cons, List.length_nil, Nat.reduceAdd, Nat.reduceSub, Array.replicate_succ, Array.replicate_zero, List.push_toArray, List.append_toArray, List.nil_append, List.cons_append]
  gi_wp2_with (refine ⟨trivial, ?_⟩; gi_at_call 149; refine (callsIn_wide.2 (each_any _ _)).mono ?_; rintro e w' ⟨rfl, rfl⟩)
  obtain ⟨W0, hW0⟩ : ∃ W0, (((((w.alloc (.cells #[.int .i64 n] 3)).alloc (.cells #[.int .i64 0] 3)).alloc (.cells #[.int .i64 0] 3)).alloc (.cells #[.bool false] 4)).alloc (.cells #[.int .i64 0] 3)).alloc (.cells #[.string s] 9) = W0 := ⟨_, rfl⟩
  have hB0 : Below w.heap.size w W0 := by
    rw [← hW0]
    exact ((((((Below.refl _ w).alloc (Nat.le_refl _) _).alloc (by simp) _).alloc (by simp; omega) _).alloc (by simp; omega) _).alloc (by simp; omega) _).alloc (by simp; omega) _
  have b0 : Boxed W0 w.heap.size 3 (.int .i64 n) := by rw [← hW0]; exact (((((Bx.at 3 _ (by simp)).alloc _).alloc _).alloc _).alloc _).alloc _
  have b1 : Boxed W0 (w.heap.size + 1) 3 (.int .i64 0) := by rw [← hW0]; exact ((((Bx.at 3 _ (by simp)).alloc _).alloc _).alloc _).alloc _
  have b2 : Boxed W0 (w.heap.size + 2) 3 (.int .i64 0) := by rw [← hW0]; exact (((Bx.at 3 _ (by simp)).alloc _).alloc _).alloc _
  have b3 : Boxed W0 (w.heap.size + 3) 4 (.bool false) := by rw [← hW0]; exact ((Bx.at 4 _ (by simp)).alloc _).alloc _
  have b4 : Boxed W0 (w.heap.size + 4) 3 (.int .i64 0) := by rw [← hW0]; exact (Bx.at 3 _ (by simp)).alloc _
  have b5 : Boxed W0 (w.heap.size + 5) 9 (.string s) := by rw [← hW0]; exact Bx.at 9 _ (by simp)
  have hsz : W0.heap.size = w.heap.size + 6 := by rw [← hW0]; simp
  rw [hW0, show w.heap.size + 1 + 1 = w.heap.size + 2 from rfl, show w.heap.size + 2 + 1 = w.heap.size + 3 from rfl, show w.heap.size + 3 + 1 = w.heap.size + 4 from rfl, show w.heap.size + 4 + 1 = w.heap.size + 5 from rfl]
  clear hW0
  have hlen : (lns s).length = (linesL s.data.toList).length := by rw [← lns_val s, List.length_map]
  have hmax := lns_length s
  refine wpIn_rangeFunc_ownF rfl (by omega) (gf := 156) (lb := #[.pointer (some ⟨w.heap.size + 5, 0, none⟩)]) rfl trivial (enters_of Tryz.func156 (by kernel_rfl) rfl)
    (each_stops s hs _ (by omega) (w.heap.size + 5) _ b5) Kp.trans (fun W l o o' _ hl ho _ => kp_b W l o o' hl ho) (Below.refl _ _) (fun _ => rfl)
    (fun pre W => (¬ (0 ≤ n ∧ n < pre.length) ∧ Boxed W w.heap.size 3 (.int .i64 n) ∧ Boxed W (w.heap.size + 1) 3 (.int .i64 0) ∧ Boxed W (w.heap.size + 2) 3 (.int .i64 0) ∧ Boxed W (w.heap.size + 3) 4 (.bool false) ∧ Boxed W (w.heap.size + 4) 3 (.int .i64 (pre.length : Int))) ∧ Below w.heap.size w W)
    (fun c pre W => (c = .ret ∧ ∃ (q : List (Ln s.size)) (x : Ln s.size), pre = q ++ [x] ∧ n = q.length ∧ Boxed W (w.heap.size + 1) 3 (.int .i64 (x.1.1 : Int)) ∧ Boxed W (w.heap.size + 2) 3 (.int .i64 (x.1.2 : Int)) ∧ Boxed W (w.heap.size + 3) 4 (.bool true)) ∧ Below w.heap.size w W)
    (OwnFrom.and (Own.from (fun pre A B row hs hg hr => ⟨hs.1, Bx.ok hs.2.1 hg hr, Bx.ok hs.2.2.1 hg hr, Bx.ok hs.2.2.2.1 hg hr, Bx.ok hs.2.2.2.2.1 hg hr, Bx.ok hs.2.2.2.2.2 hg hr⟩) _) (ownFrom_below (Nat.le_refl _) (by omega)))
    (fun c => OwnFrom.and (Own.from (fun pre A B row hs hg hr => by obtain ⟨hc, q, x, h1, h2, h3, h4, h5⟩ := hs; exact ⟨hc, q, x, h1, h2, Bx.ok h3 hg hr, Bx.ok h4 hg hr, Bx.ok h5 hg hr⟩) _) (ownFrom_below (Nat.le_refl _) (by omega)))
    ⟨⟨by simp, b0, b1, b2, b3, b4⟩, hB0⟩
    (fun x => { tmps := #[.string s, .int .i64 n, undef, .pointer (some ⟨w.heap.size, 0, none⟩), .pointer (some ⟨w.heap.size + 1, 0, none⟩), .pointer (some ⟨w.heap.size + 2, 0, none⟩), .pointer (some ⟨w.heap.size + 3, 0, none⟩), .pointer (some ⟨w.heap.size + 4, 0, none⟩), .int .i64 (x.1.1 : Int), .int .i64 (x.1.2 : Int), .string s, .func (.func 156) #[] #[.pointer (some ⟨w.heap.size + 5, 0, none⟩)], .int .i64 (x.1.1 : Int), .int .i64 (x.1.2 : Int), undef, undef, undef, undef, undef, undef, undef], defers := [] }) ?assign ?body ?done ?stop
  case assign =>
    intro l x W K hK
    gi_wp2
    exact hK
  case body =>
    rintro l pre x W ⟨⟨hn, h0, h1, h2, h3, h4⟩, hB⟩ hlt
    have c0 := h0.cell; have c4 := h4.cell; have f4 := h4.frozen; have f1 := h1.frozen; have c1 := h1.cell; have f2 := h2.frozen; have c2 := h2.cell; have f3 := h3.frozen; have c3 := h3.cell
    by_cases hkn : (pre.length : Int) = n
    · have hbq : ((pre.length : Int) == n) = true := beq_iff_eq.2 hkn
      gi_wp2
      exact ⟨((KeepsOthers.setCell _ _ _).trans (KeepsOthers.setCell _ _ _)).trans (KeepsOthers.setCell _ _ _),
        ⟨rfl, pre, x, rfl, hkn.symm, ((h1.set _).other (by omega) _).other (by omega) _, ((h2.other (by omega) _).set _).other (by omega) _, ((h3.other (by omega) _).other (by omega) _).set _⟩,
        ((hB.setCell (p := ⟨w.heap.size + 1, 0, none⟩) (by simp) _).setCell (p := ⟨w.heap.size + 2, 0, none⟩) (by simp) _).setCell (p := ⟨w.heap.size + 3, 0, none⟩) (by simp) _⟩
    · have hbq : ((pre.length : Int) == n) = false := beq_eq_false_iff_ne.2 hkn
      gi_wp2
      refine ⟨KeepsOthers.setCell _ _ _, fun v hv => hv.other (by omega) _, ⟨?_, h0.other (by omega) _, h1.other (by omega) _, h2.other (by omega) _, h3.other (by omega) _, ?_⟩, hB.setCell (p := ⟨w.heap.size + 4, 0, none⟩) (by simp) _⟩
      · rw [List.length_append, List.length_singleton]
        omega
      · rw [List.length_append, List.length_singleton]
        exact h4.set _
  case done =>
    rintro D ys W hD rfl ⟨⟨hn, h0, h1, h2, h3, h4⟩, hB⟩ hK
    have f1 := h1.frozen; have c1 := h1.cell; have f2 := h2.frozen; have c2 := h2.cell; have f3 := h3.frozen; have c3 := h3.cell
    gi_wp2
    have hnone : lineAt (linesL s.data.toList) n = none := by
      unfold lineAt
      split
      · exact List.getElem?_eq_none (by omega)
      · rfl
    rw [hnone]
    have k3 := ((KeepsOthers.setCell W ⟨w.heap.size + 1, 0, none⟩ (.int .i64 0)).trans (KeepsOthers.setCell _ ⟨w.heap.size + 2, 0, none⟩ (.int .i64 0))).trans (KeepsOthers.setCell _ ⟨w.heap.size + 3, 0, none⟩ (.bool false))
    have hK' := k3.same D _ hK rfl
    refine ⟨by simp, .inl ⟨_, _, rfl, run_takeDeferred hK', ?_⟩⟩
    have r1 := cell_kept ((((h1.set (.int .i64 0)).other (B' := w.heap.size + 2) (by omega) (.int .i64 0)).other (B' := w.heap.size + 3) (by omega) (.bool false))).cell (grownBy_putObj' _ D (.deferred none)) (fun r e => by cases e; exact ⟨_, hK', rfl⟩)
    have r2 := cell_kept ((((h2.other (B' := w.heap.size + 1) (by omega) (.int .i64 0)).set (.int .i64 0)).other (B' := w.heap.size + 3) (by omega) (.bool false))).cell (grownBy_putObj' _ D (.deferred none)) (fun r e => by cases e; exact ⟨_, hK', rfl⟩)
    have r3 := cell_kept ((((h3.other (B' := w.heap.size + 1) (by omega) (.int .i64 0)).other (B' := w.heap.size + 2) (by omega) (.int .i64 0)).set (.bool false))).cell (grownBy_putObj' _ D (.deferred none)) (fun r e => by cases e; exact ⟨_, hK', rfl⟩)
    have hB3 := ((hB.setCell (p := ⟨w.heap.size + 1, 0, none⟩) (by simp) (.int .i64 0)).setCell (p := ⟨w.heap.size + 2, 0, none⟩) (by simp) (.int .i64 0)).setCell (p := ⟨w.heap.size + 3, 0, none⟩) (by simp) (.bool false)
    refine ⟨_, ?_, rfl, hB3.trans (belowK_b (w := w) (Nat.le_refl _) _ D _ _ (by omega) hK' rfl rfl)⟩
    simp [results, Tryz.f128, go_sem, r1, r2, r3]
    rfl
  case stop =>
    rintro D c pre W hD hpre ⟨⟨rfl, q, x, rfl, hn, h1, h2, h3⟩, hB⟩ hK
    gi_wp2
    have hsome : lineAt (linesL s.data.toList) n = some x.1 := by
      obtain ⟨r, hr⟩ := hpre
      unfold lineAt
      rw [if_pos (by omega), ← lns_val s, ← hr, hn]
      simp
    rw [hsome]
    refine ⟨by simp, .inl ⟨_, _, rfl, run_takeDeferred hK, ?_⟩⟩
    have r1 := cell_kept h1.cell (grownBy_putObj' _ D (.deferred none)) (fun r e => by cases e; exact ⟨_, hK, rfl⟩)
    have r2 := cell_kept h2.cell (grownBy_putObj' _ D (.deferred none)) (fun r e => by cases e; exact ⟨_, hK, rfl⟩)
    have r3 := cell_kept h3.cell (grownBy_putObj' _ D (.deferred none)) (fun r e => by cases e; exact ⟨_, hK, rfl⟩)
    refine ⟨_, ?_, rfl, hB.trans (belowK_b (w := w) (Nat.le_refl _) W D _ _ (by omega) hK rfl rfl)⟩
    simp [results, Tryz.f128, go_sem, r1, r2, r3]
    rfl
end Go.Proofs.YtcenfckjkboabaaGreatDoor
/- X7: emend/lines.Offset, Full, Cut; emendlaw06.three, long. -/
namespace Go.Proofs.YtcenfckjkboabaaGreatDoor
open Go.RowKit Go.Proofs.Utf Go.Lib

attribute [local go_sem] Oper.semAt_some

/-- a block of two ints -/
def Two (W : World) (B : Nat) (t : TypeId) (a b : Int) : Prop := W.heap[B]? = some (.cells #[.int .i64 a, .int .i64 b] t (0, 0))
theorem Two.c0 {W : World} {B : Nat} {t : TypeId} {a b : Int} (h : Two W B t a b) : W.cell? ⟨B, 0, none⟩ = some (.int .i64 a) := by simp [World.cell?, show W.heap[B]? = _ from h]
theorem Two.c1 {W : World} {B : Nat} {t : TypeId} {a b : Int} (h : Two W B t a b) : W.cell? ⟨B, 1, none⟩ = some (.int .i64 b) := by simp [World.cell?, show W.heap[B]? = _ from h]
theorem Two.at {w : World} {B : Nat} (t : TypeId) (a b : Int) (h : B = w.heap.size) : Two (w.alloc (.cells #[.int .i64 a, .int .i64 b] t)) B t a b := by subst h; exact World.alloc_heap_new w _

theorem byteP_le : ∀ (t : List (Nat × Nat)) (pos acc : Nat) (want : Int), byteP t pos acc want ≤ pos + widthP t
  | [], pos, _, _ => by simp [byteP, widthP]
  | (w, r) :: t, pos, acc, want => by
    simp only [byteP, widthP]
    split
    · omega
    · have := byteP_le t (pos + w) (acc + wt r) want
      omega
/-- a line's text -/
def lineB (s : ByteArray) (x : Nat × Nat) : ByteArray := s.extract x.1 x.2
theorem lineB_size (s : ByteArray) (x : Nat × Nat) : (lineB s x).size = min x.2 s.size - x.1 := by simp [lineB]
theorem lineAt_in {s : ByteArray} {n : Int} {x : Nat × Nat} (h : lineAt (linesL s.data.toList) n = some x) : x.1 ≤ x.2 ∧ x.2 ≤ s.size := by
  unfold lineAt at h
  split at h
  · have := linesP_in s.data.toList false 0 0 (Nat.le_refl _) x (List.mem_of_getElem? h)
    rw [size_eq]
    omega
  · cases h
def offP (s : ByteArray) (a b : Int) : Int × Int :=
  if a < 0 ∨ b < 0 then (0, 2) else match lineAt (linesL s.data.toList) a with
  | none => ((s.size : Int), 0)
  | some x => ((x.1 : Int) + byteP (pieces (lineB s x).data.toList) 0 0 b, 0)

set_option maxRecDepth 100000 in
set_option maxHeartbeats 2000000 in
theorem offset_any (s : ByteArray) (a b : Int) (w : World) (hs : s.size < 4294967281) :
    Calls Tryz.prog 116 #[.string s, .agg #[.int .i64 a, .int .i64 b]] w fun e w' => e = .returned (.tuple #[.int .i64 (offP s a b).1, .int .i64 (offP s a b).2]) ∧ Below w.heap.size w w' := by
  by_cases ha : a < 0
  · have ho : offP s a b = (0, 2) := if_pos (.inl ha)
    rw [ho]
    go_enter Tryz.func116, Tryz.ntmps116
    go_wp2
    go_ret2
    exact ⟨rfl, (Below.refl _ _).alloc (Nat.le_refl _) _⟩
  by_cases hb : b < 0
  · have ho : offP s a b = (0, 2) := if_pos (.inr hb)
    rw [ho]
    go_enter Tryz.func116, Tryz.ntmps116
    go_wp2
    go_ret2
    exact ⟨rfl, (Below.refl _ _).alloc (Nat.le_refl _) _⟩
  have ho : offP s a b = match lineAt (linesL s.data.toList) a with
    | none => ((s.size : Int), 0)
    | some x => ((x.1 : Int) + byteP (pieces (lineB s x).data.toList) 0 0 b, 0) := if_neg (by omega)
  cases hl : lineAt (linesL s.data.toList) a with
  | none =>
    rw [hl] at ho
    dsimp only at ho
    rw [ho]
    go_enter Tryz.func116, Tryz.ntmps116
    go_wp2_with (go_at_call 128; refine (line_any _ _ _ hs).mono ?_; rintro e w1 ⟨rfl, hw1⟩; rw [hl]; simp only [lineV])
    go_ret2
    exact ⟨rfl, ((Below.refl _ w).alloc (Nat.le_refl _) _).trans (hw1.mono (by simp))⟩
  | some x =>
    rw [hl] at ho
    dsimp only at ho
    rw [ho]
    have hx := lineAt_in hl
    have hz := lineB_size s x
    have hby := byteP_le (pieces (lineB s x).data.toList) 0 0 b
    rw [widthP_pieces _ _ (Nat.le_refl _), ← size_eq, hz] at hby
    obtain ⟨y, hy⟩ : ∃ y, byteP (pieces (lineB s x).data.toList) 0 0 b = y := ⟨_, rfl⟩
    rw [hy] at hby ⊢
    have hwr : IntKind.i64.wrap ((x.1 : Int) + (y : Int)) = (x.1 : Int) + (y : Int) := IntWalk.i64_in _ (by omega)
    have hcell : ∀ w1, Below (w.alloc (.cells #[.int .i64 a, .int .i64 b] 74)).heap.size (w.alloc (.cells #[.int .i64 a, .int .i64 b] 74)) w1 → w1.cell? ⟨w.heap.size, 0, none⟩ = some (.int .i64 a) ∧ w1.cell? ⟨w.heap.size, 1, none⟩ = some (.int .i64 b) ∧ Below w.heap.size w w1 := fun w1 hw1 =>
      have t := (Two.at (w := w) 74 a b rfl)
      have t1 : Two w1 w.heap.size 74 a b := (hw1.block _ (by simp)).trans t
      ⟨t1.c0, t1.c1, ((Below.refl _ w).alloc (Nat.le_refl _) _).trans (hw1.mono (by simp))⟩
    go_enter Tryz.func116, Tryz.ntmps116
    go_wp2_with (go_at_call 128; refine (line_any _ _ _ hs).mono ?_; rintro e w1 ⟨rfl, hw1⟩; rw [hl]; simp only [lineV]; obtain ⟨c0, c1, hB1⟩ := hcell w1 hw1)
    go_region_held3 (fun w' => w'.cell? ⟨w.heap.size, 1, none⟩ = some (.int .i64 b)) (first | assumption | (simp; assumption)) ((go_at_call 129; refine (utfByte_any (lineB s x) b _ (by omega)).mono ?_; rintro e w2 ⟨rfl, hw2⟩; rw [hy]; have c2 := (hw2.cell (p := ⟨w.heap.size, 1, none⟩) (by have := hB1.size; have := hw1.size; simp at this ⊢; omega)).trans c1; have hB2 := hB1.drew.trans (hw2.mono hB1.size)))
    go_wp2
    go_ret2
    exact ⟨rfl, by assumption⟩
end Go.Proofs.YtcenfckjkboabaaGreatDoor
/- Z2: emend/lines.Cut; LinesKnown's walk. -/
namespace Go.Proofs.YtcenfckjkboabaaGreatDoor
open Go.RowKit Go.Proofs.Utf Go.Lib

theorem on_of {W w : World} {f : FuncId} {args : Array Value} {v : Value} (h : ∀ w, Calls Tryz.prog f args w fun e w' => e = .returned v ∧ Below w.heap.size w w') (hw : Below W.heap.size W w) :
    Calls Tryz.prog f args w fun e w' => e = .returned v ∧ Below W.heap.size W w' := (h w).mono fun _ _ ⟨he, hb⟩ => ⟨he, hw.trans (hb.mono hw.size)⟩
/-- the places of a range -/
def cutP (s : ByteArray) (a b c d : Int) : Int × Int × Int :=
  if (offP s a b).2 ≠ 0 ∨ (offP s c d).2 ≠ 0 ∨ (offP s c d).1 < (offP s a b).1 then (0, 0, 2) else ((offP s a b).1, (offP s c d).1, 0)
set_option maxRecDepth 100000 in
set_option maxHeartbeats 800000 in
theorem cut_any (s : ByteArray) (a b c d : Int) (w : World) (hs : s.size < 4294967281) :
    Calls Tryz.prog 102 #[.string s, .agg #[.int .i64 a, .int .i64 b, .int .i64 c, .int .i64 d]] w fun e w' => e = .returned (.tuple #[.int .i64 (cutP s a b c d).1, .int .i64 (cutP s a b c d).2.1, .int .i64 (cutP s a b c d).2.2]) ∧ Below w.heap.size w w' := by
  have hB0 : Below w.heap.size w (w.alloc (.cells #[.int .i64 a, .int .i64 b, .int .i64 c, .int .i64 d] 76)) := (Below.refl _ w).alloc (Nat.le_refl _) _
  have hc0 : (w.alloc (.cells #[.int .i64 a, .int .i64 b, .int .i64 c, .int .i64 d] 76)).heap[w.heap.size]? = some (.cells #[.int .i64 a, .int .i64 b, .int .i64 c, .int .i64 d] 76) := World.alloc_heap_new w _
  have c1 := fun w => offset_any s a b w hs
  have c2 := fun w => offset_any s c d w hs
  unfold cutP
  generalize offP s a b = A at *
  generalize offP s c d = B at *
  obtain ⟨m, e⟩ := A
  obtain ⟨n, f⟩ := B
  have hk : ∀ w1, Below (w.alloc (.cells #[.int .i64 a, .int .i64 b, .int .i64 c, .int .i64 d] 76)).heap.size (w.alloc (.cells #[.int .i64 a, .int .i64 b, .int .i64 c, .int .i64 d] 76)) w1 →
      w1.cell? ⟨w.heap.size, 2, none⟩ = some (.int .i64 c) ∧ w1.cell? ⟨w.heap.size, 3, none⟩ = some (.int .i64 d) := fun w1 hw1 => by
    have h1 : w1.heap[w.heap.size]? = some (.cells #[.int .i64 a, .int .i64 b, .int .i64 c, .int .i64 d] 76) := (hw1.block _ (by simp)).trans hc0
    constructor <;> simp [World.cell?, h1]
  by_cases he : e = 0
  · subst he
    by_cases hf : f = 0
    · subst hf
      by_cases hmn : n < m
      · have hcond : (((0 : Int) ≠ 0) ∨ ((0 : Int) ≠ 0) ∨ n < m) := .inr (.inr hmn)
        simp only [if_pos hcond]
        go_enter Tryz.func102, Tryz.ntmps102
        go_wp2_with (first
          | (go_at_call 116; (with_reducible refine (c1 _).mono ?_); rintro e1 w1 ⟨rfl, hw1⟩; obtain ⟨k2, k3⟩ := hk w1 hw1)
          | (go_at_call 116; (with_reducible refine (c2 _).mono ?_); rintro e2 w2 ⟨rfl, hw2⟩))
        go_ret3
        exact ⟨rfl, (hB0.trans (hw1.mono hB0.size)).trans (hw2.mono (Nat.le_trans hB0.size hw1.size))⟩
      · have hcond : ¬ (((0 : Int) ≠ 0) ∨ ((0 : Int) ≠ 0) ∨ n < m) := by simp; omega
        simp only [if_neg hcond]
        go_enter Tryz.func102, Tryz.ntmps102
        go_wp2_with (first
          | (go_at_call 116; (with_reducible refine (c1 _).mono ?_); rintro e1 w1 ⟨rfl, hw1⟩; obtain ⟨k2, k3⟩ := hk w1 hw1)
          | (go_at_call 116; (with_reducible refine (c2 _).mono ?_); rintro e2 w2 ⟨rfl, hw2⟩))
        go_ret3
        exact ⟨rfl, (hB0.trans (hw1.mono hB0.size)).trans (hw2.mono (Nat.le_trans hB0.size hw1.size))⟩
    · have hcond : (((0 : Int) ≠ 0) ∨ (f ≠ 0) ∨ n < m) := .inr (.inl hf)
      simp only [if_pos hcond]
      have hfb : (f == 0) = false := beq_eq_false_iff_ne.2 hf
      go_enter Tryz.func102, Tryz.ntmps102
      go_wp2_with (first
        | (go_at_call 116; (with_reducible refine (c1 _).mono ?_); rintro e1 w1 ⟨rfl, hw1⟩; obtain ⟨k2, k3⟩ := hk w1 hw1)
        | (go_at_call 116; (with_reducible refine (c2 _).mono ?_); rintro e2 w2 ⟨rfl, hw2⟩))
      go_ret3
      exact ⟨rfl, (hB0.trans (hw1.mono hB0.size)).trans (hw2.mono (Nat.le_trans hB0.size hw1.size))⟩
  · have hcond : ((e ≠ 0) ∨ (f ≠ 0) ∨ n < m) := .inl he
    simp only [if_pos hcond]
    have heb : (e == 0) = false := beq_eq_false_iff_ne.2 he
    go_enter Tryz.func102, Tryz.ntmps102
    go_wp2_with (first
      | (go_at_call 116; (with_reducible refine (c1 _).mono ?_); rintro e1 w1 ⟨rfl, hw1⟩; obtain ⟨k2, k3⟩ := hk w1 hw1)
      | (go_at_call 116; (with_reducible refine (c2 _).mono ?_); rintro e2 w2 ⟨rfl, hw2⟩))
    go_ret3
    exact ⟨rfl, (hB0.trans (hw1.mono hB0.size)).trans (hw2.mono (Nat.le_trans hB0.size hw1.size))⟩
end Go.Proofs.YtcenfckjkboabaaGreatDoor
