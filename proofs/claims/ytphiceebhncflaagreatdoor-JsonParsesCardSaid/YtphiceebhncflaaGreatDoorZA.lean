/- Merged texts: Plain, Plain2, Plain3, Jp. -/
import Derived.Lib.ValidLaws
import Derived.Lib.RuneBytes
import Derived.Lib.TrimUEq
import Derived.Lib.DecodeN
/- Plain: Plain laws on points and their bytes: what a text's pieces are, what the document's search for a point's bytes finds. No program in sight. -/
namespace Go.Proofs.Utf
open Go.Lib

/-- a number that is a point -/
def IsPoint (n : Int) : Prop := 0 ≤ n ∧ n ≤ 1114111 ∧ (n < 55296 ∨ 57343 < n)
instance (n : Int) : Decidable (IsPoint n) := by unfold IsPoint; infer_instance

/-- the point at the head of bytes, or -1 -/
def headP (l : List UInt8) : Int := if (decodeL l).1 = 65533 ∧ (decodeL l).2 = 1 then -1 else ((decodeL l).1 : Int)
def headW (l : List UInt8) : Nat := (decodeL l).2
def wt (r : Nat) : Nat := if 65535 < r then 2 else 1

theorem wt_pos (r : Nat) : 1 ≤ wt r := by unfold wt; split <;> omega
theorem wt_le (r : Nat) : wt r ≤ 2 := by unfold wt; split <;> omega

/-- what the reference's Decode tries: the number that `long` bytes spell -/
def cand (long b0 b1 b2 b3 : Nat) : Nat :=
  if long = 1 then b0 else if long = 2 then b0 % 32 * 64 + b1 % 64 else if long = 3 then b0 % 16 * 4096 + b1 % 64 * 64 + b2 % 64
  else b0 % 8 * 262144 + b1 % 64 * 4096 + b2 % 64 * 64 + b3 % 64

theorem toU8 (x : Int) (b : UInt8) (h0 : 0 ≤ x) (h1 : x < 256) : x.toNat.toUInt8 = b ↔ x = b.toNat := by
  constructor
  · intro h
    subst h
    simp
    omega
  · intro h
    subst h
    simp

theorem enc1 (n : Int) (h : 0 ≤ n ∧ n ≤ 127) : encodeRune n = [n.toNat.toUInt8] := by simp [encodeRune, encodeRuneZ, h]
theorem enc2 (n : Int) (h : 128 ≤ n ∧ n ≤ 2047) : encodeRune n = [(192 + n / 64).toNat.toUInt8, (128 + n % 64).toNat.toUInt8] := by
  simp [encodeRune, encodeRuneZ_two h.1 h.2]
theorem enc3 (n : Int) (h : (2048 ≤ n ∧ n < 55296) ∨ (57343 < n ∧ n ≤ 65535)) :
    encodeRune n = [(224 + n / 4096).toNat.toUInt8, (128 + n / 64 % 64).toNat.toUInt8, (128 + n % 64).toNat.toUInt8] := by
  simp [encodeRune, encodeRuneZ_three h]
theorem enc4 (n : Int) (h : 65536 ≤ n ∧ n ≤ 1114111) :
    encodeRune n = [(240 + n / 262144).toNat.toUInt8, (128 + n / 4096 % 64).toNat.toUInt8, (128 + n / 64 % 64).toNat.toUInt8, (128 + n % 64).toNat.toUInt8] := by
  simp [encodeRune, encodeRuneZ_four h.1 h.2]

theorem len_cases (n : Int) (hp : IsPoint n) : (n ≤ 127 ∧ (encodeRune n).length = 1) ∨ (128 ≤ n ∧ n ≤ 2047 ∧ (encodeRune n).length = 2) ∨
    (((2048 ≤ n ∧ n < 55296) ∨ (57343 < n ∧ n ≤ 65535)) ∧ (encodeRune n).length = 3) ∨ (65536 ≤ n ∧ (encodeRune n).length = 4) := by
  obtain ⟨h0, h1, h2⟩ := hp
  by_cases a : n ≤ 127
  · exact .inl ⟨a, by rw [enc1 n ⟨h0, a⟩]; rfl⟩
  by_cases b : n ≤ 2047
  · exact .inr (.inl ⟨by omega, b, by rw [enc2 n ⟨by omega, b⟩]; rfl⟩)
  by_cases c : n ≤ 65535
  · have h3 : (2048 ≤ n ∧ n < 55296) ∨ (57343 < n ∧ n ≤ 65535) := by omega
    exact .inr (.inr (.inl ⟨h3, by rw [enc3 n h3]; rfl⟩))
  · exact .inr (.inr (.inr ⟨by omega, by rw [enc4 n ⟨by omega, h1⟩]; rfl⟩))

/-- one byte -/
theorem hit1 (b0 : UInt8) : (IsPoint (cand 1 b0.toNat 0 0 0) ∧ encodeRune (cand 1 b0.toNat 0 0 0) = [b0]) ↔ b0.toNat < 128 := by
  have := b0.toNat_lt
  simp only [cand, if_pos]
  constructor
  · rintro ⟨hp, he⟩
    rcases len_cases _ hp with ⟨h, _⟩ | ⟨_, _, h⟩ | ⟨_, h⟩ | ⟨_, h⟩
    · omega
    all_goals rw [he] at h; simp at h
  · intro h
    have hp : IsPoint (b0.toNat : Int) := ⟨by omega, by omega, by omega⟩
    refine ⟨hp, ?_⟩
    rw [enc1 _ ⟨by omega, by omega⟩]
    simp
theorem hit2 (b0 b1 : UInt8) : (IsPoint (cand 2 b0.toNat b1.toNat 0 0) ∧ encodeRune (cand 2 b0.toNat b1.toNat 0 0) = [b0, b1]) ↔
    (b0.toNat / 32 = 6 ∧ b1.toNat / 64 = 2 ∧ b0.toNat % 32 * 64 + b1.toNat % 64 ≥ 128) := by
  have := b0.toNat_lt
  have := b1.toNat_lt
  have hc : cand 2 b0.toNat b1.toNat 0 0 = b0.toNat % 32 * 64 + b1.toNat % 64 := by simp [cand]
  rw [hc]
  generalize hn : b0.toNat % 32 * 64 + b1.toNat % 64 = n
  constructor
  · rintro ⟨hp, he⟩
    rcases len_cases _ hp with ⟨_, h⟩ | ⟨h1, h2, _⟩ | ⟨_, h⟩ | ⟨_, h⟩
    · rw [he] at h; simp at h
    · rw [enc2 _ ⟨h1, h2⟩] at he
      simp only [List.cons.injEq, and_true] at he
      obtain ⟨e0, e1⟩ := he
      rw [toU8 _ _ (by omega) (by omega)] at e0 e1
      omega
    all_goals rw [he] at h; simp at h
  · rintro ⟨h1, h2, h3⟩
    have hp : IsPoint (n : Int) := ⟨by omega, by omega, by omega⟩
    refine ⟨hp, ?_⟩
    rw [enc2 _ ⟨by omega, by omega⟩]
    simp only [List.cons.injEq, and_true]
    rw [toU8 _ _ (by omega) (by omega), toU8 _ _ (by omega) (by omega)]
    omega
theorem hit3 (b0 b1 b2 : UInt8) : (IsPoint (cand 3 b0.toNat b1.toNat b2.toNat 0) ∧ encodeRune (cand 3 b0.toNat b1.toNat b2.toNat 0) = [b0, b1, b2]) ↔
    (b0.toNat / 16 = 14 ∧ b1.toNat / 64 = 2 ∧ b2.toNat / 64 = 2 ∧ b0.toNat % 16 * 4096 + b1.toNat % 64 * 64 + b2.toNat % 64 ≥ 2048 ∧
      (b0.toNat % 16 * 4096 + b1.toNat % 64 * 64 + b2.toNat % 64 < 55296 ∨ (57344 ≤ b0.toNat % 16 * 4096 + b1.toNat % 64 * 64 + b2.toNat % 64 ∧ b0.toNat % 16 * 4096 + b1.toNat % 64 * 64 + b2.toNat % 64 ≤ 1114111))) := by
  have := b0.toNat_lt
  have := b1.toNat_lt
  have := b2.toNat_lt
  have hc : cand 3 b0.toNat b1.toNat b2.toNat 0 = b0.toNat % 16 * 4096 + b1.toNat % 64 * 64 + b2.toNat % 64 := by simp [cand]
  rw [hc]
  generalize hn : b0.toNat % 16 * 4096 + b1.toNat % 64 * 64 + b2.toNat % 64 = n
  constructor
  · rintro ⟨hp, he⟩
    rcases len_cases _ hp with ⟨_, h⟩ | ⟨_, _, h⟩ | ⟨h3, _⟩ | ⟨_, h⟩
    · rw [he] at h; simp at h
    · rw [he] at h; simp at h
    · rw [enc3 _ h3] at he
      simp only [List.cons.injEq, and_true] at he
      obtain ⟨e0, e1, e2⟩ := he
      rw [toU8 _ _ (by omega) (by omega)] at e0 e1 e2
      omega
    · rw [he] at h; simp at h
  · rintro ⟨h1, h2, h3, h4, h5⟩
    have hp : IsPoint (n : Int) := ⟨by omega, by omega, by omega⟩
    refine ⟨hp, ?_⟩
    rw [enc3 _ (by omega)]
    simp only [List.cons.injEq, and_true]
    rw [toU8 _ _ (by omega) (by omega), toU8 _ _ (by omega) (by omega), toU8 _ _ (by omega) (by omega)]
    omega
theorem hit4 (b0 b1 b2 b3 : UInt8) : (IsPoint (cand 4 b0.toNat b1.toNat b2.toNat b3.toNat) ∧ encodeRune (cand 4 b0.toNat b1.toNat b2.toNat b3.toNat) = [b0, b1, b2, b3]) ↔
    (b0.toNat / 8 = 30 ∧ b1.toNat / 64 = 2 ∧ b2.toNat / 64 = 2 ∧ b3.toNat / 64 = 2 ∧ b0.toNat % 8 * 262144 + b1.toNat % 64 * 4096 + b2.toNat % 64 * 64 + b3.toNat % 64 ≥ 65536 ∧
      b0.toNat % 8 * 262144 + b1.toNat % 64 * 4096 + b2.toNat % 64 * 64 + b3.toNat % 64 ≤ 1114111) := by
  have := b0.toNat_lt
  have := b1.toNat_lt
  have := b2.toNat_lt
  have := b3.toNat_lt
  have hc : cand 4 b0.toNat b1.toNat b2.toNat b3.toNat = b0.toNat % 8 * 262144 + b1.toNat % 64 * 4096 + b2.toNat % 64 * 64 + b3.toNat % 64 := by simp [cand]
  rw [hc]
  generalize hn : b0.toNat % 8 * 262144 + b1.toNat % 64 * 4096 + b2.toNat % 64 * 64 + b3.toNat % 64 = n
  constructor
  · rintro ⟨hp, he⟩
    have hle : (n : Int) ≤ 1114111 := hp.2.1
    rcases len_cases _ hp with ⟨_, h⟩ | ⟨_, _, h⟩ | ⟨_, h⟩ | ⟨h3, _⟩
    · rw [he] at h; simp at h
    · rw [he] at h; simp at h
    · rw [he] at h; simp at h
    · rw [enc4 _ ⟨h3, hle⟩] at he
      simp only [List.cons.injEq, and_true] at he
      obtain ⟨e0, e1, e2, e3⟩ := he
      rw [toU8 _ _ (by omega) (by omega)] at e0 e1 e2 e3
      omega
  · rintro ⟨h1, h2, h3, h4, h5, h6⟩
    have hp : IsPoint (n : Int) := ⟨by omega, by omega, by omega⟩
    refine ⟨hp, ?_⟩
    rw [enc4 _ ⟨by omega, by omega⟩]
    simp only [List.cons.injEq, and_true]
    rw [toU8 _ _ (by omega) (by omega), toU8 _ _ (by omega) (by omega), toU8 _ _ (by omega) (by omega), toU8 _ _ (by omega) (by omega)]
    omega

/-- the number that the first k bytes spell -/
def candL (l : List UInt8) (k : Nat) : Nat := cand k (l.getD 0 0).toNat (l.getD 1 0).toNat (l.getD 2 0).toNat (l.getD 3 0).toNat
def Hit (l : List UInt8) (k : Nat) : Prop := IsPoint (candL l k) ∧ encodeRune (candL l k) = l.take k
instance (l : List UInt8) (k : Nat) : Decidable (Hit l k) := by unfold Hit; infer_instance

theorem take1 (l : List UInt8) (h : 1 ≤ l.length) : l.take 1 = [l.getD 0 0] := by
  match l, h with
  | [a], _ => simp
  | a :: b :: t, _ => simp
theorem take2 (l : List UInt8) (h : 2 ≤ l.length) : l.take 2 = [l.getD 0 0, l.getD 1 0] := by
  match l, h with
  | a :: b :: t, _ => simp
theorem take3 (l : List UInt8) (h : 3 ≤ l.length) : l.take 3 = [l.getD 0 0, l.getD 1 0, l.getD 2 0] := by
  match l, h with
  | a :: b :: c :: t, _ => simp
theorem take4 (l : List UInt8) (h : 4 ≤ l.length) : l.take 4 = [l.getD 0 0, l.getD 1 0, l.getD 2 0, l.getD 3 0] := by
  match l, h with
  | a :: b :: c :: d :: t, _ => simp
theorem cand1 (a b c d : Nat) : cand 1 a b c d = cand 1 a 0 0 0 := by simp [cand]
theorem cand2 (a b c d : Nat) : cand 2 a b c d = cand 2 a b 0 0 := by simp [cand]
theorem cand3 (a b c d : Nat) : cand 3 a b c d = cand 3 a b c 0 := by simp [cand]
theorem Hit1 (l : List UInt8) (h : 1 ≤ l.length) : Hit l 1 ↔ (l.getD 0 0).toNat < 128 := by
  unfold Hit candL; rw [cand1, take1 l h]; exact hit1 _
theorem Hit2 (l : List UInt8) (h : 2 ≤ l.length) : Hit l 2 ↔ ((l.getD 0 0).toNat / 32 = 6 ∧ (l.getD 1 0).toNat / 64 = 2 ∧ (l.getD 0 0).toNat % 32 * 64 + (l.getD 1 0).toNat % 64 ≥ 128) := by
  unfold Hit candL; rw [cand2, take2 l h]; exact hit2 _ _
theorem Hit3 (l : List UInt8) (h : 3 ≤ l.length) : Hit l 3 ↔ ((l.getD 0 0).toNat / 16 = 14 ∧ (l.getD 1 0).toNat / 64 = 2 ∧ (l.getD 2 0).toNat / 64 = 2 ∧ (l.getD 0 0).toNat % 16 * 4096 + (l.getD 1 0).toNat % 64 * 64 + (l.getD 2 0).toNat % 64 ≥ 2048 ∧ ((l.getD 0 0).toNat % 16 * 4096 + (l.getD 1 0).toNat % 64 * 64 + (l.getD 2 0).toNat % 64 < 55296 ∨ (57344 ≤ (l.getD 0 0).toNat % 16 * 4096 + (l.getD 1 0).toNat % 64 * 64 + (l.getD 2 0).toNat % 64 ∧ (l.getD 0 0).toNat % 16 * 4096 + (l.getD 1 0).toNat % 64 * 64 + (l.getD 2 0).toNat % 64 ≤ 1114111))) := by
  unfold Hit candL; rw [cand3, take3 l h]; exact hit3 _ _ _
theorem Hit4 (l : List UInt8) (h : 4 ≤ l.length) : Hit l 4 ↔ ((l.getD 0 0).toNat / 8 = 30 ∧ (l.getD 1 0).toNat / 64 = 2 ∧ (l.getD 2 0).toNat / 64 = 2 ∧ (l.getD 3 0).toNat / 64 = 2 ∧ (l.getD 0 0).toNat % 8 * 262144 + (l.getD 1 0).toNat % 64 * 4096 + (l.getD 2 0).toNat % 64 * 64 + (l.getD 3 0).toNat % 64 ≥ 65536 ∧ (l.getD 0 0).toNat % 8 * 262144 + (l.getD 1 0).toNat % 64 * 4096 + (l.getD 2 0).toNat % 64 * 64 + (l.getD 3 0).toNat % 64 ≤ 1114111) := by
  unfold Hit candL; rw [take4 l h]; exact hit4 _ _ _ _

theorem found (l : List UInt8) (k : Nat) (h1 : 1 ≤ k) (h4 : k ≤ 4) (hl : k ≤ l.length) (hh : Hit l k) : decodeL l = (candL l k, k) := by
  rw [decodeL_N]
  have hb0 := (l.getD 0 0).toNat_lt
  have hb1 := (l.getD 1 0).toNat_lt
  have hb2 := (l.getD 2 0).toNat_lt
  have hb3 := (l.getD 3 0).toNat_lt
  rcases (show k = 1 ∨ k = 2 ∨ k = 3 ∨ k = 4 from by omega) with rfl | rfl | rfl | rfl
  · have := (Hit1 l hl).1 hh
    unfold candL
    generalize (l.getD 0 0).toNat = a at *
    simp [decodeN, cand, this]
  · have := (Hit2 l hl).1 hh
    unfold candL
    generalize (l.getD 0 0).toNat = a at *
    generalize (l.getD 1 0).toNat = b at *
    obtain ⟨e1, e2, e3⟩ := this
    simp only [decodeN, cand]
    rw [if_neg (by omega), if_pos (by omega), if_pos e3]
    simp
  · have := (Hit3 l hl).1 hh
    unfold candL
    generalize (l.getD 0 0).toNat = a at *
    generalize (l.getD 1 0).toNat = b at *
    generalize (l.getD 2 0).toNat = c at *
    obtain ⟨e1, e2, e3, e4, e5⟩ := this
    simp only [decodeN, cand]
    rw [if_neg (by omega), if_neg (by omega), if_pos (by omega), if_pos ⟨e4, e5⟩]
    simp
  · have := (Hit4 l hl).1 hh
    unfold candL
    generalize (l.getD 0 0).toNat = a at *
    generalize (l.getD 1 0).toNat = b at *
    generalize (l.getD 2 0).toNat = c at *
    generalize (l.getD 3 0).toNat = d at *
    obtain ⟨e1, e2, e3, e4, e5, e6⟩ := this
    simp only [decodeN, cand]
    rw [if_neg (by omega), if_neg (by omega), if_neg (by omega), if_pos (by omega), if_pos ⟨e5, by omega⟩]
    simp
theorem missed (l : List UInt8) (h0 : 1 ≤ l.length) (h : ∀ k, 1 ≤ k → k ≤ 4 → k ≤ l.length → ¬ Hit l k) : decodeL l = (65533, 1) := by
  rw [decodeL_N]
  have hb0 := (l.getD 0 0).toNat_lt
  have n1 := mt (Hit1 l h0).2 (h 1 (by omega) (by omega) h0)
  have n2 : 2 ≤ l.length → _ := fun hl => mt (Hit2 l hl).2 (h 2 (by omega) (by omega) hl)
  have n3 : 3 ≤ l.length → _ := fun hl => mt (Hit3 l hl).2 (h 3 (by omega) (by omega) hl)
  have n4 : 4 ≤ l.length → _ := fun hl => mt (Hit4 l hl).2 (h 4 (by omega) (by omega) hl)
  generalize (l.getD 0 0).toNat = a at *
  generalize (l.getD 1 0).toNat = b at *
  generalize (l.getD 2 0).toNat = c at *
  generalize (l.getD 3 0).toNat = d at *
  generalize l.length = n at *
  simp only [decodeN]
  rw [if_neg n1]
  split
  · rename_i hh
    rw [if_neg (fun hc => n2 (by omega) ⟨hh.1, hh.2.2, hc⟩)]
  split
  · rename_i hh
    rw [if_neg (fun hc => n3 (by omega) ⟨hh.1, hh.2.1.2, hh.2.2.2, hc.1, hc.2⟩)]
  split
  · rename_i hh
    rw [if_neg (fun hc => n4 (by omega) ⟨hh.1, hh.2.1.2, hh.2.2.1.2, hh.2.2.2.2, hc.1, by omega⟩)]
  rfl
theorem cand_ne (l : List UInt8) (k : Nat) (h1 : 1 ≤ k) (h4 : k ≤ 4) (hl : k ≤ l.length) (hh : Hit l k) : ¬ (candL l k = 65533 ∧ k = 1) := by
  rintro ⟨h, rfl⟩
  have := (Hit1 l hl).1 hh
  simp [candL, cand] at h
  simp at this
  omega
theorem head_found (l : List UInt8) (k : Nat) (h1 : 1 ≤ k) (h4 : k ≤ 4) (hl : k ≤ l.length) (hh : Hit l k) : headP l = candL l k ∧ headW l = k := by
  have := cand_ne l k h1 h4 hl hh
  unfold headP headW
  rw [found l k h1 h4 hl hh, if_neg this]
  exact ⟨rfl, rfl⟩
theorem head_missed (l : List UInt8) (h0 : 1 ≤ l.length) (h : ∀ k, 1 ≤ k → k ≤ 4 → k ≤ l.length → ¬ Hit l k) : headP l = -1 ∧ headW l = 1 := by
  unfold headP headW
  rw [missed l h0 h]
  simp

/-! ### a text's pieces: the width and the number of each -/
def isPt (l : List UInt8) : Bool := decide (¬ ((decodeL l).1 = 65533 ∧ (decodeL l).2 = 1))
theorem isPt_yes (l : List UInt8) (h : isPt l = true) : headP l = ((decodeL l).1 : Int) := by
  unfold isPt at h; unfold headP; rw [if_neg (of_decide_eq_true h)]
theorem isPt_no (l : List UInt8) (h : isPt l = false) : headP l = -1 ∧ headW l = 1 := by
  unfold isPt at h
  have h' : (decodeL l).1 = 65533 ∧ (decodeL l).2 = 1 := by simpa using h
  exact ⟨by unfold headP; rw [if_pos h'], h'.2⟩
theorem headW_pos (l : List UInt8) : 1 ≤ headW l := decodeL_width l
theorem decodeN_le (n a b c d : Nat) (hn : 1 ≤ n) : (decodeN n a b c d).2 ≤ n := by
  unfold decodeN
  repeat' split
  all_goals simp only []
  all_goals omega
theorem headW_le (l : List UInt8) (h : 1 ≤ l.length) : headW l ≤ l.length := by
  unfold headW; rw [decodeL_N]; exact decodeN_le _ _ _ _ _ h
theorem decodeN_wt (n a b c d : Nat) (ha : a < 256) : wt (decodeN n a b c d).1 ≤ (decodeN n a b c d).2 := by
  unfold decodeN wt
  repeat' split
  all_goals simp only [] at *
  all_goals omega
theorem wt_le_headW (l : List UInt8) : wt (decodeL l).1 ≤ headW l := by
  unfold headW; rw [decodeL_N]; exact decodeN_wt _ _ _ _ _ (UInt8.toNat_lt _)
theorem decodeN_le4 (n a b c d : Nat) : (decodeN n a b c d).2 ≤ 4 := by
  unfold decodeN
  repeat' split
  all_goals simp only []
  all_goals omega
theorem headW_le4 (l : List UInt8) : headW l ≤ 4 := by
  unfold headW; rw [decodeL_N]; exact decodeN_le4 _ _ _ _ _

def pcs : Nat → List UInt8 → List (Nat × Nat)
  | 0, _ => []
  | n + 1, l => if l = [] then [] else (headW l, (decodeL l).1) :: pcs n (l.drop (headW l))
def pieces (l : List UInt8) : List (Nat × Nat) := pcs l.length l
theorem pcs_nil : ∀ n, pcs n [] = []
  | 0 => rfl
  | _ + 1 => by simp [pcs]
theorem pcs_fuel : ∀ (n m : Nat) (l : List UInt8), l.length ≤ n → l.length ≤ m → pcs n l = pcs m l
  | 0, m, l, hn, _ => by
    have : l = [] := List.eq_nil_of_length_eq_zero (by omega)
    subst this
    rw [pcs_nil, pcs_nil]
  | n + 1, 0, l, _, hm => by
    have : l = [] := List.eq_nil_of_length_eq_zero (by omega)
    subst this
    rw [pcs_nil, pcs_nil]
  | n + 1, m + 1, l, hn, hm => by
    unfold pcs
    by_cases hne : l = []
    · simp [hne]
    · have hw := headW_pos l
      have hl : 0 < l.length := List.length_pos_iff.2 hne
      rw [if_neg hne, if_neg hne, pcs_fuel n m (l.drop (headW l)) (by rw [List.length_drop]; omega) (by rw [List.length_drop]; omega)]
theorem pieces_step (l : List UInt8) (h : l ≠ []) : pieces l = (headW l, (decodeL l).1) :: pieces (l.drop (headW l)) := by
  have hl : 0 < l.length := List.length_pos_iff.2 h
  have hw := headW_pos l
  obtain ⟨n, hn⟩ : ∃ n, l.length = n + 1 := ⟨l.length - 1, by omega⟩
  unfold pieces
  rw [hn]
  show (if l = [] then [] else _) = _
  rw [if_neg h, pcs_fuel n (l.drop (headW l)).length _ (by rw [List.length_drop]; omega) (Nat.le_refl _)]
theorem pieces_nil : pieces [] = [] := rfl

/-- the units of pieces -/
def unitsP : List (Nat × Nat) → Nat
  | [] => 0
  | (_, r) :: t => wt r + unitsP t
/-- where the piece of a unit begins: `pos`, `acc`: what lies ahead -/
def byteP : List (Nat × Nat) → Nat → Nat → Int → Nat
  | [], pos, _, _ => pos
  | (w, r) :: t, pos, acc, want => if want < ((acc + wt r : Nat) : Int) then pos else byteP t (pos + w) (acc + wt r) want
/-- the units ahead of a place, as the program reckons them -/
def uaP : List (Nat × Nat) → Nat → Nat → Nat → Int → Nat
  | [], pos, n, last, a => if a < (pos : Int) then n - last else n
  | (w, r) :: t, pos, n, last, a => if a < (pos : Int) then n - last else if (pos : Int) = a then n else uaP t (pos + w) (n + wt r) (wt r) a
def widthP : List (Nat × Nat) → Nat
  | [] => 0
  | (w, _) :: t => w + widthP t
theorem widthP_pieces : ∀ (k : Nat) (l : List UInt8), l.length ≤ k → widthP (pieces l) = l.length
  | 0, l, h => by
    have : l = [] := List.eq_nil_of_length_eq_zero (by omega)
    subst this; rfl
  | k + 1, l, h => by
    by_cases hne : l = []
    · subst hne; rfl
    · have hl : 0 < l.length := List.length_pos_iff.2 hne
      have h1 := headW_pos l
      have h2 := headW_le l hl
      rw [pieces_step l hne]
      simp only [widthP]
      rw [widthP_pieces k _ (by rw [List.length_drop]; omega), List.length_drop]
      omega
theorem unitsP_le : ∀ (k : Nat) (l : List UInt8), l.length ≤ k → unitsP (pieces l) ≤ l.length
  | 0, l, h => by
    have : l = [] := List.eq_nil_of_length_eq_zero (by omega)
    subst this; exact Nat.le_refl _
  | k + 1, l, h => by
    by_cases hne : l = []
    · subst hne; exact Nat.le_refl _
    · have hl : 0 < l.length := List.length_pos_iff.2 hne
      have h1 := headW_pos l
      have h2 := headW_le l hl
      have h3 := wt_le_headW l
      have := unitsP_le k (l.drop (headW l)) (by rw [List.length_drop]; omega)
      rw [pieces_step l hne]
      simp only [unitsP]
      rw [List.length_drop] at this
      omega

/-- the pieces of a text from a place on, for a walk over it -/
def from_ (s : ByteArray) (pos : Nat) : List (Nat × Nat) := pieces (s.data.toList.drop pos)
theorem from_step (s : ByteArray) (pos : Nat) (h : pos < s.size) : from_ s pos = ((Utf8.decode s pos).2, (Utf8.decode s pos).1) :: from_ s (pos + (Utf8.decode s pos).2) := by
  unfold from_
  rw [pieces_step _ (by intro e; have := congrArg List.length e; rw [List.length_drop, ← Lib.size_eq] at this; simp at this; omega), List.drop_drop]
  unfold headW
  rw [decodeL_drop]
theorem from_end (s : ByteArray) (pos : Nat) (h : ¬ pos < s.size) : from_ s pos = [] := by
  unfold from_
  rw [List.drop_eq_nil_of_le (by rw [← Lib.size_eq]; omega)]
  rfl
theorem dec_le (s : ByteArray) (pos : Nat) (h : pos < s.size) : pos + (Utf8.decode s pos).2 ≤ s.size := by
  have := headW_le (s.data.toList.drop pos) (by rw [List.length_drop, ← Lib.size_eq]; omega)
  unfold headW at this
  rw [decodeL_drop, List.length_drop, ← Lib.size_eq] at this
  omega
theorem dec_pos (s : ByteArray) (pos : Nat) : 1 ≤ (Utf8.decode s pos).2 := by
  have := headW_pos (s.data.toList.drop pos)
  unfold headW at this
  rwa [decodeL_drop] at this
theorem dec_wt (s : ByteArray) (pos : Nat) : wt (Utf8.decode s pos).1 ≤ (Utf8.decode s pos).2 := by
  have := wt_le_headW (s.data.toList.drop pos)
  unfold headW at this
  rwa [decodeL_drop] at this

/-! ### the number that the reference's loop gathers -/
def startN (k b0 : Nat) : Nat := if k = 1 then b0 else if k = 3 then b0 % 16 else if k = 4 then b0 % 8 else b0 % 32
def gather (l : List UInt8) (k : Nat) : Nat → Nat
  | 0 => 0
  | 1 => startN k (l.getD 0 0).toNat
  | i + 2 => 64 * gather l k (i + 1) + (l.getD (i + 1) 0).toNat % 64
theorem gather_le (l : List UInt8) (k i : Nat) (h : i ≤ 4) : gather l k i ≤ 67108863 := by
  have h1 : gather l k 1 ≤ 255 := by
    have := (l.getD 0 0).toNat_lt
    simp only [gather, startN]
    repeat' split
    all_goals omega
  rcases (show i = 0 ∨ i = 1 ∨ i = 2 ∨ i = 3 ∨ i = 4 from by omega) with rfl | rfl | rfl | rfl | rfl
  · simp [gather]
  · omega
  · show 64 * gather l k 1 + _ ≤ _
    omega
  · show 64 * (64 * gather l k 1 + _) + _ ≤ _
    omega
  · show 64 * (64 * (64 * gather l k 1 + _) + _) + _ ≤ _
    omega
theorem gather_cand (l : List UInt8) (k : Nat) (h1 : 1 ≤ k) (h4 : k ≤ 4) : gather l k k = candL l k := by
  rcases (show k = 1 ∨ k = 2 ∨ k = 3 ∨ k = 4 from by omega) with rfl | rfl | rfl | rfl
  · simp [gather, startN, candL, cand]
  · simp [gather, startN, candL, cand]; omega
  · simp [gather, startN, candL, cand]; omega
  · simp [gather, startN, candL, cand]; omega
theorem gather_succ (l : List UInt8) (k i : Nat) (h : 1 ≤ i) : gather l k (i + 1) = 64 * gather l k i + (l.getD i 0).toNat % 64 := by
  obtain ⟨j, rfl⟩ : ∃ j, i = j + 1 := ⟨i - 1, by omega⟩
  rfl
theorem start1 (l : List UInt8) (k : Nat) (x : UInt8) (h : x = l.getD 0 0) (h1 : 1 ≤ k) (h2 : k ≤ 1) : (x.toNat : Int) = (gather l k 1 : Nat) := by
  obtain rfl : k = 1 := by omega
  rw [h]; simp [gather, startN]
theorem start2 (l : List UInt8) (k : Nat) (x : UInt8) (h : x = l.getD 0 0) (h1 : 2 ≤ k) (h2 : k ≤ 2) : (x.toNat : Int) % 32 = (gather l k 1 : Nat) := by
  obtain rfl : k = 2 := by omega
  rw [h]; simp [gather, startN]
theorem start3 (l : List UInt8) (k : Nat) (x : UInt8) (h : x = l.getD 0 0) (h1 : 3 ≤ k) (h2 : k ≤ 3) : (x.toNat : Int) % 16 = (gather l k 1 : Nat) := by
  obtain rfl : k = 3 := by omega
  rw [h]; simp [gather, startN]
theorem start4 (l : List UInt8) (k : Nat) (x : UInt8) (h : x = l.getD 0 0) (h1 : 4 ≤ k) (h2 : k ≤ 4) : (x.toNat : Int) % 8 = (gather l k 1 : Nat) := by
  obtain rfl : k = 4 := by omega
  rw [h]; simp [gather, startN]

/-! ### the reference's rows: where each piece begins and ends, its units, whether it has a point -/
structure Row where
  from_ : Nat
  to_ : Nat
  units : Nat
  is_ : Bool
def ptP (w r : Nat) : Bool := decide (¬ (r = 65533 ∧ w = 1))
def rowsP : List (Nat × Nat) → Nat → List Row
  | [], _ => []
  | (w, r) :: t, pos => ⟨pos, pos + w, wt r, ptP w r⟩ :: rowsP t (pos + w)
theorem rowsP_length : ∀ (t : List (Nat × Nat)) (pos : Nat), (rowsP t pos).length = t.length
  | [], _ => rfl
  | (w, r) :: t, pos => by simp [rowsP, rowsP_length t]
theorem pieces_length : ∀ (k : Nat) (l : List UInt8), l.length ≤ k → (pieces l).length ≤ l.length
  | 0, l, h => by
    have : l = [] := List.eq_nil_of_length_eq_zero (by omega)
    subst this; exact Nat.le_refl _
  | k + 1, l, h => by
    by_cases hne : l = []
    · subst hne; exact Nat.le_refl _
    · have hl : 0 < l.length := List.length_pos_iff.2 hne
      have h1 := headW_pos l
      have := pieces_length k (l.drop (headW l)) (by rw [List.length_drop]; omega)
      rw [pieces_step l hne]
      rw [List.length_drop] at this
      simp only [List.length_cons]
      omega
theorem headP_int (l : List UInt8) : headP l = if isPt l then ((decodeL l).1 : Int) else -1 := by
  unfold headP isPt
  by_cases h : (decodeL l).1 = 65533 ∧ (decodeL l).2 = 1 <;> simp [h]
theorem isPt_ptP (l : List UInt8) : isPt l = ptP (headW l) (decodeL l).1 := rfl
theorem headP_ge (l : List UInt8) : decide (0 ≤ headP l) = isPt l := by
  rw [headP_int]
  cases isPt l <;> simp
theorem headP_big (l : List UInt8) : 65535 < headP l ↔ 65535 < (decodeL l).1 := by
  unfold headP
  split
  · rename_i h; rw [h.1]; simp
  · omega
theorem headP_le (l : List UInt8) : headP l ≤ 1114111 := by
  have := decodeL_rune l
  unfold headP
  split <;> omega

end Go.Proofs.Utf
/- Plain2: Plain laws on the reference's rows. -/
namespace Go.Proofs.Utf
open Go.Lib
/-! ### what the reference's loops over the rows give -/
def unitsR : List Row → Nat
  | [] => 0
  | r :: t => r.units + unitsR t
def byteR : List Row → Nat → Int → Nat → Nat
  | [], _, _, len => len
  | r :: t, acc, want, len => if (acc : Int) ≤ want ∧ want < (acc : Int) + r.units then r.from_ else byteR t (acc + r.units) want len
def uaR : List Row → Int → Nat
  | [], _ => 0
  | r :: t, a => (if (r.to_ : Int) ≤ a then r.units else 0) + uaR t a
def validR : List Row → Bool
  | [] => true
  | r :: t => r.is_ && validR t
theorem rowsP_units : ∀ (t : List (Nat × Nat)) (pos : Nat) (r : Row), r ∈ rowsP t pos → r.units ≤ 2
  | [], _, r, h => by simp [rowsP] at h
  | (w, x) :: t, pos, r, h => by
    simp only [rowsP, List.mem_cons] at h
    rcases h with rfl | h
    · exact wt_le x
    · exact rowsP_units t _ r h
theorem rowsP_to : ∀ (t : List (Nat × Nat)) (pos : Nat) (r : Row), r ∈ rowsP t pos → r.to_ ≤ pos + widthP t ∧ r.from_ ≤ r.to_
  | [], _, r, h => by simp [rowsP] at h
  | (w, x) :: t, pos, r, h => by
    simp only [rowsP, List.mem_cons] at h
    rcases h with rfl | h
    · simp only [widthP]; omega
    · have := rowsP_to t _ r h
      simp only [widthP]
      omega
theorem flat4 {α β : Type} (f : α → List β) (hf : ∀ a, (f a).length = 4) : ∀ (l : List α) (k : Nat) (h : k < l.length) (j : Nat), j < 4 → (l.flatMap f)[k * 4 + j]? = (f l[k])[j]?
  | [], k, h, _, _ => by simp at h
  | a :: l, 0, _, j, hj => by
    simp only [List.flatMap_cons, Nat.zero_mul, Nat.zero_add, List.getElem_cons_zero]
    rw [List.getElem?_append_left (by rw [hf]; exact hj)]
  | a :: l, k + 1, h, j, hj => by
    simp only [List.flatMap_cons, List.getElem_cons_succ]
    rw [List.getElem?_append_right (by rw [hf]; omega), hf, show (k + 1) * 4 + j - 4 = k * 4 + j from by omega]
    exact flat4 f hf l k (by simpa using h) j hj
theorem drop_at {α : Type} (l : List α) (k : Nat) (h : k < l.length) : l.drop k = l[k] :: l.drop (k + 1) := List.drop_eq_getElem_cons h
end Go.Proofs.Utf
/- Plain3: Plain laws: the program's answers are the reference's; places and units; joined texts; a point's bytes. -/
namespace Go.Proofs.Utf
open Go.Lib

theorem units_eq : ∀ (t : List (Nat × Nat)) (pos : Nat), unitsR (rowsP t pos) = unitsP t
  | [], _ => rfl
  | (w, r) :: t, pos => by simp only [rowsP, unitsR, unitsP]; rw [units_eq t]
theorem byte_eq : ∀ (t : List (Nat × Nat)) (pos acc : Nat) (want : Int), (acc : Int) ≤ want → byteR (rowsP t pos) acc want (pos + widthP t) = byteP t pos acc want
  | [], pos, acc, want, _ => rfl
  | (w, r) :: t, pos, acc, want, h => by
    simp only [rowsP, byteR, byteP, widthP]
    by_cases h2 : want < ((acc + wt r : Nat) : Int)
    · rw [if_pos ⟨h, by omega⟩, if_pos h2]
    · rw [if_neg (by omega), if_neg h2, ← byte_eq t (pos + w) (acc + wt r) want (by omega), Nat.add_assoc]
theorem byte_neg (t : List (Nat × Nat)) (want : Int) (h : want < 0) : byteP t 0 0 want = 0 := by
  cases t with
  | nil => rfl
  | cons x t => obtain ⟨w, r⟩ := x; simp only [byteP]; rw [if_pos (by omega)]
def Wide (t : List (Nat × Nat)) : Prop := ∀ x ∈ t, 1 ≤ x.1 ∧ x.1 ≤ 4
theorem Wide.tail {x : Nat × Nat} {t : List (Nat × Nat)} (h : Wide (x :: t)) : Wide t := fun y hy => h y (List.mem_cons_of_mem _ hy)
theorem Wide.head {x : Nat × Nat} {t : List (Nat × Nat)} (h : Wide (x :: t)) : 1 ≤ x.1 ∧ x.1 ≤ 4 := h x List.mem_cons_self
theorem wide_pieces : ∀ (k : Nat) (l : List UInt8), l.length ≤ k → Wide (pieces l)
  | 0, l, h => by
    have : l = [] := List.eq_nil_of_length_eq_zero (by omega)
    subst this; intro x hx; cases hx
  | k + 1, l, h => by
    by_cases hne : l = []
    · subst hne; intro x hx; cases hx
    · have hl : 0 < l.length := List.length_pos_iff.2 hne
      rw [pieces_step l hne]
      intro x hx
      rcases List.mem_cons.1 hx with rfl | hx
      · exact ⟨headW_pos l, headW_le4 l⟩
      · exact wide_pieces k _ (by rw [List.length_drop]; have := headW_pos l; omega) x hx
theorem ua_zero : ∀ (t : List (Nat × Nat)) (pos : Nat) (a : Int), Wide t → a ≤ pos → uaR (rowsP t pos) a = 0
  | [], _, _, _, _ => rfl
  | (w, r) :: t, pos, a, hw, h => by
    have h1 : 1 ≤ w := hw.head.1
    simp only [rowsP, uaR]
    rw [if_neg (by omega), ua_zero t (pos + w) a hw.tail (by omega)]
theorem ua_past : ∀ (t : List (Nat × Nat)) (pos n last : Nat) (a : Int), a < (pos : Int) → uaP t pos n last a = n - last
  | [], pos, n, last, a, h => by simp only [uaP]; rw [if_pos h]
  | (w, r) :: t, pos, n, last, a, h => by simp only [uaP]; rw [if_pos h]
theorem ua_eq : ∀ (t : List (Nat × Nat)) (pos n last : Nat) (a : Int), Wide t → (pos : Int) ≤ a → uaP t pos n last a = n + uaR (rowsP t pos) a
  | [], pos, n, last, a, _, h => by simp only [uaP, rowsP, uaR]; rw [if_neg (by omega)]; rfl
  | (w, r) :: t, pos, n, last, a, hw, h => by
    have h1 : 1 ≤ w := hw.head.1
    simp only [uaP]
    rw [if_neg (by omega)]
    by_cases he : (pos : Int) = a
    · rw [if_pos he, ua_zero ((w, r) :: t) pos a hw (by omega)]; rfl
    · rw [if_neg he]
      simp only [rowsP, uaR]
      by_cases hc : ((pos + w : Nat) : Int) ≤ a
      · rw [if_pos hc, ua_eq t (pos + w) (n + wt r) (wt r) a hw.tail hc]; omega
      · rw [if_neg hc, ua_past t _ _ _ a (by omega), ua_zero t (pos + w) a hw.tail (by omega)]; omega
theorem ua_same (t : List (Nat × Nat)) (a : Int) (hw : Wide t) : uaP t 0 0 0 a = uaR (rowsP t 0) a := by
  by_cases h : (0 : Int) ≤ a
  · rw [ua_eq t 0 0 0 a hw (by omega), Nat.zero_add]
  · rw [ua_past t 0 0 0 a (by omega), ua_zero t 0 a hw (by omega)]
theorem valid_eq : ∀ (k : Nat) (l : List UInt8) (pos : Nat), l.length ≤ k → validR (rowsP (pieces l) pos) = validD l
  | 0, l, pos, h => by
    have : l = [] := List.eq_nil_of_length_eq_zero (by omega)
    subst this; rfl
  | k + 1, l, pos, h => by
    by_cases hne : l = []
    · subst hne; rfl
    · have hl : 0 < l.length := List.length_pos_iff.2 hne
      rw [pieces_step l hne, validD_step l hne]
      simp only [rowsP, validR, ptP]
      rw [valid_eq k _ _ (by rw [List.length_drop]; have := headW_pos l; omega)]
      unfold headW
      by_cases hh : (decodeL l).1 = 65533 ∧ (decodeL l).2 = 1 <;> simp [hh]

/-! ### places and units, piece by piece -/
def U : List (Nat × Nat) → Nat → Nat
  | [], _ => 0
  | (w, r) :: t, a => if a < w then 0 else wt r + U t (a - w)
def B : List (Nat × Nat) → Nat → Nat
  | [], _ => 0
  | (w, r) :: t, u => if u < wt r then 0 else w + B t (u - wt r)
theorem U_in {w r : Nat} {t : List (Nat × Nat)} {a : Nat} (h : a < w) : U ((w, r) :: t) a = 0 := if_pos h
theorem U_out {w r : Nat} {t : List (Nat × Nat)} {a : Nat} (h : ¬ a < w) : U ((w, r) :: t) a = wt r + U t (a - w) := if_neg h
theorem B_in {w r : Nat} {t : List (Nat × Nat)} {u : Nat} (h : u < wt r) : B ((w, r) :: t) u = 0 := if_pos h
theorem B_out {w r : Nat} {t : List (Nat × Nat)} {u : Nat} (h : ¬ u < wt r) : B ((w, r) :: t) u = w + B t (u - wt r) := if_neg h
theorem ua_U : ∀ (t : List (Nat × Nat)) (pos a : Nat), Wide t → pos ≤ a → uaR (rowsP t pos) a = U t (a - pos)
  | [], _, _, _, _ => rfl
  | (w, r) :: t, pos, a, hw, h => by
    simp only [rowsP, uaR, U]
    by_cases hc : a - pos < w
    · rw [if_neg (by omega), if_pos hc, ua_zero t (pos + w) a hw.tail (by omega)]
    · rw [if_pos (by omega), if_neg hc, ua_U t (pos + w) a hw.tail (by omega), show a - (pos + w) = a - pos - w from by omega]
theorem byte_B : ∀ (t : List (Nat × Nat)) (pos acc want : Nat), acc ≤ want → byteP t pos acc want = pos + B t (want - acc)
  | [], _, _, _, _ => rfl
  | (w, r) :: t, pos, acc, want, h => by
    simp only [byteP, B]
    by_cases hc : want - acc < wt r
    · rw [if_pos (by omega), if_pos hc]; rfl
    · rw [if_neg (by omega), if_neg hc, byte_B t (pos + w) (acc + wt r) want (by omega), show want - (acc + wt r) = want - acc - wt r from by omega]; omega
theorem BU_le : ∀ (t : List (Nat × Nat)) (a : Nat), Wide t → a ≤ widthP t → B t (U t a) ≤ a ∧ a ≤ B t (U t a) + 3
  | [], a, _, h => by simp only [widthP] at h; simp only [B]; omega
  | (w, r) :: t, a, hw, h => by
    have hp := wt_pos r
    have h1 : 1 ≤ w ∧ w ≤ 4 := hw.head
    by_cases hc : a < w
    · rw [U_in hc, B_in (by omega)]; omega
    · rw [U_out hc, B_out (by omega), show wt r + U t (a - w) - wt r = U t (a - w) from by omega]
      simp only [widthP] at h
      have := BU_le t (a - w) hw.tail (by omega)
      omega
theorem UB_le : ∀ (t : List (Nat × Nat)) (u : Nat), Wide t → u ≤ unitsP t → U t (B t u) ≤ u ∧ u ≤ U t (B t u) + 1
  | [], u, _, h => by simp only [unitsP] at h; simp only [U]; omega
  | (w, r) :: t, u, hw, h => by
    have hp := wt_pos r
    have hp2 := wt_le r
    have h1 : 1 ≤ w ∧ w ≤ 4 := hw.head
    by_cases hc : u < wt r
    · rw [B_in hc, U_in (by omega)]; omega
    · rw [B_out hc, U_out (by omega), show w + B t (u - wt r) - w = B t (u - wt r) from by omega]
      simp only [unitsP] at h
      have := UB_le t (u - wt r) hw.tail (by omega)
      omega
theorem UBU : ∀ (t : List (Nat × Nat)) (a : Nat), Wide t → U t (B t (U t a)) = U t a
  | [], a, _ => rfl
  | (w, r) :: t, a, hw => by
    have hp := wt_pos r
    have h1 : 1 ≤ w ∧ w ≤ 4 := hw.head
    by_cases hc : a < w
    · rw [U_in hc, B_in (by omega), U_in (by omega)]
    · rw [U_out hc, B_out (by omega), show wt r + U t (a - w) - wt r = U t (a - w) from by omega, U_out (by omega), show w + B t (U t (a - w)) - w = B t (U t (a - w)) from by omega, UBU t (a - w) hw.tail]
theorem U_mono : ∀ (t : List (Nat × Nat)) (a : Nat), Wide t → U t a ≤ U t (a + 1)
  | [], _, _ => Nat.le_refl _
  | (w, r) :: t, a, hw => by
    by_cases hc : a < w
    · rw [U_in hc]; omega
    · rw [U_out hc, U_out (by omega), show a + 1 - w = (a - w) + 1 from by omega]
      have := U_mono t (a - w) hw.tail
      omega
theorem B_mono : ∀ (t : List (Nat × Nat)) (u : Nat), B t u ≤ B t (u + 1)
  | [], _ => Nat.le_refl _
  | (w, r) :: t, u => by
    by_cases hc : u < wt r
    · rw [B_in hc]; omega
    · rw [B_out hc, B_out (by omega), show u + 1 - wt r = (u - wt r) + 1 from by omega]
      have := B_mono t (u - wt r)
      omega
theorem U_all : ∀ (t : List (Nat × Nat)), U t (widthP t) = unitsP t
  | [] => rfl
  | (w, r) :: t => by
    show U ((w, r) :: t) (w + widthP t) = wt r + unitsP t
    rw [U_out (by omega), show w + widthP t - w = widthP t from by omega, U_all t]
theorem B_all : ∀ (t : List (Nat × Nat)), B t (unitsP t) = widthP t
  | [] => rfl
  | (w, r) :: t => by
    show B ((w, r) :: t) (wt r + unitsP t) = w + widthP t
    rw [B_out (by omega), show wt r + unitsP t - wt r = unitsP t from by omega, B_all t]

/-! ### a text behind a valid one -/
theorem cand_take (l m : List UInt8) (k : Nat) (h1 : 1 ≤ k) (h4 : k ≤ 4) (hk : k ≤ l.length) : candL (l ++ m) k = candL l k := by
  have g (i : Nat) (hi : i < l.length) : (l ++ m).getD i 0 = l.getD i 0 := by simp [List.getD, List.getElem?_append_left hi]
  unfold candL
  rcases (show k = 1 ∨ k = 2 ∨ k = 3 ∨ k = 4 from by omega) with rfl | rfl | rfl | rfl
  · rw [cand1, g 0 (by omega)]; exact (cand1 _ _ _ _).symm
  · rw [cand2, g 0 (by omega), g 1 (by omega)]; exact (cand2 _ _ _ _).symm
  · rw [cand3, g 0 (by omega), g 1 (by omega), g 2 (by omega)]; exact (cand3 _ _ _ _).symm
  · rw [g 0 (by omega), g 1 (by omega), g 2 (by omega), g 3 (by omega)]
theorem hit_append (l m : List UInt8) (k : Nat) (h1 : 1 ≤ k) (h4 : k ≤ 4) (hk : k ≤ l.length) (h : Hit l k) : Hit (l ++ m) k := by
  unfold Hit at *
  rw [cand_take l m k h1 h4 hk, List.take_append_of_le_length hk]
  exact h
theorem pt_hit (l : List UInt8) (hne : l ≠ []) (h : isPt l = true) : ∃ k, 1 ≤ k ∧ k ≤ 4 ∧ k ≤ l.length ∧ Hit l k := by
  have hl : 0 < l.length := List.length_pos_iff.2 hne
  by_cases hc : ∀ k, 1 ≤ k → k ≤ 4 → k ≤ l.length → ¬ Hit l k
  · have := missed l hl hc
    unfold isPt at h
    rw [this] at h
    simp at h
  · simp only [Classical.not_forall, Classical.not_not] at hc
    obtain ⟨k, a, b, c, d⟩ := hc
    exact ⟨k, a, b, c, d⟩
theorem dec_append (l m : List UInt8) (hne : l ≠ []) (h : isPt l = true) : decodeL (l ++ m) = decodeL l := by
  obtain ⟨k, h1, h4, hk, hh⟩ := pt_hit l hne h
  rw [found l k h1 h4 hk hh, found (l ++ m) k h1 h4 (by rw [List.length_append]; omega) (hit_append l m k h1 h4 hk hh), cand_take l m k h1 h4 hk]
theorem valid_step (l : List UInt8) (hne : l ≠ []) (h : validD l = true) : isPt l = true ∧ validD (l.drop (headW l)) = true := by
  rw [validD_step l hne] at h
  unfold isPt headW
  by_cases hh : (decodeL l).1 = 65533 ∧ (decodeL l).2 = 1
  · rw [if_pos hh] at h; cases h
  · rw [if_neg hh] at h
    exact ⟨decide_eq_true hh, h⟩
theorem pieces_append : ∀ (k : Nat) (l m : List UInt8), l.length ≤ k → validD l = true → pieces (l ++ m) = pieces l ++ pieces m
  | 0, l, m, h, _ => by
    have : l = [] := List.eq_nil_of_length_eq_zero (by omega)
    subst this; rfl
  | k + 1, l, m, h, hv => by
    by_cases hne : l = []
    · subst hne; rfl
    · have hl : 0 < l.length := List.length_pos_iff.2 hne
      obtain ⟨hp, hv2⟩ := valid_step l hne hv
      have hd := dec_append l m hne hp
      have hw : headW (l ++ m) = headW l := by unfold headW; rw [hd]
      have hle := headW_le l hl
      rw [pieces_step (l ++ m) (by simp [hne]), hd, hw, pieces_step l hne, List.drop_append_of_le_length hle,
        pieces_append k (l.drop (headW l)) m (by rw [List.length_drop]; have := headW_pos l; omega) hv2, List.cons_append]
theorem valid_append : ∀ (k : Nat) (l m : List UInt8), l.length ≤ k → validD l = true → validD (l ++ m) = validD m
  | 0, l, m, h, _ => by
    have : l = [] := List.eq_nil_of_length_eq_zero (by omega)
    subst this; rfl
  | k + 1, l, m, h, hv => by
    by_cases hne : l = []
    · subst hne; rfl
    · have hl : 0 < l.length := List.length_pos_iff.2 hne
      obtain ⟨hp, hv2⟩ := valid_step l hne hv
      have hd := dec_append l m hne hp
      have hle := headW_le l hl
      unfold headW at hle hv2
      rw [validD_step (l ++ m) (by simp [hne]), hd]
      have hh : ¬ ((decodeL l).1 = 65533 ∧ (decodeL l).2 = 1) := of_decide_eq_true hp
      rw [if_neg hh, List.drop_append_of_le_length hle]
      exact valid_append k (l.drop (decodeL l).2) m (by rw [List.length_drop]; have := decodeL_width l; omega) hv2
theorem unitsP_append : ∀ (t u : List (Nat × Nat)), unitsP (t ++ u) = unitsP t + unitsP u
  | [], u => by simp [unitsP]
  | (w, r) :: t, u => by simp only [List.cons_append, unitsP]; rw [unitsP_append t u]; omega
theorem U_append : ∀ (t u : List (Nat × Nat)) (a : Nat), U (t ++ u) (widthP t + a) = unitsP t + U u a
  | [], u, a => by simp [unitsP, widthP]
  | (w, r) :: t, u, a => by
    show U ((w, r) :: (t ++ u)) (w + widthP t + a) = wt r + unitsP t + U u a
    rw [U_out (by omega), show w + widthP t + a - w = widthP t + a from by omega, U_append t u a]; omega
theorem B_append : ∀ (t u : List (Nat × Nat)) (a : Nat), B (t ++ u) (unitsP t + a) = widthP t + B u a
  | [], u, a => by simp [unitsP, widthP]
  | (w, r) :: t, u, a => by
    show B ((w, r) :: (t ++ u)) (wt r + unitsP t + a) = w + widthP t + B u a
    rw [B_out (by omega), show wt r + unitsP t + a - wt r = unitsP t + a from by omega, B_append t u a]; omega
theorem U_zero (t : List (Nat × Nat)) (hw : Wide t) : U t 0 = 0 := by
  cases t with
  | nil => rfl
  | cons x t => obtain ⟨w, r⟩ := x; exact U_in hw.head.1
theorem B_zero (t : List (Nat × Nat)) : B t 0 = 0 := by
  cases t with
  | nil => rfl
  | cons x t => obtain ⟨w, r⟩ := x; exact B_in (wt_pos r)

/-! ### a point's bytes -/
theorem enc_hit (n : Int) (hp : IsPoint n) (m : List UInt8) : 1 ≤ (encodeRune n).length ∧ (encodeRune n).length ≤ 4 ∧ candL (encodeRune n ++ m) (encodeRune n).length = n ∧ Hit (encodeRune n ++ m) (encodeRune n).length := by
  have hc : (candL (encodeRune n ++ m) (encodeRune n).length : Int) = n ∧ 1 ≤ (encodeRune n).length ∧ (encodeRune n).length ≤ 4 := by
    obtain ⟨h0, h1, h2⟩ := id hp
    rcases len_cases n hp with ⟨a, hl⟩ | ⟨a, b, hl⟩ | ⟨a, hl⟩ | ⟨a, hl⟩
    · refine ⟨?_, by omega, by omega⟩
      rw [hl, enc1 n ⟨h0, a⟩]
      simp [candL, cand]
      omega
    · refine ⟨?_, by omega, by omega⟩
      rw [hl, enc2 n ⟨a, b⟩]
      simp [candL, cand]
      omega
    · refine ⟨?_, by omega, by omega⟩
      rw [hl, enc3 n a]
      simp [candL, cand]
      omega
    · refine ⟨?_, by omega, by omega⟩
      rw [hl, enc4 n ⟨a, h1⟩]
      simp [candL, cand]
      omega
  refine ⟨hc.2.1, hc.2.2, hc.1, ?_⟩
  unfold Hit
  rw [hc.1]
  exact ⟨hp, by simp⟩
theorem enc_head (n : Int) (hp : IsPoint n) (m : List UInt8) : headP (encodeRune n ++ m) = n ∧ headW (encodeRune n ++ m) = (encodeRune n).length := by
  obtain ⟨h1, h4, hc, hh⟩ := enc_hit n hp m
  have := head_found _ _ h1 h4 (by rw [List.length_append]; omega) hh
  rw [hc] at this
  exact this
theorem enc_valid (n : Int) (hp : IsPoint n) : validD (encodeRune n) = true := by
  obtain ⟨h1, h4, hc, hh⟩ := enc_hit n hp []
  rw [List.append_nil] at hc hh
  have hne : encodeRune n ≠ [] := by intro e; rw [e] at h1; simp at h1
  have hf := found _ _ h1 h4 (Nat.le_refl _) hh
  have hn := cand_ne _ _ h1 h4 (Nat.le_refl _) hh
  rw [validD_step _ hne, hf, if_neg hn]
  simp [validD_nil]
theorem enc_prefix (a b : Int) (ha : IsPoint a) (hb : IsPoint b) : (encodeRune b).isPrefixOf (encodeRune a) = (a == b) := by
  by_cases h : a = b
  · subst h
    simp
  · have h' : (a == b) = false := by simpa using h
    rw [h']
    cases hc : (encodeRune b).isPrefixOf (encodeRune a) with
    | false => rfl
    | true =>
      obtain ⟨m, hm⟩ := List.isPrefixOf_iff_prefix.1 hc
      have e1 := enc_head a ha []
      have e2 := enc_head b hb m
      rw [List.append_nil, ← hm, e2.1] at e1
      exact absurd e1.1.symm h
end Go.Proofs.Utf
/- Jp: The words of a text of JSON, by plain functions on bytes. No program in sight. -/
namespace Go.Proofs.Jt
open Go.Lib Go.Proofs.Utf

def isMarkB (c : UInt8) : Bool := [123, 125, 91, 93, 58, 44].contains c
def isBlankB (c : UInt8) : Bool := [32, 9, 10, 13].contains c
def isLow (c : UInt8) : Bool := decide (97 ≤ c.toNat ∧ c.toNat ≤ 122)
def isDig (c : UInt8) : Bool := decide (48 ≤ c.toNat ∧ c.toNat ≤ 57)
/-- how many bytes ahead are so -/
def run (p : UInt8 → Bool) (l : List UInt8) : Nat := (l.takeWhile p).length
def wTrue : List UInt8 := [116, 114, 117, 101]
def wFalse : List UInt8 := [102, 97, 108, 115, 101]
def wNull : List UInt8 := [110, 117, 108, 108]
def isWord (l : List UInt8) : Bool := decide (l = wTrue ∨ l = wFalse ∨ l = wNull)
def wordN (l : List UInt8) : Nat := if isWord (l.take (run isLow l)) then run isLow l else 0
def negN (l : List UInt8) : Nat := if l[0]? = some 45 then 1 else 0
def intN (l : List UInt8) (n : Nat) : Nat := if l[n]? = some 48 then n + 1 else n + run isDig (l.drop n)
def dotN (l : List UInt8) (n : Nat) : Nat := if l[n]? = some 46 ∧ 0 < run isDig (l.drop (n + 1)) then n + 1 + run isDig (l.drop (n + 1)) else n
def signN (l : List UInt8) (n : Nat) : Nat := if l[n]? = some 43 ∨ l[n]? = some 45 then n + 1 else n
def expN (l : List UInt8) (n : Nat) : Nat :=
  if (l[n]? = some 101 ∨ l[n]? = some 69) ∧ 0 < run isDig (l.drop (signN l (n + 1))) then signN l (n + 1) + run isDig (l.drop (signN l (n + 1))) else n
def numN (l : List UInt8) : Nat := if run isDig (l.drop (negN l)) = 0 then 0 else expN l (dotN l (intN l (negN l)))
def hexV (c : UInt8) : Int := if 48 ≤ c.toNat ∧ c.toNat ≤ 57 then c.toNat - 48 else if 97 ≤ c.toNat ∧ c.toNat ≤ 102 then c.toNat - 87 else if 65 ≤ c.toNat ∧ c.toNat ≤ 70 then c.toNat - 55 else -1
def unitL : List UInt8 → Int
  | u :: a :: b :: c :: d :: _ => if u = 117 ∧ 0 ≤ hexV a ∧ 0 ≤ hexV b ∧ 0 ≤ hexV c ∧ 0 ≤ hexV d then ((hexV a * 16 + hexV b) * 16 + hexV c) * 16 + hexV d else -1
  | _ => -1
/-- what stands behind a backslash for one byte -/
def simple (c : UInt8) : Option Nat :=
  if c = 34 then some 34 else if c = 92 then some 92 else if c = 47 then some 47 else if c = 98 then some 8 else if c = 102 then some 12 else if c = 110 then some 10 else if c = 114 then some 13 else if c = 116 then some 9 else none
/-- the point behind a backslash, and of how many bytes; 0: none -/
def escR (l : List UInt8) : Int × Nat :=
  match l[0]?.bind simple with
  | some x => (x, 1)
  | none =>
    if unitL l < 0 then (0, 0)
    else if unitL l < 55296 ∨ 57343 < unitL l then (unitL l, 5)
    else if unitL l < 56320 ∧ l[5]? = some 92 ∧ 56320 ≤ unitL (l.drop 6) ∧ unitL (l.drop 6) ≤ 57343 then ((unitL l - 55296) * 1024 + unitL (l.drop 6) - 56320 + 65536, 11)
    else (0, 0)
/-- what a string says from behind its first mark on, and how many bytes it takes -/
def qL : Nat → List UInt8 → Option (List UInt8 × Nat)
  | _, [] => none
  | 0, _ => none
  | n + 1, c :: t =>
    if c = 34 then some ([], 1)
    else if c.toNat < 32 then none
    else if c = 92 then
      if (escR t).2 = 0 then none else (qL n (t.drop (escR t).2)).map fun r => (encodeRune (escR t).1 ++ r.1, r.2 + 1 + (escR t).2)
    else (qL n t).map fun r => (c :: r.1, r.2 + 1)
def nextL : List UInt8 → Option (Nat × List UInt8 × Nat)
  | [] => none
  | c :: t =>
    if isMarkB c then some (1, [c], 1)
    else if c = 34 then (qL t.length t).map fun r => (4, r.1, r.2 + 1)
    else if 0 < wordN (c :: t) then some (2, (c :: t).take (wordN (c :: t)), wordN (c :: t))
    else if 0 < numN (c :: t) then some (3, (c :: t).take (numN (c :: t)), numN (c :: t))
    else none
structure Tok where
  kind : Nat
  text : List UInt8
  fr : Nat
  to_ : Nat
deriving DecidableEq
def tokL : Nat → List UInt8 → Nat → List Tok → List Tok × Nat × Nat
  | _, [], _, acc => (acc, 0, 0)
  | 0, _, at_, _ => ([], at_, 4)
  | n + 1, c :: t, at_, acc =>
    if isBlankB c then tokL n t (at_ + 1) acc
    else match nextL (c :: t) with
      | none => ([], at_, 4)
      | some (k, x, m) => tokL n ((c :: t).drop m) (at_ + m) (acc ++ [⟨k, x, at_, at_ + m⟩])
/-- the first place from which on no point's bytes stand -/
def brokenL : Nat → List UInt8 → Nat → Nat
  | 0, _, at_ => at_
  | n + 1, l, at_ => if l = [] then at_ else if isPt l then brokenL n (l.drop (headW l)) (at_ + headW l) else at_
def toksL (l : List UInt8) : List Tok × Nat × Nat := if validD l then tokL l.length l 0 [] else ([], brokenL l.length l 0, 8)
def hexD (n : Nat) : UInt8 := if n < 10 then (48 + n).toUInt8 else (87 + n).toUInt8
def qByte (c : UInt8) : List UInt8 :=
  if c = 34 ∨ c = 92 then [92, c] else if c = 8 then [92, 98] else if c = 9 then [92, 116] else if c = 10 then [92, 110] else if c = 12 then [92, 102] else if c = 13 then [92, 114]
  else if c.toNat < 32 then [92, 117, 48, 48, hexD (c.toNat / 16), hexD (c.toNat % 16)] else [c]
def quoteL (l : List UInt8) : List UInt8 := 34 :: (l.flatMap qByte ++ [34])


theorem run_le (p : UInt8 → Bool) (l : List UInt8) : run p l ≤ l.length := by
  unfold run
  exact (List.takeWhile_sublist _).length_le
theorem run_cons (p : UInt8 → Bool) (c : UInt8) (t : List UInt8) : run p (c :: t) = if p c then run p t + 1 else 0 := by
  unfold run
  rw [List.takeWhile_cons]
  split <;> simp
theorem run_nil (p : UInt8 → Bool) : run p [] = 0 := rfl
theorem get_drop (l : List UInt8) (n : Nat) (h : n < l.length) : l.drop n = l[n] :: l.drop (n + 1) := List.drop_eq_getElem_cons h
theorem run_at (p : UInt8 → Bool) (l : List UInt8) (n : Nat) : run p (l.drop n) = match l[n]? with | some c => if p c then run p (l.drop (n + 1)) + 1 else 0 | none => 0 := by
  by_cases h : n < l.length
  · rw [get_drop l n h, run_cons, List.getElem?_eq_getElem h]
  · rw [List.drop_eq_nil_of_le (by omega), List.getElem?_eq_none (by omega)]
    rfl
theorem wordN_le (l : List UInt8) : wordN l ≤ l.length := by
  unfold wordN
  have := run_le isLow l
  split <;> omega
theorem negN_le (l : List UInt8) : negN l ≤ 1 := by unfold negN; split <;> omega
theorem run_drop_le (p : UInt8 → Bool) (l : List UInt8) (n : Nat) : run p (l.drop n) ≤ l.length - n := by
  have := run_le p (l.drop n)
  rwa [List.length_drop] at this
theorem intN_le (l : List UInt8) (n : Nat) (h : n ≤ l.length) : intN l n ≤ l.length ∧ n ≤ intN l n := by
  unfold intN
  have := run_drop_le isDig l n
  split
  · rename_i e
    obtain ⟨h', _⟩ := List.getElem?_eq_some_iff.1 e
    omega
  · omega
theorem dotN_le (l : List UInt8) (n : Nat) (h : n ≤ l.length) : dotN l n ≤ l.length ∧ n ≤ dotN l n := by
  unfold dotN
  have := run_drop_le isDig l (n + 1)
  split <;> omega
theorem signN_le (l : List UInt8) (n : Nat) : n ≤ signN l n ∧ signN l n ≤ n + 1 := by
  unfold signN
  split <;> omega
theorem expN_le (l : List UInt8) (n : Nat) (h : n ≤ l.length) : expN l n ≤ l.length ∧ n ≤ expN l n := by
  unfold expN
  have := run_drop_le isDig l (signN l (n + 1))
  have := signN_le l (n + 1)
  split <;> omega
theorem numN_le (l : List UInt8) : numN l ≤ l.length := by
  unfold numN
  split
  · omega
  · rename_i h
    have h1 := run_drop_le isDig l (negN l)
    exact (expN_le l _ (dotN_le l _ (intN_le l _ (by omega)).1).1).1
end Go.Proofs.Jt
