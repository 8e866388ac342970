/- Plain laws on points and their bytes: what a text's pieces are, what the document's search for a point's bytes finds. No program in sight. -/
import Derived.Lib.ValidLaws
import Derived.Lib.RuneBytes
import Derived.Lib.TrimUEq
import Derived.Lib.DecodeN
namespace Go.Proofs.Utf
open Go.Lib

/-- a number that is a point -/
def IsPoint (n : Int) : Prop := 0 ≤ n ∧ n ≤ 1114111 ∧ (n < 55296 ∨ 57343 < n)
instance (n : Int) : Decidable (IsPoint n) := by unfold IsPoint; infer_instance

/-- the point at the head of bytes, or -1 -/
def headP (l : List UInt8) : Int := if (decodeL l).1 = 65533 ∧ (decodeL l).2 = 1 then -1 else ((decodeL l).1 : Int)
def headW (l : List UInt8) : Nat := (decodeL l).2
def wt (r : Nat) : Nat := if 65535 < r then 2 else 1

theorem wt_pos (r : Nat) : 1 ≤ wt r := by unfold wt; split <;> omega
theorem wt_le (r : Nat) : wt r ≤ 2 := by unfold wt; split <;> omega

/-- what the reference's Decode tries: the number that `long` bytes spell -/
def cand (long b0 b1 b2 b3 : Nat) : Nat :=
  if long = 1 then b0 else if long = 2 then b0 % 32 * 64 + b1 % 64 else if long = 3 then b0 % 16 * 4096 + b1 % 64 * 64 + b2 % 64
  else b0 % 8 * 262144 + b1 % 64 * 4096 + b2 % 64 * 64 + b3 % 64

theorem toU8 (x : Int) (b : UInt8) (h0 : 0 ≤ x) (h1 : x < 256) : x.toNat.toUInt8 = b ↔ x = b.toNat := by
  constructor
  · intro h
    subst h
    simp
    omega
  · intro h
    subst h
    simp

theorem enc1 (n : Int) (h : 0 ≤ n ∧ n ≤ 127) : encodeRune n = [n.toNat.toUInt8] := by simp [encodeRune, encodeRuneZ, h]
theorem enc2 (n : Int) (h : 128 ≤ n ∧ n ≤ 2047) : encodeRune n = [(192 + n / 64).toNat.toUInt8, (128 + n % 64).toNat.toUInt8] := by
  simp [encodeRune, encodeRuneZ_two h.1 h.2]
theorem enc3 (n : Int) (h : (2048 ≤ n ∧ n < 55296) ∨ (57343 < n ∧ n ≤ 65535)) :
    encodeRune n = [(224 + n / 4096).toNat.toUInt8, (128 + n / 64 % 64).toNat.toUInt8, (128 + n % 64).toNat.toUInt8] := by
  simp [encodeRune, encodeRuneZ_three h]
theorem enc4 (n : Int) (h : 65536 ≤ n ∧ n ≤ 1114111) :
    encodeRune n = [(240 + n / 262144).toNat.toUInt8, (128 + n / 4096 % 64).toNat.toUInt8, (128 + n / 64 % 64).toNat.toUInt8, (128 + n % 64).toNat.toUInt8] := by
  simp [encodeRune, encodeRuneZ_four h.1 h.2]

theorem len_cases (n : Int) (hp : IsPoint n) : (n ≤ 127 ∧ (encodeRune n).length = 1) ∨ (128 ≤ n ∧ n ≤ 2047 ∧ (encodeRune n).length = 2) ∨
    (((2048 ≤ n ∧ n < 55296) ∨ (57343 < n ∧ n ≤ 65535)) ∧ (encodeRune n).length = 3) ∨ (65536 ≤ n ∧ (encodeRune n).length = 4) := by
  obtain ⟨h0, h1, h2⟩ := hp
  by_cases a : n ≤ 127
  · exact .inl ⟨a, by rw [enc1 n ⟨h0, a⟩]; rfl⟩
  by_cases b : n ≤ 2047
  · exact .inr (.inl ⟨by omega, b, by rw [enc2 n ⟨by omega, b⟩]; rfl⟩)
  by_cases c : n ≤ 65535
  · have h3 : (2048 ≤ n ∧ n < 55296) ∨ (57343 < n ∧ n ≤ 65535) := by omega
    exact .inr (.inr (.inl ⟨h3, by rw [enc3 n h3]; rfl⟩))
  · exact .inr (.inr (.inr ⟨by omega, by rw [enc4 n ⟨by omega, h1⟩]; rfl⟩))

/-- one byte -/
theorem hit1 (b0 : UInt8) : (IsPoint (cand 1 b0.toNat 0 0 0) ∧ encodeRune (cand 1 b0.toNat 0 0 0) = [b0]) ↔ b0.toNat < 128 := by
  have := b0.toNat_lt
  simp only [cand, if_pos]
  constructor
  · rintro ⟨hp, he⟩
    rcases len_cases _ hp with ⟨h, _⟩ | ⟨_, _, h⟩ | ⟨_, h⟩ | ⟨_, h⟩
    · omega
    all_goals rw [he] at h; simp at h
  · intro h
    have hp : IsPoint (b0.toNat : Int) := ⟨by omega, by omega, by omega⟩
    refine ⟨hp, ?_⟩
    rw [enc1 _ ⟨by omega, by omega⟩]
    simp
theorem hit2 (b0 b1 : UInt8) : (IsPoint (cand 2 b0.toNat b1.toNat 0 0) ∧ encodeRune (cand 2 b0.toNat b1.toNat 0 0) = [b0, b1]) ↔
    (b0.toNat / 32 = 6 ∧ b1.toNat / 64 = 2 ∧ b0.toNat % 32 * 64 + b1.toNat % 64 ≥ 128) := by
  have := b0.toNat_lt
  have := b1.toNat_lt
  have hc : cand 2 b0.toNat b1.toNat 0 0 = b0.toNat % 32 * 64 + b1.toNat % 64 := by simp [cand]
  rw [hc]
  generalize hn : b0.toNat % 32 * 64 + b1.toNat % 64 = n
  constructor
  · rintro ⟨hp, he⟩
    rcases len_cases _ hp with ⟨_, h⟩ | ⟨h1, h2, _⟩ | ⟨_, h⟩ | ⟨_, h⟩
    · rw [he] at h; simp at h
    · rw [enc2 _ ⟨h1, h2⟩] at he
      simp only [List.cons.injEq, and_true] at he
      obtain ⟨e0, e1⟩ := he
      rw [toU8 _ _ (by omega) (by omega)] at e0 e1
      omega
    all_goals rw [he] at h; simp at h
  · rintro ⟨h1, h2, h3⟩
    have hp : IsPoint (n : Int) := ⟨by omega, by omega, by omega⟩
    refine ⟨hp, ?_⟩
    rw [enc2 _ ⟨by omega, by omega⟩]
    simp only [List.cons.injEq, and_true]
    rw [toU8 _ _ (by omega) (by omega), toU8 _ _ (by omega) (by omega)]
    omega
theorem hit3 (b0 b1 b2 : UInt8) : (IsPoint (cand 3 b0.toNat b1.toNat b2.toNat 0) ∧ encodeRune (cand 3 b0.toNat b1.toNat b2.toNat 0) = [b0, b1, b2]) ↔
    (b0.toNat / 16 = 14 ∧ b1.toNat / 64 = 2 ∧ b2.toNat / 64 = 2 ∧ b0.toNat % 16 * 4096 + b1.toNat % 64 * 64 + b2.toNat % 64 ≥ 2048 ∧
      (b0.toNat % 16 * 4096 + b1.toNat % 64 * 64 + b2.toNat % 64 < 55296 ∨ (57344 ≤ b0.toNat % 16 * 4096 + b1.toNat % 64 * 64 + b2.toNat % 64 ∧ b0.toNat % 16 * 4096 + b1.toNat % 64 * 64 + b2.toNat % 64 ≤ 1114111))) := by
  have := b0.toNat_lt
  have := b1.toNat_lt
  have := b2.toNat_lt
  have hc : cand 3 b0.toNat b1.toNat b2.toNat 0 = b0.toNat % 16 * 4096 + b1.toNat % 64 * 64 + b2.toNat % 64 := by simp [cand]
  rw [hc]
  generalize hn : b0.toNat % 16 * 4096 + b1.toNat % 64 * 64 + b2.toNat % 64 = n
  constructor
  · rintro ⟨hp, he⟩
    rcases len_cases _ hp with ⟨_, h⟩ | ⟨_, _, h⟩ | ⟨h3, _⟩ | ⟨_, h⟩
    · rw [he] at h; simp at h
    · rw [he] at h; simp at h
    · rw [enc3 _ h3] at he
      simp only [List.cons.injEq, and_true] at he
      obtain ⟨e0, e1, e2⟩ := he
      rw [toU8 _ _ (by omega) (by omega)] at e0 e1 e2
      omega
    · rw [he] at h; simp at h
  · rintro ⟨h1, h2, h3, h4, h5⟩
    have hp : IsPoint (n : Int) := ⟨by omega, by omega, by omega⟩
    refine ⟨hp, ?_⟩
    rw [enc3 _ (by omega)]
    simp only [List.cons.injEq, and_true]
    rw [toU8 _ _ (by omega) (by omega), toU8 _ _ (by omega) (by omega), toU8 _ _ (by omega) (by omega)]
    omega
theorem hit4 (b0 b1 b2 b3 : UInt8) : (IsPoint (cand 4 b0.toNat b1.toNat b2.toNat b3.toNat) ∧ encodeRune (cand 4 b0.toNat b1.toNat b2.toNat b3.toNat) = [b0, b1, b2, b3]) ↔
    (b0.toNat / 8 = 30 ∧ b1.toNat / 64 = 2 ∧ b2.toNat / 64 = 2 ∧ b3.toNat / 64 = 2 ∧ b0.toNat % 8 * 262144 + b1.toNat % 64 * 4096 + b2.toNat % 64 * 64 + b3.toNat % 64 ≥ 65536 ∧
      b0.toNat % 8 * 262144 + b1.toNat % 64 * 4096 + b2.toNat % 64 * 64 + b3.toNat % 64 ≤ 1114111) := by
  have := b0.toNat_lt
  have := b1.toNat_lt
  have := b2.toNat_lt
  have := b3.toNat_lt
  have hc : cand 4 b0.toNat b1.toNat b2.toNat b3.toNat = b0.toNat % 8 * 262144 + b1.toNat % 64 * 4096 + b2.toNat % 64 * 64 + b3.toNat % 64 := by simp [cand]
  rw [hc]
  generalize hn : b0.toNat % 8 * 262144 + b1.toNat % 64 * 4096 + b2.toNat % 64 * 64 + b3.toNat % 64 = n
  constructor
  · rintro ⟨hp, he⟩
    have hle : (n : Int) ≤ 1114111 := hp.2.1
    rcases len_cases _ hp with ⟨_, h⟩ | ⟨_, _, h⟩ | ⟨_, h⟩ | ⟨h3, _⟩
    · rw [he] at h; simp at h
    · rw [he] at h; simp at h
    · rw [he] at h; simp at h
    · rw [enc4 _ ⟨h3, hle⟩] at he
      simp only [List.cons.injEq, and_true] at he
      obtain ⟨e0, e1, e2, e3⟩ := he
      rw [toU8 _ _ (by omega) (by omega)] at e0 e1 e2 e3
      omega
  · rintro ⟨h1, h2, h3, h4, h5, h6⟩
    have hp : IsPoint (n : Int) := ⟨by omega, by omega, by omega⟩
    refine ⟨hp, ?_⟩
    rw [enc4 _ ⟨by omega, by omega⟩]
    simp only [List.cons.injEq, and_true]
    rw [toU8 _ _ (by omega) (by omega), toU8 _ _ (by omega) (by omega), toU8 _ _ (by omega) (by omega), toU8 _ _ (by omega) (by omega)]
    omega

/-- the number that the first k bytes spell -/
def candL (l : List UInt8) (k : Nat) : Nat := cand k (l.getD 0 0).toNat (l.getD 1 0).toNat (l.getD 2 0).toNat (l.getD 3 0).toNat
def Hit (l : List UInt8) (k : Nat) : Prop := IsPoint (candL l k) ∧ encodeRune (candL l k) = l.take k
instance (l : List UInt8) (k : Nat) : Decidable (Hit l k) := by unfold Hit; infer_instance

theorem take1 (l : List UInt8) (h : 1 ≤ l.length) : l.take 1 = [l.getD 0 0] := by
  match l, h with
  | [a], _ => simp
  | a :: b :: t, _ => simp
theorem take2 (l : List UInt8) (h : 2 ≤ l.length) : l.take 2 = [l.getD 0 0, l.getD 1 0] := by
  match l, h with
  | a :: b :: t, _ => simp
theorem take3 (l : List UInt8) (h : 3 ≤ l.length) : l.take 3 = [l.getD 0 0, l.getD 1 0, l.getD 2 0] := by
  match l, h with
  | a :: b :: c :: t, _ => simp
theorem take4 (l : List UInt8) (h : 4 ≤ l.length) : l.take 4 = [l.getD 0 0, l.getD 1 0, l.getD 2 0, l.getD 3 0] := by
  match l, h with
  | a :: b :: c :: d :: t, _ => simp
theorem cand1 (a b c d : Nat) : cand 1 a b c d = cand 1 a 0 0 0 := by simp [cand]
theorem cand2 (a b c d : Nat) : cand 2 a b c d = cand 2 a b 0 0 := by simp [cand]
theorem cand3 (a b c d : Nat) : cand 3 a b c d = cand 3 a b c 0 := by simp [cand]
theorem Hit1 (l : List UInt8) (h : 1 ≤ l.length) : Hit l 1 ↔ (l.getD 0 0).toNat < 128 := by
  unfold Hit candL; rw [cand1, take1 l h]; exact hit1 _
theorem Hit2 (l : List UInt8) (h : 2 ≤ l.length) : Hit l 2 ↔ ((l.getD 0 0).toNat / 32 = 6 ∧ (l.getD 1 0).toNat / 64 = 2 ∧ (l.getD 0 0).toNat % 32 * 64 + (l.getD 1 0).toNat % 64 ≥ 128) := by
  unfold Hit candL; rw [cand2, take2 l h]; exact hit2 _ _
theorem Hit3 (l : List UInt8) (h : 3 ≤ l.length) : Hit l 3 ↔ ((l.getD 0 0).toNat / 16 = 14 ∧ (l.getD 1 0).toNat / 64 = 2 ∧ (l.getD 2 0).toNat / 64 = 2 ∧ (l.getD 0 0).toNat % 16 * 4096 + (l.getD 1 0).toNat % 64 * 64 + (l.getD 2 0).toNat % 64 ≥ 2048 ∧ ((l.getD 0 0).toNat % 16 * 4096 + (l.getD 1 0).toNat % 64 * 64 + (l.getD 2 0).toNat % 64 < 55296 ∨ (57344 ≤ (l.getD 0 0).toNat % 16 * 4096 + (l.getD 1 0).toNat % 64 * 64 + (l.getD 2 0).toNat % 64 ∧ (l.getD 0 0).toNat % 16 * 4096 + (l.getD 1 0).toNat % 64 * 64 + (l.getD 2 0).toNat % 64 ≤ 1114111))) := by
  unfold Hit candL; rw [cand3, take3 l h]; exact hit3 _ _ _
theorem Hit4 (l : List UInt8) (h : 4 ≤ l.length) : Hit l 4 ↔ ((l.getD 0 0).toNat / 8 = 30 ∧ (l.getD 1 0).toNat / 64 = 2 ∧ (l.getD 2 0).toNat / 64 = 2 ∧ (l.getD 3 0).toNat / 64 = 2 ∧ (l.getD 0 0).toNat % 8 * 262144 + (l.getD 1 0).toNat % 64 * 4096 + (l.getD 2 0).toNat % 64 * 64 + (l.getD 3 0).toNat % 64 ≥ 65536 ∧ (l.getD 0 0).toNat % 8 * 262144 + (l.getD 1 0).toNat % 64 * 4096 + (l.getD 2 0).toNat % 64 * 64 + (l.getD 3 0).toNat % 64 ≤ 1114111) := by
  unfold Hit candL; rw [take4 l h]; exact hit4 _ _ _ _

theorem found (l : List UInt8) (k : Nat) (h1 : 1 ≤ k) (h4 : k ≤ 4) (hl : k ≤ l.length) (hh : Hit l k) : decodeL l = (candL l k, k) := by
  rw [decodeL_N]
  have hb0 := (l.getD 0 0).toNat_lt
  have hb1 := (l.getD 1 0).toNat_lt
  have hb2 := (l.getD 2 0).toNat_lt
  have hb3 := (l.getD 3 0).toNat_lt
  rcases (show k = 1 ∨ k = 2 ∨ k = 3 ∨ k = 4 from by omega) with rfl | rfl | rfl | rfl
  · have := (Hit1 l hl).1 hh
    unfold candL
    generalize (l.getD 0 0).toNat = a at *
    simp [decodeN, cand, this]
  · have := (Hit2 l hl).1 hh
    unfold candL
    generalize (l.getD 0 0).toNat = a at *
    generalize (l.getD 1 0).toNat = b at *
    obtain ⟨e1, e2, e3⟩ := this
    simp only [decodeN, cand]
    rw [if_neg (by omega), if_pos (by omega), if_pos e3]
    simp
  · have := (Hit3 l hl).1 hh
    unfold candL
    generalize (l.getD 0 0).toNat = a at *
    generalize (l.getD 1 0).toNat = b at *
    generalize (l.getD 2 0).toNat = c at *
    obtain ⟨e1, e2, e3, e4, e5⟩ := this
    simp only [decodeN, cand]
    rw [if_neg (by omega), if_neg (by omega), if_pos (by omega), if_pos ⟨e4, e5⟩]
    simp
  · have := (Hit4 l hl).1 hh
    unfold candL
    generalize (l.getD 0 0).toNat = a at *
    generalize (l.getD 1 0).toNat = b at *
    generalize (l.getD 2 0).toNat = c at *
    generalize (l.getD 3 0).toNat = d at *
    obtain ⟨e1, e2, e3, e4, e5, e6⟩ := this
    simp only [decodeN, cand]
    rw [if_neg (by omega), if_neg (by omega), if_neg (by omega), if_pos (by omega), if_pos ⟨e5, by omega⟩]
    simp
theorem missed (l : List UInt8) (h0 : 1 ≤ l.length) (h : ∀ k, 1 ≤ k → k ≤ 4 → k ≤ l.length → ¬ Hit l k) : decodeL l = (65533, 1) := by
  rw [decodeL_N]
  have hb0 := (l.getD 0 0).toNat_lt
  have n1 := mt (Hit1 l h0).2 (h 1 (by omega) (by omega) h0)
  have n2 : 2 ≤ l.length → _ := fun hl => mt (Hit2 l hl).2 (h 2 (by omega) (by omega) hl)
  have n3 : 3 ≤ l.length → _ := fun hl => mt (Hit3 l hl).2 (h 3 (by omega) (by omega) hl)
  have n4 : 4 ≤ l.length → _ := fun hl => mt (Hit4 l hl).2 (h 4 (by omega) (by omega) hl)
  generalize (l.getD 0 0).toNat = a at *
  generalize (l.getD 1 0).toNat = b at *
  generalize (l.getD 2 0).toNat = c at *
  generalize (l.getD 3 0).toNat = d at *
  generalize l.length = n at *
  simp only [decodeN]
  rw [if_neg n1]
  split
  · rename_i hh
    rw [if_neg (fun hc => n2 (by omega) ⟨hh.1, hh.2.2, hc⟩)]
  split
  · rename_i hh
    rw [if_neg (fun hc => n3 (by omega) ⟨hh.1, hh.2.1.2, hh.2.2.2, hc.1, hc.2⟩)]
  split
  · rename_i hh
    rw [if_neg (fun hc => n4 (by omega) ⟨hh.1, hh.2.1.2, hh.2.2.1.2, hh.2.2.2.2, hc.1, by omega⟩)]
  rfl
theorem cand_ne (l : List UInt8) (k : Nat) (h1 : 1 ≤ k) (h4 : k ≤ 4) (hl : k ≤ l.length) (hh : Hit l k) : ¬ (candL l k = 65533 ∧ k = 1) := by
  rintro ⟨h, rfl⟩
  have := (Hit1 l hl).1 hh
  simp [candL, cand] at h
  simp at this
  omega
theorem head_found (l : List UInt8) (k : Nat) (h1 : 1 ≤ k) (h4 : k ≤ 4) (hl : k ≤ l.length) (hh : Hit l k) : headP l = candL l k ∧ headW l = k := by
  have := cand_ne l k h1 h4 hl hh
  unfold headP headW
  rw [found l k h1 h4 hl hh, if_neg this]
  exact ⟨rfl, rfl⟩
theorem head_missed (l : List UInt8) (h0 : 1 ≤ l.length) (h : ∀ k, 1 ≤ k → k ≤ 4 → k ≤ l.length → ¬ Hit l k) : headP l = -1 ∧ headW l = 1 := by
  unfold headP headW
  rw [missed l h0 h]
  simp

/-! ### a text's pieces: the width and the number of each -/
def isPt (l : List UInt8) : Bool := decide (¬ ((decodeL l).1 = 65533 ∧ (decodeL l).2 = 1))
theorem isPt_yes (l : List UInt8) (h : isPt l = true) : headP l = ((decodeL l).1 : Int) := by
  unfold isPt at h; unfold headP; rw [if_neg (of_decide_eq_true h)]
theorem isPt_no (l : List UInt8) (h : isPt l = false) : headP l = -1 ∧ headW l = 1 := by
  unfold isPt at h
  have h' : (decodeL l).1 = 65533 ∧ (decodeL l).2 = 1 := by simpa using h
  exact ⟨by unfold headP; rw [if_pos h'], h'.2⟩
theorem headW_pos (l : List UInt8) : 1 ≤ headW l := decodeL_width l
theorem decodeN_le (n a b c d : Nat) (hn : 1 ≤ n) : (decodeN n a b c d).2 ≤ n := by
  unfold decodeN
  repeat' split
  all_goals simp only []
  all_goals omega
theorem headW_le (l : List UInt8) (h : 1 ≤ l.length) : headW l ≤ l.length := by
  unfold headW; rw [decodeL_N]; exact decodeN_le _ _ _ _ _ h
theorem decodeN_wt (n a b c d : Nat) (ha : a < 256) : wt (decodeN n a b c d).1 ≤ (decodeN n a b c d).2 := by
  unfold decodeN wt
  repeat' split
  all_goals simp only [] at *
  all_goals omega
theorem wt_le_headW (l : List UInt8) : wt (decodeL l).1 ≤ headW l := by
  unfold headW; rw [decodeL_N]; exact decodeN_wt _ _ _ _ _ (UInt8.toNat_lt _)
theorem decodeN_le4 (n a b c d : Nat) : (decodeN n a b c d).2 ≤ 4 := by
  unfold decodeN
  repeat' split
  all_goals simp only []
  all_goals omega
theorem headW_le4 (l : List UInt8) : headW l ≤ 4 := by
  unfold headW; rw [decodeL_N]; exact decodeN_le4 _ _ _ _ _

def pcs : Nat → List UInt8 → List (Nat × Nat)
  | 0, _ => []
  | n + 1, l => if l = [] then [] else (headW l, (decodeL l).1) :: pcs n (l.drop (headW l))
def pieces (l : List UInt8) : List (Nat × Nat) := pcs l.length l
theorem pcs_nil : ∀ n, pcs n [] = []
  | 0 => rfl
  | _ + 1 => by simp [pcs]
theorem pcs_fuel : ∀ (n m : Nat) (l : List UInt8), l.length ≤ n → l.length ≤ m → pcs n l = pcs m l
  | 0, m, l, hn, _ => by
    have : l = [] := List.eq_nil_of_length_eq_zero (by omega)
    subst this
    rw [pcs_nil, pcs_nil]
  | n + 1, 0, l, _, hm => by
    have : l = [] := List.eq_nil_of_length_eq_zero (by omega)
    subst this
    rw [pcs_nil, pcs_nil]
  | n + 1, m + 1, l, hn, hm => by
    unfold pcs
    by_cases hne : l = []
    · simp [hne]
    · have hw := headW_pos l
      have hl : 0 < l.length := List.length_pos_iff.2 hne
      rw [if_neg hne, if_neg hne, pcs_fuel n m (l.drop (headW l)) (by rw [List.length_drop]; omega) (by rw [List.length_drop]; omega)]
theorem pieces_step (l : List UInt8) (h : l ≠ []) : pieces l = (headW l, (decodeL l).1) :: pieces (l.drop (headW l)) := by
  have hl : 0 < l.length := List.length_pos_iff.2 h
  have hw := headW_pos l
  obtain ⟨n, hn⟩ : ∃ n, l.length = n + 1 := ⟨l.length - 1, by omega⟩
  unfold pieces
  rw [hn]
  show (if l = [] then [] else _) = _
  rw [if_neg h, pcs_fuel n (l.drop (headW l)).length _ (by rw [List.length_drop]; omega) (Nat.le_refl _)]
theorem pieces_nil : pieces [] = [] := rfl

/-- the units of pieces -/
def unitsP : List (Nat × Nat) → Nat
  | [] => 0
  | (_, r) :: t => wt r + unitsP t
/-- where the piece of a unit begins: `pos`, `acc`: what lies ahead -/
def byteP : List (Nat × Nat) → Nat → Nat → Int → Nat
  | [], pos, _, _ => pos
  | (w, r) :: t, pos, acc, want => if want < ((acc + wt r : Nat) : Int) then pos else byteP t (pos + w) (acc + wt r) want
/-- the units ahead of a place, as the program reckons them -/
def uaP : List (Nat × Nat) → Nat → Nat → Nat → Int → Nat
  | [], pos, n, last, a => if a < (pos : Int) then n - last else n
  | (w, r) :: t, pos, n, last, a => if a < (pos : Int) then n - last else if (pos : Int) = a then n else uaP t (pos + w) (n + wt r) (wt r) a
def widthP : List (Nat × Nat) → Nat
  | [] => 0
  | (w, _) :: t => w + widthP t
theorem widthP_pieces : ∀ (k : Nat) (l : List UInt8), l.length ≤ k → widthP (pieces l) = l.length
  | 0, l, h => by
    have : l = [] := List.eq_nil_of_length_eq_zero (by omega)
    subst this; rfl
  | k + 1, l, h => by
    by_cases hne : l = []
    · subst hne; rfl
    · have hl : 0 < l.length := List.length_pos_iff.2 hne
      have h1 := headW_pos l
      have h2 := headW_le l hl
      rw [pieces_step l hne]
      simp only [widthP]
      rw [widthP_pieces k _ (by rw [List.length_drop]; omega), List.length_drop]
      omega
theorem unitsP_le : ∀ (k : Nat) (l : List UInt8), l.length ≤ k → unitsP (pieces l) ≤ l.length
  | 0, l, h => by
    have : l = [] := List.eq_nil_of_length_eq_zero (by omega)
    subst this; exact Nat.le_refl _
  | k + 1, l, h => by
    by_cases hne : l = []
    · subst hne; exact Nat.le_refl _
    · have hl : 0 < l.length := List.length_pos_iff.2 hne
      have h1 := headW_pos l
      have h2 := headW_le l hl
      have h3 := wt_le_headW l
      have := unitsP_le k (l.drop (headW l)) (by rw [List.length_drop]; omega)
      rw [pieces_step l hne]
      simp only [unitsP]
      rw [List.length_drop] at this
      omega

/-- the pieces of a text from a place on, for a walk over it -/
def from_ (s : ByteArray) (pos : Nat) : List (Nat × Nat) := pieces (s.data.toList.drop pos)
theorem from_step (s : ByteArray) (pos : Nat) (h : pos < s.size) : from_ s pos = ((Utf8.decode s pos).2, (Utf8.decode s pos).1) :: from_ s (pos + (Utf8.decode s pos).2) := by
  unfold from_
  rw [pieces_step _ (by intro e; have := congrArg List.length e; rw [List.length_drop, ← Lib.size_eq] at this; simp at this; omega), List.drop_drop]
  unfold headW
  rw [decodeL_drop]
theorem from_end (s : ByteArray) (pos : Nat) (h : ¬ pos < s.size) : from_ s pos = [] := by
  unfold from_
  rw [List.drop_eq_nil_of_le (by rw [← Lib.size_eq]; omega)]
  rfl
theorem dec_le (s : ByteArray) (pos : Nat) (h : pos < s.size) : pos + (Utf8.decode s pos).2 ≤ s.size := by
  have := headW_le (s.data.toList.drop pos) (by rw [List.length_drop, ← Lib.size_eq]; omega)
  unfold headW at this
  rw [decodeL_drop, List.length_drop, ← Lib.size_eq] at this
  omega
theorem dec_pos (s : ByteArray) (pos : Nat) : 1 ≤ (Utf8.decode s pos).2 := by
  have := headW_pos (s.data.toList.drop pos)
  unfold headW at this
  rwa [decodeL_drop] at this
theorem dec_wt (s : ByteArray) (pos : Nat) : wt (Utf8.decode s pos).1 ≤ (Utf8.decode s pos).2 := by
  have := wt_le_headW (s.data.toList.drop pos)
  unfold headW at this
  rwa [decodeL_drop] at this

/-! ### the number that the reference's loop gathers -/
def startN (k b0 : Nat) : Nat := if k = 1 then b0 else if k = 3 then b0 % 16 else if k = 4 then b0 % 8 else b0 % 32
def gather (l : List UInt8) (k : Nat) : Nat → Nat
  | 0 => 0
  | 1 => startN k (l.getD 0 0).toNat
  | i + 2 => 64 * gather l k (i + 1) + (l.getD (i + 1) 0).toNat % 64
theorem gather_le (l : List UInt8) (k i : Nat) (h : i ≤ 4) : gather l k i ≤ 67108863 := by
  have h1 : gather l k 1 ≤ 255 := by
    have := (l.getD 0 0).toNat_lt
    simp only [gather, startN]
    repeat' split
    all_goals omega
  rcases (show i = 0 ∨ i = 1 ∨ i = 2 ∨ i = 3 ∨ i = 4 from by omega) with rfl | rfl | rfl | rfl | rfl
  · simp [gather]
  · omega
  · show 64 * gather l k 1 + _ ≤ _
    omega
  · show 64 * (64 * gather l k 1 + _) + _ ≤ _
    omega
  · show 64 * (64 * (64 * gather l k 1 + _) + _) + _ ≤ _
    omega
theorem gather_cand (l : List UInt8) (k : Nat) (h1 : 1 ≤ k) (h4 : k ≤ 4) : gather l k k = candL l k := by
  rcases (show k = 1 ∨ k = 2 ∨ k = 3 ∨ k = 4 from by omega) with rfl | rfl | rfl | rfl
  · simp [gather, startN, candL, cand]
  · simp [gather, startN, candL, cand]; omega
  · simp [gather, startN, candL, cand]; omega
  · simp [gather, startN, candL, cand]; omega
theorem gather_succ (l : List UInt8) (k i : Nat) (h : 1 ≤ i) : gather l k (i + 1) = 64 * gather l k i + (l.getD i 0).toNat % 64 := by
  obtain ⟨j, rfl⟩ : ∃ j, i = j + 1 := ⟨i - 1, by omega⟩
  rfl
theorem start1 (l : List UInt8) (k : Nat) (x : UInt8) (h : x = l.getD 0 0) (h1 : 1 ≤ k) (h2 : k ≤ 1) : (x.toNat : Int) = (gather l k 1 : Nat) := by
  obtain rfl : k = 1 := by omega
  rw [h]; simp [gather, startN]
theorem start2 (l : List UInt8) (k : Nat) (x : UInt8) (h : x = l.getD 0 0) (h1 : 2 ≤ k) (h2 : k ≤ 2) : (x.toNat : Int) % 32 = (gather l k 1 : Nat) := by
  obtain rfl : k = 2 := by omega
  rw [h]; simp [gather, startN]
theorem start3 (l : List UInt8) (k : Nat) (x : UInt8) (h : x = l.getD 0 0) (h1 : 3 ≤ k) (h2 : k ≤ 3) : (x.toNat : Int) % 16 = (gather l k 1 : Nat) := by
  obtain rfl : k = 3 := by omega
  rw [h]; simp [gather, startN]
theorem start4 (l : List UInt8) (k : Nat) (x : UInt8) (h : x = l.getD 0 0) (h1 : 4 ≤ k) (h2 : k ≤ 4) : (x.toNat : Int) % 8 = (gather l k 1 : Nat) := by
  obtain rfl : k = 4 := by omega
  rw [h]; simp [gather, startN]

/-! ### the reference's rows: where each piece begins and ends, its units, whether it has a point -/
structure Row where
  from_ : Nat
  to_ : Nat
  units : Nat
  is_ : Bool
def ptP (w r : Nat) : Bool := decide (¬ (r = 65533 ∧ w = 1))
def rowsP : List (Nat × Nat) → Nat → List Row
  | [], _ => []
  | (w, r) :: t, pos => ⟨pos, pos + w, wt r, ptP w r⟩ :: rowsP t (pos + w)
theorem rowsP_length : ∀ (t : List (Nat × Nat)) (pos : Nat), (rowsP t pos).length = t.length
  | [], _ => rfl
  | (w, r) :: t, pos => by simp [rowsP, rowsP_length t]
theorem pieces_length : ∀ (k : Nat) (l : List UInt8), l.length ≤ k → (pieces l).length ≤ l.length
  | 0, l, h => by
    have : l = [] := List.eq_nil_of_length_eq_zero (by omega)
    subst this; exact Nat.le_refl _
  | k + 1, l, h => by
    by_cases hne : l = []
    · subst hne; exact Nat.le_refl _
    · have hl : 0 < l.length := List.length_pos_iff.2 hne
      have h1 := headW_pos l
      have := pieces_length k (l.drop (headW l)) (by rw [List.length_drop]; omega)
      rw [pieces_step l hne]
      rw [List.length_drop] at this
      simp only [List.length_cons]
      omega
theorem headP_int (l : List UInt8) : headP l = if isPt l then ((decodeL l).1 : Int) else -1 := by
  unfold headP isPt
  by_cases h : (decodeL l).1 = 65533 ∧ (decodeL l).2 = 1 <;> simp [h]
theorem isPt_ptP (l : List UInt8) : isPt l = ptP (headW l) (decodeL l).1 := rfl
theorem headP_ge (l : List UInt8) : decide (0 ≤ headP l) = isPt l := by
  rw [headP_int]
  cases isPt l <;> simp
theorem headP_big (l : List UInt8) : 65535 < headP l ↔ 65535 < (decodeL l).1 := by
  unfold headP
  split
  · rename_i h; rw [h.1]; simp
  · omega
theorem headP_le (l : List UInt8) : headP l ≤ 1114111 := by
  have := decodeL_rune l
  unfold headP
  split <;> omega

end Go.Proofs.Utf
