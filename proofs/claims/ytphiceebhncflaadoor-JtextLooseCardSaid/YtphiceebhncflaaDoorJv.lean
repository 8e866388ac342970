/- The reference's Step, by plain functions on bytes. No program in sight. -/
import Derived.Test.YtphiceebhncflaaDoorJs
namespace Go.Proofs.Jt
open Go.Lib Go.Proofs.Utf

def stN (c : Nat) : Nat := if 194 ≤ c ∧ c ≤ 223 then 1 else if 224 ≤ c ∧ c ≤ 239 then 2 else if 240 ≤ c ∧ c ≤ 244 then 3 else 0
def stLo (c : Nat) : Nat := if c = 240 then 144 else if c = 224 then 160 else 128
def stHi (c : Nat) : Nat := if c = 244 then 143 else if c = 237 then 159 else 191
def Conts (l : List UInt8) (n lo hi : Nat) : Prop := ∀ k, 1 ≤ k → k ≤ n → (if k = 1 then lo else 128) ≤ (l.getD k 0).toNat ∧ (l.getD k 0).toNat ≤ (if k = 1 then hi else 191)
theorem step_yes (l : List UInt8) (c : Nat) (hc : (l.getD 0 0).toNat = c) (hn : stN c ≠ 0) (hl : stN c < l.length) (h : Conts l (stN c) (stLo c) (stHi c)) : isPt l = true ∧ headW l = stN c + 1 := by
  have key : ∀ k, 2 ≤ k → k ≤ 4 → k ≤ l.length → Hit l k → isPt l = true ∧ headW l = k := by
    intro k h2 h4 hk hh
    have e := found l k (by omega) h4 hk hh
    unfold isPt headW
    rw [e]
    refine ⟨decide_eq_true ?_, rfl⟩
    simp only
    omega
  unfold stN at hn hl h ⊢
  split at hn
  · rename_i h1
    rw [if_pos h1] at hl h ⊢
    have a := h 1 (by omega) (by omega)
    simp only [if_pos] at a
    unfold stLo stHi at a
    rw [if_neg (by omega), if_neg (by omega), if_neg (by omega), if_neg (by omega)] at a
    refine key 2 (by omega) (by omega) (by omega) ((Hit2 l (by omega)).2 ?_)
    rw [hc]
    omega
  · rename_i h1
    rw [if_neg h1] at hl h ⊢
    split at hn
    · rename_i h2
      rw [if_pos h2] at hl h ⊢
      have a := h 1 (by omega) (by omega)
      have b := h 2 (by omega) (by omega)
      simp only [if_pos] at a
      rw [if_neg (by decide), if_neg (by decide)] at b
      unfold stLo stHi at a
      refine key 3 (by omega) (by omega) (by omega) ((Hit3 l (by omega)).2 ?_)
      rw [hc]
      (repeat' split at a) <;> omega
    · rename_i h2
      rw [if_neg h2] at hl h ⊢
      split at hn
      · rename_i h3
        rw [if_pos h3] at hl h ⊢
        have a := h 1 (by omega) (by omega)
        have b := h 2 (by omega) (by omega)
        have d := h 3 (by omega) (by omega)
        simp only [if_pos] at a
        rw [if_neg (by decide), if_neg (by decide)] at b d
        unfold stLo stHi at a
        refine key 4 (by omega) (by omega) (by omega) ((Hit4 l (by omega)).2 ?_)
        rw [hc]
        (repeat' split at a) <;> omega
      · exact absurd rfl hn
theorem step_no (l : List UInt8) (c : Nat) (hne : l ≠ []) (hc : (l.getD 0 0).toNat = c) (h128 : 128 ≤ c) (h : isPt l = true) : stN c ≠ 0 ∧ stN c < l.length ∧ Conts l (stN c) (stLo c) (stHi c) := by
  obtain ⟨k, h1, h4, hk, hh⟩ := pt_hit l hne h
  rcases (show k = 1 ∨ k = 2 ∨ k = 3 ∨ k = 4 by omega) with rfl | rfl | rfl | rfl
  · have := (Hit1 l hk).1 hh
    omega
  · have := (Hit2 l hk).1 hh
    rw [hc] at this
    have hr : 194 ≤ c ∧ c ≤ 223 := by omega
    have e : stN c = 1 := by unfold stN; rw [if_pos hr]
    rw [e]
    refine ⟨by omega, by omega, fun k h1 h2 => ?_⟩
    obtain rfl : k = 1 := by omega
    simp only [if_pos]
    unfold stLo stHi
    rw [if_neg (by omega), if_neg (by omega), if_neg (by omega), if_neg (by omega)]
    omega
  · have := (Hit3 l hk).1 hh
    rw [hc] at this
    have hr : 224 ≤ c ∧ c ≤ 239 := by omega
    have e : stN c = 2 := by unfold stN; rw [if_neg (by omega), if_pos hr]
    rw [e]
    refine ⟨by omega, by omega, fun k h1 h2 => ?_⟩
    rcases (show k = 1 ∨ k = 2 by omega) with rfl | rfl
    · simp only [if_pos]
      unfold stLo stHi
      constructor <;> (repeat' split) <;> omega
    · rw [if_neg (by decide), if_neg (by decide)]
      omega
  · have := (Hit4 l hk).1 hh
    rw [hc] at this
    have hr : 240 ≤ c ∧ c ≤ 244 := by omega
    have e : stN c = 3 := by unfold stN; rw [if_neg (by omega), if_neg (by omega), if_pos hr]
    rw [e]
    refine ⟨by omega, by omega, fun k h1 h2 => ?_⟩
    rcases (show k = 1 ∨ k = 2 ∨ k = 3 by omega) with rfl | rfl | rfl
    · simp only [if_pos]
      unfold stLo stHi
      constructor <;> (repeat' split) <;> omega
    · rw [if_neg (by decide), if_neg (by decide)]
      omega
    · rw [if_neg (by decide), if_neg (by decide)]
      omega
theorem step_ascii (l : List UInt8) (hne : l ≠ []) (h : (l.getD 0 0).toNat < 128) : isPt l = true ∧ headW l = 1 := by
  obtain ⟨b, t, rfl⟩ := List.exists_cons_of_ne_nil hne
  have hb : b.toNat < 128 := h
  unfold isPt headW
  rw [decodeL_ascii b t hb]
  refine ⟨decide_eq_true ?_, rfl⟩
  simp only
  omega
def stepL (l : List UInt8) : Nat := if isPt l then headW l else 0
end Go.Proofs.Jt
