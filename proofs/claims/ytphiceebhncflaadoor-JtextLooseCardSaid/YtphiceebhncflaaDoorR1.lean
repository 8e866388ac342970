/- The walks of the reference's is, digit, Step, Broken. -/
import Derived.Test.YtphiceebhncflaaDoorJ9
import Derived.Test.YtphiceebhncflaaDoorJv
namespace Go.Proofs.Jt
open Go.RowKit Go.Proofs Go.Lib Go.Proofs.Utf

def digAt (l : List UInt8) (i : Nat) : Bool := (l[i]?).any isDig
theorem list_get (s : ByteArray) (i : Nat) (h : i < s.size) : s.data.toList[i]? = some s[i] := by
  rw [List.getElem?_eq_getElem (by rw [← Lib.size_eq]; exact h)]
  rfl
theorem list_none (s : ByteArray) (i : Nat) (h : ¬ i < s.size) : s.data.toList[i]? = none := List.getElem?_eq_none (by rw [← Lib.size_eq]; omega)
set_option maxRecDepth 100000 in
theorem is_any (s : ByteArray) (i : Nat) (c : UInt8) (w : World) (hs : s.size ≤ 16777216) : Calls Tryd.prog 81 #[.string s, .int .i64 i, .int .u8 c.toNat] w fun e w' => e = .returned (.bool (decide (s.data.toList[i]? = some c))) ∧ w' = w := by
  by_cases hi : i < s.size
  · have hi' : (i : Int) < (s.size : Int) := by omega
    by_cases hc : s[i] = c
    · have t1 : ((s[i].toNat : Int) == (c.toNat : Int)) = true := by rw [hc]; simp
      have e : decide (s.data.toList[i]? = some c) = true := by rw [list_get s i hi, hc]; simp
      rw [e]
      clear e hc
      go_enter Tryd.func81, Tryd.ntmps81
      go_wp2
      go_ret
      exact ⟨rfl, rfl⟩
    · have t1 : ((s[i].toNat : Int) == (c.toNat : Int)) = false := by
        rw [beq_eq_false_iff_ne]
        intro e
        exact hc (UInt8.toNat_inj.1 (by omega))
      have e : decide (s.data.toList[i]? = some c) = false := by rw [list_get s i hi]; simpa using hc
      rw [e]
      clear e hc
      go_enter Tryd.func81, Tryd.ntmps81
      go_wp2
      go_ret
      exact ⟨rfl, rfl⟩
  · have hi' : ¬ (i : Int) < (s.size : Int) := by omega
    rw [list_none s i hi]
    go_enter Tryd.func81, Tryd.ntmps81
    go_wp2
    go_ret
    exact ⟨rfl, rfl⟩
set_option maxRecDepth 100000 in
theorem digit_any (s : ByteArray) (i : Nat) (w : World) (hs : s.size ≤ 16777216) : Calls Tryd.prog 82 #[.string s, .int .i64 i] w fun e w' => e = .returned (.bool (digAt s.data.toList i)) ∧ w' = w := by
  unfold digAt
  by_cases hi : i < s.size
  · have hi' : (i : Int) < (s.size : Int) := by omega
    rw [list_get s i hi]
    by_cases h1 : 48 ≤ s[i].toNat
    · have t1 : decide ((48 : Int) ≤ (s[i].toNat : Int)) = true := by simp; omega
      by_cases h2 : s[i].toNat ≤ 57
      · have t2 : decide ((s[i].toNat : Int) ≤ 57) = true := by simp; omega
        have e : (some s[i]).any isDig = true := by simp [isDig, h1, h2]
        rw [e]
        clear e h1 h2
        go_enter Tryd.func82, Tryd.ntmps82
        go_wp2
        go_ret
        exact ⟨rfl, rfl⟩
      · have t2 : decide ((s[i].toNat : Int) ≤ 57) = false := by simp; omega
        have e : (some s[i]).any isDig = false := by simp [isDig]; omega
        rw [e]
        clear e h1 h2
        go_enter Tryd.func82, Tryd.ntmps82
        go_wp2
        go_ret
        exact ⟨rfl, rfl⟩
    · have t1 : decide ((48 : Int) ≤ (s[i].toNat : Int)) = false := by simp; omega
      have e : (some s[i]).any isDig = false := by simp [isDig]; omega
      rw [e]
      clear e h1
      go_enter Tryd.func82, Tryd.ntmps82
      go_wp2
      go_ret
      exact ⟨rfl, rfl⟩
  · have hi' : ¬ (i : Int) < (s.size : Int) := by omega
    rw [list_none s i hi]
    go_enter Tryd.func82, Tryd.ntmps82
    go_wp2
    go_ret
    exact ⟨rfl, rfl⟩
end Go.Proofs.Jt
