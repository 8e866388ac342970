/- The walks of the small functions of emend/utf, emendref02, emendlaw02: what each returns. -/
import Derived.Test.YtipbojiialfmeaaRows
import Derived.WalkKit
import Derived.WalkSpells
import Derived.WalkLawsBesides
namespace Go.Proofs.Ytipbojiialfmeaa
open Go.RowKit

def pointB (n : Int) : Bool := decide (0 ≤ n ∧ n ≤ 1114111 ∧ (n < 55296 ∨ 57343 < n))
theorem point_true (n : Int) (w : World) (h : 0 ≤ n ∧ n ≤ 1114111 ∧ (n < 55296 ∨ 57343 < n)) :
    Calls Try.prog 48 #[.int .i64 n] w fun e w' => e = .returned (.bool true) ∧ w' = w := by
  obtain ⟨h1, h2, h3⟩ := h
  by_cases h4 : n < 55296
  · go_enter Try.func48, Try.ntmps48
    go_wp2
    go_ret
    exact ⟨rfl, rfl⟩
  · have h5 : 57343 < n := by omega
    go_enter Try.func48, Try.ntmps48
    go_wp2
    go_ret
    exact ⟨by simp, rfl⟩
theorem units_any (n : Int) (w : World) :
    Calls Try.prog 36 #[.int .i32 n] w fun e w' => e = .returned (.int .i64 (if 65535 < n then 2 else 1)) ∧ w' = w := by
  go_enter Try.func36, Try.ntmps36
  go_wp2
  all_goals go_ret
  all_goals simp [*]
theorem low_any (b : UInt8) (w : World) :
    Calls Try.prog 47 #[.int .u8 b.toNat] w fun e w' => e = .returned (.int .i64 ((b.toNat : Int) % 64)) ∧ w' = w := by
  have hb : (b.toNat : Int) < 256 := by have := b.toNat_lt; omega
  go_enter Try.func47, Try.ntmps47
  go_wp2
  go_ret
  exact ⟨rfl, rfl⟩
end Go.Proofs.Ytipbojiialfmeaa
