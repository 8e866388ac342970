/- The walks of the small functions of emend/utf, emendref02, emendlaw02: what each returns. -/
import Derived.Test.YtipbojiialfmeaaDoorRows
import Derived.WalkKit
import Derived.WalkSpells
import Derived.WalkLawsBesides
namespace Go.Proofs.YtipbojiialfmeaaDoor
open Go.RowKit

def pointB (n : Int) : Bool := decide (0 ≤ n ∧ n ≤ 1114111 ∧ (n < 55296 ∨ 57343 < n))
theorem point_true (n : Int) (w : World) (h : 0 ≤ n ∧ n ≤ 1114111 ∧ (n < 55296 ∨ 57343 < n)) :
    Calls Tryd.prog 35 #[.int .i64 n] w fun e w' => e = .returned (.bool true) ∧ w' = w := by
  obtain ⟨h1, h2, h3⟩ := h
  by_cases h4 : n < 55296
  · go_enter Tryd.func35, Tryd.ntmps35
    go_wp2
    go_ret
    exact ⟨rfl, rfl⟩
  · have h5 : 57343 < n := by omega
    go_enter Tryd.func35, Tryd.ntmps35
    go_wp2
    go_ret
    exact ⟨by simp, rfl⟩
theorem units_any (n : Int) (w : World) :
    Calls Tryd.prog 37 #[.int .i32 n] w fun e w' => e = .returned (.int .i64 (if 65535 < n then 2 else 1)) ∧ w' = w := by
  go_enter Tryd.func37, Tryd.ntmps37
  go_wp2
  all_goals go_ret
  all_goals simp [*]
theorem low_any (b : UInt8) (w : World) :
    Calls Tryd.prog 40 #[.int .u8 b.toNat] w fun e w' => e = .returned (.int .i64 ((b.toNat : Int) % 64)) ∧ w' = w := by
  have hb : (b.toNat : Int) < 256 := by have := b.toNat_lt; omega
  go_enter Tryd.func40, Tryd.ntmps40
  go_wp2
  go_ret
  exact ⟨rfl, rfl⟩
end Go.Proofs.YtipbojiialfmeaaDoor
