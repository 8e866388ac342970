/- The walks of emend/utf: Encode, pointAt, Decode, Valid, Units, Byte, UnitsAt. -/
import Derived.Test.YtipbojiialfmeaaW2
import Derived.Laws.RangeString
import Derived.Laws.RangeAny
import Derived.LoopTactic
namespace Go.Proofs.Ytipbojiialfmeaa
open Go.RowKit Go.Proofs.Utf Go.Lib
theorem units_nat (r : Nat) (w : World) : Calls Try.prog 36 #[.int .i32 r] w fun e w' => e = .returned (.int .i64 (wt r)) ∧ w' = w := by
  refine (units_any r w).mono ?_
  rintro e w' ⟨rfl, rfl⟩
  refine ⟨?_, rfl⟩
  unfold wt
  by_cases h : 65535 < r
  · rw [if_pos h, if_pos (by omega)]; rfl
  · rw [if_neg h, if_neg (by omega)]; rfl
end Go.Proofs.Ytipbojiialfmeaa
