/- Merged texts: Z1, Z2. -/
import Derived.Test.YtaiaiiepbpbmmaaGreatDoorVF2
import Derived.Test.YtaiaiiepbpbmmaaGreatDoorRY
/- Z1: The reference's Depth, Number, Shaped. Printed by gen_z1.py. -/
namespace Go.Proofs.Jt
open Go.RowKit Go.Maps Go.Lib Go.Proofs.Utf Go.Proofs

end Go.Proofs.Jt
/- Z2: The reference's found, Check. -/
namespace Go.Proofs.Jt
open Go.RowKit Go.Maps Go.Lib Go.Proofs.Utf Go.Proofs

/-- the reference's Quote of a text, by its error -/
theorem rquote_err (s : ByteArray) (w : World) (hs : s.size ≤ 16777216) : Calls Tryz.prog 130 #[.string s] w fun e w' => ∃ X : ByteArray, e = .returned (.tuple #[.string X, .int .i64 (if validD s.data.toList then (0 : Int) else 8)]) ∧ Below w.heap.size w w' ∧ (validD s.data.toList = true → X.data.toList = quoteL s.data.toList) := by
 refine (quote_ref s w hs).mono ?_
 rintro e w' ⟨rfl, hb⟩
 unfold quoteRV
 cases hv : validD s.data.toList with
 | true => exact ⟨_, rfl, hb, fun _ => rfl⟩
 | false => exact ⟨_, rfl, hb, fun h => by cases h⟩
end Go.Proofs.Jt
