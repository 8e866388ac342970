/- Two ids among the arguments. -/
import Derived.Test.YtaiaiiepbpbmmaaGreatDoorA2
namespace Go.Proofs.Rp
open Go.RowKit Go.Maps Go.Proofs Go.Lib Go.ChangeShapes Go.WideShapes Go.Deep Go.Proofs.Utf Go.Proofs.Jt

/-- an id among the arguments -/
def IArg (v : Value) (i : IdV) : Prop := ∃ I : ByteArray, v = .agg #[.int .i64 i.k, .int .i64 i.n, .string I] ∧ (⟨i.s.toArray⟩ : ByteArray) = I ∧ -9223372036854775808 ≤ i.n ∧ i.n ≤ 9223372036854775807
section
variable {H : Type} {enc : TypeId × Value → H} {w : World} {base : Nat}
set_option maxRecDepth 100000 in
theorem id_arg {v : Value} {d : DataW H} {ps : List MemPlace} (hv : Value.okWide Tryz.prog w .any base 57 v) (h : DataW.Trod enc Tryz.prog w 0 (fun _ => true) true 57 v d ps) : ∃ i, IArg v i := by
 obtain ⟨cs, rfl, _⟩ := okWide_struct Tryz.underlying57 hv
 obtain ⟨fuel, hf⟩ := h
 obtain ⟨i, I, e1, hI, hi0, hi1⟩ := id_trod hf
 obtain rfl : cs = #[_, _, _] := Array.toList_inj.1 e1
 exact ⟨i, I, rfl, hI, hi0, hi1⟩
end
end Go.Proofs.Rp
