/- Two ids among the arguments. -/
import Derived.Test.YtaiaiiepbpbmmaaGreatDoorA2
namespace Go.Proofs.Rp
open Go.RowKit Go.Maps Go.Proofs Go.Lib Go.ChangeShapes Go.WideShapes Go.Deep Go.Proofs.Utf Go.Proofs.Jt

set_option maxRecDepth 100000 in
theorem cn81 : Tryz.prog.cellsOf 81 = 6 := by kernel_rfl
/-- two ids among the arguments -/
def IArg2 (v : Value) (i j : IdV) : Prop := ∃ I J : ByteArray, v = .agg #[.int .i64 i.k, .int .i64 i.n, .string I, .int .i64 j.k, .int .i64 j.n, .string J] ∧ (⟨i.s.toArray⟩ : ByteArray) = I ∧ (⟨j.s.toArray⟩ : ByteArray) = J ∧ -9223372036854775808 ≤ i.n ∧ i.n ≤ 9223372036854775807 ∧ -9223372036854775808 ≤ j.n ∧ j.n ≤ 9223372036854775807
/-- an id among the arguments -/
def IArg (v : Value) (i : IdV) : Prop := ∃ I : ByteArray, v = .agg #[.int .i64 i.k, .int .i64 i.n, .string I] ∧ (⟨i.s.toArray⟩ : ByteArray) = I ∧ -9223372036854775808 ≤ i.n ∧ i.n ≤ 9223372036854775807
section
variable {H : Type} {enc : TypeId × Value → H} {w : World} {base : Nat}
set_option maxRecDepth 100000 in
theorem id_arg {v : Value} {d : DataW H} {ps : List MemPlace} (hv : Value.okWide Tryz.prog w .any base 57 v) (h : DataW.Trod enc Tryz.prog w 0 (fun _ => true) true 57 v d ps) : ∃ i, IArg v i := by
  obtain ⟨cs, rfl, _⟩ := okWide_struct Tryz.underlying57 hv
  obtain ⟨fuel, hf⟩ := h
  obtain ⟨i, I, e1, hI, hi0, hi1⟩ := id_trod hf
  obtain rfl : cs = #[_, _, _] := Array.toList_inj.1 e1
  exact ⟨i, I, rfl, hI, hi0, hi1⟩
set_option maxRecDepth 100000 in
theorem ids_arg {v : Value} {d : DataW H} {ps : List MemPlace} (hv : Value.okWide Tryz.prog w .any base 81 v) (h : DataW.Trod enc Tryz.prog w 0 (fun _ => true) true 81 v d ps) : ∃ i j, IArg2 v i j := by
  obtain ⟨cs, rfl, _⟩ : ∃ cs, v = .agg cs ∧ True := by
    simp only [Value.okWide, Tryz.underlying81] at hv
    obtain ⟨cs, h1, _⟩ := hv
    exact ⟨cs, h1, trivial⟩
  obtain ⟨fuel, hf⟩ := h
  obtain ⟨xs, m, _, _, hlen, hl, hfd⟩ := DataW.trod_array Tryz.underlying81 hf
  rw [cn81] at hlen
  match xs, hl with
  | [y0, y1], _ =>
    have h0 := hfd 0 (by omega)
    have h1 := hfd 1 (by omega)
    simp only [cn57, Nat.reduceMul] at h0 h1
    obtain ⟨L, hL⟩ : ∃ L, cs.toList = L := ⟨_, rfl⟩
    simp only [Value.cells] at hlen h0 h1
    rw [hL] at hlen h0 h1
    match L, hlen with
    | [u0, u1, u2, u3, u4, u5], _ =>
      obtain ⟨i, I, e1, hI, hi0, hi1⟩ := id_trod h0
      obtain ⟨j, J, e2, hJ, hj0, hj1⟩ := id_trod h1
      simp at e1 e2
      obtain ⟨rfl, rfl, rfl⟩ := e1
      obtain ⟨rfl, rfl, rfl⟩ := e2
      obtain rfl : cs = #[_, _, _, _, _, _] := Array.toList_inj.1 hL
      exact ⟨i, j, I, J, rfl, hI, hJ, hi0, hi1, hj0, hj1⟩
end
end Go.Proofs.Rp
