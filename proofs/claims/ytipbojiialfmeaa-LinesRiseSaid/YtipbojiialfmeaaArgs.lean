/- Structs and arrays of ints among the arguments: opened and shut. -/
import Derived.Test.YtipbojiialfmeaaW1
import Derived.ProofKit
import Derived.OpenShut
namespace Go.Proofs.Ytipbojiialfmeaa
open Go.RowKit Go.ChangeShapes Go.WideShapes

section
variable {H : Type} {enc : TypeId × Value → H} {W : World} {base : Nat} {sp : Nat → Bool} {held : Bool}
theorem c3 : Try.prog.cellsOf 3 = 1 := by kernel_rfl
theorem c32 : Try.prog.cellsOf 32 = 1 := by kernel_rfl
theorem c33 : Try.prog.cellsOf 33 = 2 := by kernel_rfl
theorem c35 : Try.prog.cellsOf 35 = 2 := by kernel_rfl
theorem c45 : Try.prog.cellsOf 45 = 4 := by kernel_rfl
theorem two_of {cs : List Value} {a b : Value} (hl : cs.length = 2) (h0 : cs.take 1 = [a]) (h1 : (cs.drop 1).take 1 = [b]) : cs = [a, b] := by
  match cs, hl with
  | [x, y], _ => simp at h0 h1; rw [h0, h1]
theorem four_of {cs : List Value} {a b c d : Value} (hl : cs.length = 4) (h0 : cs.take 2 = [a, b]) (h1 : (cs.drop 2).take 2 = [c, d]) : cs = [a, b, c, d] := by
  match cs, hl with
  | [x, y, z, u], _ => simp at h0 h1; rw [h0.1, h0.2, h1.1, h1.2]
theorem pos_cells {fuel : Nat} {cs : List Value} {x : DataW H × List MemPlace} (h : DataW.trod enc Try.prog W base sp held fuel 35 cs = some x) :
    ∃ a b : Int, cs = [.int .i64 a, .int .i64 b] ∧ x = (.agg [.lit (.int .i64 a), .lit (.int .i64 b)], []) ∧ (Lit.int .i64 a).wf = true ∧ (Lit.int .i64 b).wf = true := by
  obtain ⟨xs, m, rfl, rfl, hlen, hl, hf⟩ := DataW.trod_struct Try.underlying35 h
  match xs, hl with
  | [y0, y1], _ =>
    have h0 := hf 0 _ rfl
    have h1 := hf 1 _ rfl
    simp [c3] at h0 h1
    obtain ⟨a, e0, rfl, w0⟩ := DataW.trod_int Try.underlying3 h0
    obtain ⟨b, e1, rfl, w1⟩ := DataW.trod_int Try.underlying3 h1
    exact ⟨a, b, two_of (by rw [hlen, c35]) (by simpa using e0) (by simpa using e1), rfl, w0, w1⟩
theorem pos_arg {r : Reach} {b0 : Nat} {v : Value} {d : DataW H} {ps : List MemPlace} (hval : Value.okWide Try.prog W r b0 35 v) (hd : DataW.Trod enc Try.prog W base sp held 35 v d ps) :
    ∃ a b : Int, v = .agg #[.int .i64 a, .int .i64 b] ∧ d = .agg [.lit (.int .i64 a), .lit (.int .i64 b)] ∧ ps = [] ∧ (Lit.int .i64 a).wf = true ∧ (Lit.int .i64 b).wf = true := by
  obtain ⟨cs, rfl, _⟩ := okWide_struct Try.underlying35 hval
  obtain ⟨fuel, hf⟩ := hd
  obtain ⟨a, b, hc, hx, wa, wb⟩ := pos_cells hf
  simp only [Prod.mk.injEq] at hx
  obtain rfl : cs = #[.int .i64 a, .int .i64 b] := Array.toList_inj.1 (by simpa [Value.cells] using hc)
  exact ⟨a, b, rfl, hx.1, hx.2, wa, wb⟩
theorem pos_shut {a b : Int} (wa : (Lit.int .i64 a).wf = true) (wb : (Lit.int .i64 b).wf = true) : DataW.Trod enc Try.prog W base sp held 35 (.agg #[.int .i64 a, .int .i64 b]) (.agg [.lit (.int .i64 a), .lit (.int .i64 b)]) [] :=
  ⟨2, by simp [DataW.trod, Value.cells, Try.underlying35, Try.underlying3, c35, c3, wa, wb]⟩
theorem range_arg {r : Reach} {b0 : Nat} {v : Value} {d : DataW H} {ps : List MemPlace} (hval : Value.okWide Try.prog W r b0 45 v) (hd : DataW.Trod enc Try.prog W base sp held 45 v d ps) :
    ∃ a b c e : Int, v = .agg #[.int .i64 a, .int .i64 b, .int .i64 c, .int .i64 e] ∧ d = .agg [.agg [.lit (.int .i64 a), .lit (.int .i64 b)], .agg [.lit (.int .i64 c), .lit (.int .i64 e)]] ∧ ps = [] ∧
      (Lit.int .i64 a).wf = true ∧ (Lit.int .i64 b).wf = true ∧ (Lit.int .i64 c).wf = true ∧ (Lit.int .i64 e).wf = true := by
  obtain ⟨cs, rfl, _⟩ := okWide_struct Try.underlying45 hval
  obtain ⟨fuel, hf⟩ := hd
  obtain ⟨xs, m, rfl, hx, hlen, hl, hf⟩ := DataW.trod_struct Try.underlying45 hf
  match xs, hl with
  | [y0, y1], _ =>
    have h0 := hf 0 _ rfl
    have h1 := hf 1 _ rfl
    simp [c35] at h0 h1
    obtain ⟨a, b, e0, rfl, wa, wb⟩ := pos_cells h0
    obtain ⟨c, e, e1, rfl, wc, we⟩ := pos_cells h1
    simp only [Prod.mk.injEq] at hx
    have hcs := four_of (by rw [hlen, c45]) e0 e1
    obtain rfl : cs = #[.int .i64 a, .int .i64 b, .int .i64 c, .int .i64 e] := Array.toList_inj.1 (by simpa [Value.cells] using hcs)
    exact ⟨a, b, c, e, rfl, by simpa using hx.1, by simpa using hx.2, wa, wb, wc, we⟩
theorem range_shut {a b c e : Int} (wa : (Lit.int .i64 a).wf = true) (wb : (Lit.int .i64 b).wf = true) (wc : (Lit.int .i64 c).wf = true) (we : (Lit.int .i64 e).wf = true) :
    DataW.Trod enc Try.prog W base sp held 45 (.agg #[.int .i64 a, .int .i64 b, .int .i64 c, .int .i64 e]) (.agg [.agg [.lit (.int .i64 a), .lit (.int .i64 b)], .agg [.lit (.int .i64 c), .lit (.int .i64 e)]]) [] :=
  ⟨3, by simp [DataW.trod, Value.cells, Try.underlying45, Try.underlying35, Try.underlying3, c45, c35, c3, wa, wb, wc, we]⟩
theorem u16s_arg {r : Reach} {b0 : Nat} {v : Value} {d : DataW H} {ps : List MemPlace} (hval : Value.okWide Try.prog W r b0 33 v) (hd : DataW.Trod enc Try.prog W base sp held 33 v d ps) :
    ∃ a b : Int, v = .agg #[.int .u16 a, .int .u16 b] ∧ d = .agg [.lit (.int .u16 a), .lit (.int .u16 b)] ∧ ps = [] ∧ (Lit.int .u16 a).wf = true ∧ (Lit.int .u16 b).wf = true := by
  obtain ⟨cs, rfl, _⟩ : ∃ cs, v = .agg cs ∧ True := by
    simp only [Value.okWide, Try.underlying33] at hval
    obtain ⟨cs, h1, _⟩ := hval
    exact ⟨cs, h1, trivial⟩
  obtain ⟨fuel, hf⟩ := hd
  obtain ⟨xs, m, rfl, hx, hlen, hl, hf⟩ := DataW.trod_array Try.underlying33 hf
  match xs, hl with
  | [y0, y1], _ =>
    have h0 := hf 0 (by omega)
    have h1 := hf 1 (by omega)
    simp [c32] at h0 h1
    obtain ⟨a, e0, rfl, w0⟩ := DataW.trod_int Try.underlying32 h0
    obtain ⟨b, e1, rfl, w1⟩ := DataW.trod_int Try.underlying32 h1
    simp only [Prod.mk.injEq] at hx
    have hcs := two_of (by rw [hlen, c33]) (by simpa using e0) (by simpa using e1)
    obtain rfl : cs = #[.int .u16 a, .int .u16 b] := Array.toList_inj.1 (by simpa [Value.cells] using hcs)
    exact ⟨a, b, rfl, by simpa using hx.1, by simpa using hx.2, w0, w1⟩
theorem u16s_shut {a b : Int} (wa : (Lit.int .u16 a).wf = true) (wb : (Lit.int .u16 b).wf = true) : DataW.Trod enc Try.prog W base sp held 33 (.agg #[.int .u16 a, .int .u16 b]) (.agg [.lit (.int .u16 a), .lit (.int .u16 b)]) [] :=
  ⟨2, by simp [DataW.trod, Value.cells, Try.underlying33, Try.underlying32, c33, c32, wa, wb, List.range, List.range.loop]⟩
end
end Go.Proofs.Ytipbojiialfmeaa
