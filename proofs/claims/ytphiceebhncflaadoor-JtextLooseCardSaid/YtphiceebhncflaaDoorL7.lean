/- Bytes among the arguments. -/
import Derived.Test.YtphiceebhncflaaDoorL6
import Derived.SliceStrings
import Derived.OpenShut
namespace Go.Proofs.Jt
open Go.RowKit Go.Maps Go.Proofs Go.ChangeShapes Go.WideShapes

theorem laid_out : laidOutB Tryd.prog = true := by kernel_rfl
theorem add_block (a : Addr) (i : Nat) : (a.add i).block = a.block := by unfold Addr.add; split <;> rfl
set_option maxRecDepth 100000 in
theorem bytes_arg {H : Type} {enc : TypeId × Value → H} {W : World} {base : Nat} {v : Value} {d : DataW H} {ps : List MemPlace} (hv : Value.okWide Tryd.prog W .any base 35 v) (h : DataW.Trod enc Tryd.prog W 0 (fun _ => true) true 35 v d ps) :
    ∃ (p : Option Addr) (n c : Nat), v = .slice p n c ∧ n ≤ maxLen ∧ ∀ i, i < n → ∃ (a : Addr) (z : Int), p = some a ∧ W.cell? (a.add i) = some (.int .u8 z) ∧ 0 ≤ z ∧ z ≤ 255 ∧ a.block < W.heap.size := by
  obtain ⟨a0, len, cap, rfl⟩ := okWide_slice Tryd.underlying35 hv
  obtain ⟨fuel, hf⟩ := h
  rcases open_ints Tryd.underlying35 Tryd.underlying5 (by kernel_rfl) hf with ⟨hcs, hx⟩ | ⟨a, len', cap', zs, hcs, _, hl, hm, hz, hx, hcell, hws⟩
  · simp [Value.cells] at hcs
    obtain ⟨rfl, rfl, rfl⟩ := hcs
    exact ⟨_, _, _, rfl, Nat.zero_le _, fun i hi => by omega⟩
  · simp [Value.cells] at hcs
    obtain ⟨rfl, rfl, rfl⟩ := hcs
    simp only [if_true] at hz
    refine ⟨_, _, _, rfl, Nat.le_trans hl hm, fun i hi => ?_⟩
    have hb : 0 ≤ zs.getD i 0 ∧ zs.getD i 0 ≤ 255 := by
      have h1 : (Lit.int .u8 (zs.getD i 0)).wf = true := by
        rw [List.getD_eq_getElem?_getD, List.getElem?_eq_getElem (show i < zs.length by omega), Option.getD_some]
        exact hws _ (List.getElem_mem _)
      simpa [Lit.wf, IntKind.min, IntKind.max, IntKind.signed, IntKind.bits] using h1
    refine ⟨a, _, rfl, hcell i (by omega), hb.1, hb.2, ?_⟩
    have := World.block_lt_of_cell? W _ (hcell i (by omega))
    rwa [add_block] at this
end Go.Proofs.Jt
