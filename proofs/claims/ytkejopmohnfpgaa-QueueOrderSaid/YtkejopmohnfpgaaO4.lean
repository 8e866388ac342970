/- Lists among the arguments: of texts, of small numbers. -/
import Derived.Test.YtkejopmohnfpgaaO3
import Derived.SliceStrings
import Derived.OpenShut
namespace Go.Proofs.Ytkejopmohnfpgaa
open Go.RowKit Go.Maps Go.Proofs Go.ChangeShapes Go.WideShapes

theorem laid_out : laidOutB Try.prog = true := by kernel_rfl
theorem add_block (a : Addr) (i : Nat) : (a.add i).block = a.block := by unfold Addr.add; split <;> rfl
set_option maxRecDepth 100000 in
theorem strings_arg {H : Type} {enc : TypeId × Value → H} {W : World} {base : Nat} {v : Value} {d : DataW H} {ps : List MemPlace} (hv : Value.okWide Try.prog W .any base 33 v) (h : DataW.Trod enc Try.prog W 0 (fun _ => true) true 33 v d ps) :
    ∃ (p : Option Addr) (n c : Nat), v = .slice p n c ∧ n ≤ maxLen ∧ ∀ i, i < n → ∃ (a : Addr) (s : ByteArray), p = some a ∧ W.cell? (a.add i) = some (.string s) ∧ s.size ≤ maxLen ∧ a.block < W.heap.size := by
  obtain ⟨a0, len, cap, rfl⟩ := okWide_slice Try.underlying33 hv
  obtain ⟨fuel, hf⟩ := h
  rcases open_strings Try.underlying33 Try.underlying9 (by kernel_rfl) hf with ⟨hcs, hx⟩ | ⟨a, len', cap', ss, hcs, _, hl, hm, hz, hx, hcell, hws⟩
  · simp [Value.cells] at hcs
    obtain ⟨rfl, rfl, rfl⟩ := hcs
    exact ⟨_, _, _, rfl, Nat.zero_le _, fun i hi => by omega⟩
  · simp [Value.cells] at hcs
    obtain ⟨rfl, rfl, rfl⟩ := hcs
    simp only [if_true] at hz
    refine ⟨_, _, _, rfl, Nat.le_trans hl hm, fun i hi => ⟨a, _, rfl, hcell i (by omega), ?_, ?_⟩⟩
    · rw [List.getD_eq_getElem?_getD, List.getElem?_eq_getElem (show i < ss.length by omega), Option.getD_some]
      exact hws _ (List.getElem_mem _)
    · have := World.block_lt_of_cell? W _ (hcell i (by omega))
      rwa [add_block] at this
set_option maxRecDepth 100000 in
theorem bytes_arg {H : Type} {enc : TypeId × Value → H} {W : World} {base : Nat} {v : Value} {d : DataW H} {ps : List MemPlace} (hv : Value.okWide Try.prog W .any base 34 v) (h : DataW.Trod enc Try.prog W 0 (fun _ => true) true 34 v d ps) :
    ∃ (p : Option Addr) (n c : Nat), v = .slice p n c ∧ n ≤ maxLen ∧ ∀ i, i < n → ∃ (a : Addr) (z : Int), p = some a ∧ W.cell? (a.add i) = some (.int .u8 z) ∧ 0 ≤ z ∧ z ≤ 255 ∧ a.block < W.heap.size := by
  obtain ⟨a0, len, cap, rfl⟩ := okWide_slice Try.underlying34 hv
  obtain ⟨fuel, hf⟩ := h
  rcases open_ints Try.underlying34 Try.underlying5 (by kernel_rfl) hf with ⟨hcs, hx⟩ | ⟨a, len', cap', zs, hcs, _, hl, hm, hz, hx, hcell, hws⟩
  · simp [Value.cells] at hcs
    obtain ⟨rfl, rfl, rfl⟩ := hcs
    exact ⟨_, _, _, rfl, Nat.zero_le _, fun i hi => by omega⟩
  · simp [Value.cells] at hcs
    obtain ⟨rfl, rfl, rfl⟩ := hcs
    simp only [if_true] at hz
    refine ⟨_, _, _, rfl, Nat.le_trans hl hm, fun i hi => ?_⟩
    have hb : 0 ≤ zs.getD i 0 ∧ zs.getD i 0 ≤ 255 := by
      have h1 : (Lit.int .u8 (zs.getD i 0)).wf = true := by
        rw [List.getD_eq_getElem?_getD, List.getElem?_eq_getElem (show i < zs.length by omega), Option.getD_some]
        exact hws _ (List.getElem_mem _)
      simpa [Lit.wf, IntKind.min, IntKind.max, IntKind.signed, IntKind.bits] using h1
    refine ⟨a, _, rfl, hcell i (by omega), hb.1, hb.2, ?_⟩
    have := World.block_lt_of_cell? W _ (hcell i (by omega))
    rwa [add_block] at this
theorem law_queueOrder (w : World) (r : Int) (h0 : 0 ≤ r) (h1 : r ≤ 255) {pi : Option Addr} {ni ci : Nat} {pd : Option Addr} {nd cd : Nat} (hni : ni ≤ maxLen) (hnd : nd ≤ maxLen)
    (hI : ∀ i, i < ni → ∃ (a : Addr) (s : ByteArray), pi = some a ∧ w.cell? (a.add i) = some (.string s) ∧ s.size ≤ maxLen ∧ a.block < w.heap.size)
    (hD : ∀ i, i < nd → ∃ (a : Addr) (z : Int), pd = some a ∧ w.cell? (a.add i) = some (.int .u8 z) ∧ 0 ≤ z ∧ z ≤ 255 ∧ a.block < w.heap.size) :
    Calls Try.prog 4 #[.int .u8 r, .slice pi ni ci, .slice pd nd cd] w fun e w' => e = .returned (.bool true) ∧ Below w.heap.size w w' := by
  obtain ⟨n, rfl⟩ : ∃ n : Nat, r = n := ⟨r.toNat, by omega⟩
  exact order_walk w n (by omega) pi ni ci pd nd cd hni hnd hI hD
end Go.Proofs.Ytkejopmohnfpgaa
