/- Put's walk; lists among the arguments. -/
import Derived.Test.YtebppgokcmeedaaDoorF9
import Derived.Test.YtebppgokcmeedaaDoorFb
import Derived.Test.YtebppgokcmeedaaDoorFL
import Derived.Lib.AppendIntMem
import Derived.SliceStrings
import Derived.OpenShut
namespace Go.Proofs.Fr
open Go.RowKit Go.Maps Go.Proofs Go.Lib Go.ChangeShapes Go.WideShapes

def TenV (w : World) : Prop := Lib.TabIs Tryd.prog w "internal/strconv.uint64pow10" .u64 Lib.pow10Tab
theorem TenV.grown {w w' : World} {row : Option Nat} (h : TenV w) (hg : w.grownBy w' row) (hr : some 1 ≠ row) : TenV w' := by
  have hgn : Tryd.prog.globalNamed "internal/strconv.uint64pow10" = some 1 := by kernel_rfl
  unfold TenV Lib.TabIs World.var? at h ⊢
  rw [hgn] at h ⊢
  simp only [Option.bind_some] at h ⊢
  have hlt : 1 < w.heap.size := by
    rcases Nat.lt_or_ge 1 w.heap.size with h' | h'
    · exact h'
    · rw [Array.getElem?_eq_none h'] at h; cases h
  rw [hg.block 1 hlt hr]
  exact h
theorem TenV.below {w w' : World} (h : TenV w) (hb : Below w.heap.size w w') : TenV w' := h.grown (row := none) (gb_below hb) (by simp)
theorem put_bytes (b : ByteArray) : ((⟨#[67, 111, 110, 116, 101, 110, 116, 45, 76, 101, 110, 103, 116, 104, 58, 32]⟩ : ByteArray) ++ ⟨(itoa (b.size : Int)).toArray⟩ ++ ⟨#[13, 10]⟩ ++ ⟨#[13, 10]⟩ ++ b) = ⟨(putL b.data.toList).toArray⟩ := by
  apply ByteArray.ext
  simp only [ByteArray.data_append]
  apply Array.toList_inj.1
  simp only [Array.toList_append, putL, end4, Lib.size_eq, List.append_assoc]
  rfl
set_option maxRecDepth 100000 in
set_option maxHeartbeats 1000000 in
theorem put_any (b : ByteArray) (w : World) (hb : b.size ≤ 1000000) (hT : TenV w) : Calls Tryd.prog 20 #[.string b] w fun e w' => e = .returned (.string ⟨(putL b.data.toList).toArray⟩) ∧ Below w.heap.size w w' := by
  have hi := Tryd.strconv_Itoa (b.size : Int) (by omega) (by omega) w hT
  have hp := put_bytes b
  obtain ⟨D, hD⟩ : ∃ D : ByteArray, (⟨(itoa (b.size : Int)).toArray⟩ : ByteArray) = D := ⟨_, rfl⟩
  rw [hD] at hi hp
  have hDs : D.size ≤ 20 := by
    rw [← hD, size_mk', itoa_nat, decDigits_length]
    have := nDigits_le (n := b.size)
    by_cases h : b.size < 1000000
    · have := this h; omega
    · have e : b.size = 1000000 := by omega
      rw [e]
      decide +kernel
  have HP := Lib.hid hp
  clear hp hD
  go_enter Tryd.func20, Tryd.ntmps20
  go_wp2_with (first | (go_at_call 31; refine hi.mono ?_; rintro e w1 ⟨rfl, k, os, rfl⟩))
  go_ret
  exact ⟨by rw [HP.out]; rfl, Lib.below_grow _ _ (Nat.le_refl _) _ _⟩
theorem laid_out : laidOutB Tryd.prog = true := by kernel_rfl
theorem add_block (a : Addr) (i : Nat) : (a.add i).block = a.block := by unfold Addr.add; split <;> rfl
set_option maxRecDepth 100000 in
theorem strings_arg {H : Type} {enc : TypeId × Value → H} {W : World} {base : Nat} {v : Value} {d : DataW H} {ps : List MemPlace} (hv : Value.okWide Tryd.prog W .any base 41 v) (h : DataW.Trod enc Tryd.prog W 0 (fun _ => true) true 41 v d ps) :
    ∃ (p : Option Addr) (n c : Nat), v = .slice p n c ∧ n ≤ maxLen ∧ ∀ i, i < n → ∃ (a : Addr) (s : ByteArray), p = some a ∧ W.cell? (a.add i) = some (.string s) ∧ s.size ≤ maxLen ∧ a.block < W.heap.size := by
  obtain ⟨a0, len, cap, rfl⟩ := okWide_slice Tryd.underlying41 hv
  obtain ⟨fuel, hf⟩ := h
  rcases open_strings Tryd.underlying41 Tryd.underlying9 (by kernel_rfl) hf with ⟨hcs, hx⟩ | ⟨a, len', cap', ss, hcs, _, hl, hm, hz, hx, hcell, hws⟩
  · simp [Value.cells] at hcs
    obtain ⟨rfl, rfl, rfl⟩ := hcs
    exact ⟨_, _, _, rfl, Nat.zero_le _, fun i hi => by omega⟩
  · simp [Value.cells] at hcs
    obtain ⟨rfl, rfl, rfl⟩ := hcs
    simp only [if_true] at hz
    refine ⟨_, _, _, rfl, Nat.le_trans hl hm, fun i hi => ⟨a, _, rfl, hcell i (by omega), ?_, ?_⟩⟩
    · rw [List.getD_eq_getElem?_getD, List.getElem?_eq_getElem (show i < ss.length by omega), Option.getD_some]
      exact hws _ (List.getElem_mem _)
    · have := World.block_lt_of_cell? W _ (hcell i (by omega))
      rwa [add_block] at this
set_option maxRecDepth 100000 in
theorem bytes_arg {H : Type} {enc : TypeId × Value → H} {W : World} {base : Nat} {v : Value} {d : DataW H} {ps : List MemPlace} (hv : Value.okWide Tryd.prog W .any base 48 v) (h : DataW.Trod enc Tryd.prog W 0 (fun _ => true) true 48 v d ps) :
    ∃ (p : Option Addr) (n c : Nat), v = .slice p n c ∧ n ≤ maxLen ∧ ∀ i, i < n → ∃ (a : Addr) (z : Int), p = some a ∧ W.cell? (a.add i) = some (.int .u8 z) ∧ 0 ≤ z ∧ z ≤ 255 ∧ a.block < W.heap.size := by
  obtain ⟨a0, len, cap, rfl⟩ := okWide_slice Tryd.underlying48 hv
  obtain ⟨fuel, hf⟩ := h
  rcases open_ints Tryd.underlying48 Tryd.underlying5 (by kernel_rfl) hf with ⟨hcs, hx⟩ | ⟨a, len', cap', zs, hcs, _, hl, hm, hz, hx, hcell, hws⟩
  · simp [Value.cells] at hcs
    obtain ⟨rfl, rfl, rfl⟩ := hcs
    exact ⟨_, _, _, rfl, Nat.zero_le _, fun i hi => by omega⟩
  · simp [Value.cells] at hcs
    obtain ⟨rfl, rfl, rfl⟩ := hcs
    simp only [if_true] at hz
    refine ⟨_, _, _, rfl, Nat.le_trans hl hm, fun i hi => ?_⟩
    have hb : 0 ≤ zs.getD i 0 ∧ zs.getD i 0 ≤ 255 := by
      have h1 : (Lit.int .u8 (zs.getD i 0)).wf = true := by
        rw [List.getD_eq_getElem?_getD, List.getElem?_eq_getElem (show i < zs.length by omega), Option.getD_some]
        exact hws _ (List.getElem_mem _)
      simpa [Lit.wf, IntKind.min, IntKind.max, IntKind.signed, IntKind.bits] using h1
    refine ⟨a, _, rfl, hcell i (by omega), hb.1, hb.2, ?_⟩
    have := World.block_lt_of_cell? W _ (hcell i (by omega))
    rwa [add_block] at this
end Go.Proofs.Fr
