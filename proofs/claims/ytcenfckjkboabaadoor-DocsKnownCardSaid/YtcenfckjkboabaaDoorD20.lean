/- The laws' filler. -/
import Derived.Test.YtcenfckjkboabaaDoorD10
import Derived.Laws.IdiomStrings
namespace Go.Proofs.Dc
open Go.RowKit Go.Proofs Go.Lib Go.Maps

def fillL (n : Nat) : List UInt8 := [102, 105, 108, 101, 58, 47, 47, 47, 102, 105, 108, 108, 47, 102] ++ [UInt8.ofNat (97 + n / 26), UInt8.ofNat (97 + n % 26)] ++ [46, 103, 111]
def fillB (n : Nat) : ByteArray := ⟨(fillL n).toArray⟩
theorem fill_size (n : Nat) : (fillB n).size = 19 := by simp [fillB, fillL, ByteArray.size]
set_option maxRecDepth 100000 in
set_option maxHeartbeats 1000000 in
theorem filler_any (n : Nat) (hn : n < 40) (w : World) : Calls Tryd.prog 17 #[.int .i64 n] w fun e w' => e = .returned (.string (fillB n)) ∧ Below w.heap.size w w' := by
  have hback : (convert 48 9 (.slice (some ⟨w.heap.size, 0, none⟩) 2 2)).run Tryd.prog (w.alloc (.cells #[.int .u8 (97 + (n : Int) / 26), .int .u8 (97 + (n : Int) % 26)] 5)) = .ok (.string ⟨#[UInt8.ofNat (97 + n / 26), UInt8.ofNat (97 + n % 26)]⟩) (w.alloc (.cells #[.int .u8 (97 + (n : Int) / 26), .int .u8 (97 + (n : Int) % 26)] 5)) := by
    refine run_convert_bytes_back _ 48 9 5 ⟨w.heap.size, 0, none⟩ 2 [UInt8.ofNat (97 + n / 26), UInt8.ofNat (97 + n % 26)] (by kernel_rfl) (by kernel_rfl) (by kernel_rfl) fun j hj => ?_
    have e : (⟨w.heap.size, 0, none⟩ : Addr).add j = ⟨w.heap.size, j, none⟩ := by unfold Addr.add; split <;> simp_all
    rw [e, cell_of_row _ _ _ _ _ _ (World.alloc_heap_new w _)]
    match j, hj with
    | 0, _ => simp; omega
    | 1, _ => simp; omega
  have hf : (⟨#[102, 105, 108, 101, 58, 47, 47, 47, 102, 105, 108, 108, 47, 102]⟩ : ByteArray) ++ ⟨#[UInt8.ofNat (97 + n / 26), UInt8.ofNat (97 + n % 26)]⟩ ++ ⟨#[46, 103, 111]⟩ = fillB n := by
    apply ByteArray.ext
    simp [fillB, fillL]
  have hsz := fill_size n
  obtain ⟨X, hX⟩ : ∃ X : ByteArray, (⟨#[UInt8.ofNat (97 + n / 26), UInt8.ofNat (97 + n % 26)]⟩ : ByteArray) = X := ⟨_, rfl⟩
  have hXs : X.size = 2 := by rw [← hX]; rfl
  rw [hX] at hback hf
  have HF := Lib.hid hf
  have HX := Lib.hid hXs
  have hx2 : X.size ≤ 2 := by omega
  clear hX hf hXs hsz
  go_enter Tryd.func17, Tryd.ntmps17
  go_wp2
  go_ret
  exact ⟨by rw [← HF.out]; rfl, (Below.refl _ _).alloc (Nat.le_refl _) _⟩
end Go.Proofs.Dc
