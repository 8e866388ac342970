/- The walk of the reference's point. -/
import Derived.Test.YtphiceebhncflaaDoorR5
import Derived.Laws.IdiomStrings
namespace Go.Proofs.Jt
open Go.RowKit Go.Proofs Go.Lib Go.Proofs.Utf

theorem bytes_of (w : World) (C : Array Value) (l : List UInt8) (n : Nat) (hn : n = l.length) (h : C = (l.map fun b => Value.int .u8 (b.toNat : Int)).toArray) :
    (convert 35 9 (.slice (some ⟨w.heap.size, 0, none⟩) n n)).run Tryd.prog (w.alloc (.cells C 5)) = .ok (.string ⟨l.toArray⟩) (w.alloc (.cells C 5)) := by
  subst hn
  refine run_convert_bytes_back _ 35 9 5 ⟨w.heap.size, 0, none⟩ l.length l (by kernel_rfl) (by kernel_rfl) (by kernel_rfl) fun j hj => ?_
  have : (⟨w.heap.size, 0, none⟩ : Addr).add j = ⟨w.heap.size, j, none⟩ := by simp [Addr.add]; omega
  rw [this, World.cell?_alloc_mark, h]
  simp [hj]
theorem u8_int (x : Int) (h0 : 0 ≤ x) (h1 : x < 256) : Value.int .u8 ((x.toNat.toUInt8).toNat : Int) = Value.int .u8 x := by
  congr 1
  simp
  omega
set_option maxRecDepth 100000 in
set_option maxHeartbeats 1000000 in
theorem point_any (p : Int) (w : World) (hp : IsPoint p) : Calls Tryd.prog 96 #[.int .i64 p] w fun e w' => e = .returned (.string ⟨(encodeRune p).toArray⟩) ∧ Below w.heap.size w w' := by
  have hp' := hp
  unfold IsPoint at hp'
  obtain ⟨E, hE⟩ : ∃ E, encodeRune p = E := ⟨_, rfl⟩
  rw [hE]
  by_cases h1 : p < 128
  · have hrun := bytes_of w #[.int .u8 p] E 1 (by rw [← hE, enc1 p ⟨by omega, by omega⟩]; rfl) (by rw [← hE, enc1 p ⟨by omega, by omega⟩]; simp only [List.map_cons, List.map_nil]; rw [u8_int p (by omega) (by omega)])
    clear hE
    go_enter Tryd.func96, Tryd.ntmps96
    go_wp2
    go_ret
    exact ⟨rfl, (Below.refl _ _).alloc (Nat.le_refl _) _⟩
  · by_cases h2 : p < 2048
    · have hrun := bytes_of w #[.int .u8 (192 + p / 64), .int .u8 (128 + p % 64)] E 2 (by rw [← hE, enc2 p ⟨by omega, by omega⟩]; rfl) (by rw [← hE, enc2 p ⟨by omega, by omega⟩]; simp only [List.map_cons, List.map_nil]; rw [u8_int _ (by omega) (by omega), u8_int _ (by omega) (by omega)])
      clear hE
      go_enter Tryd.func96, Tryd.ntmps96
      go_wp2
      go_ret
      exact ⟨rfl, (Below.refl _ _).alloc (Nat.le_refl _) _⟩
    · by_cases h3 : p < 65536
      · have hrun := bytes_of w #[.int .u8 (224 + p / 4096), .int .u8 (128 + p / 64 % 64), .int .u8 (128 + p % 64)] E 3 (by rw [← hE, enc3 p (by omega)]; rfl) (by rw [← hE, enc3 p (by omega)]; simp only [List.map_cons, List.map_nil]; rw [u8_int _ (by omega) (by omega), u8_int _ (by omega) (by omega), u8_int _ (by omega) (by omega)])
        clear hE
        go_enter Tryd.func96, Tryd.ntmps96
        go_wp2
        go_ret
        exact ⟨rfl, (Below.refl _ _).alloc (Nat.le_refl _) _⟩
      · have hrun := bytes_of w #[.int .u8 (240 + p / 262144), .int .u8 (128 + p / 4096 % 64), .int .u8 (128 + p / 64 % 64), .int .u8 (128 + p % 64)] E 4 (by rw [← hE, enc4 p ⟨by omega, by omega⟩]; rfl) (by rw [← hE, enc4 p ⟨by omega, by omega⟩]; simp only [List.map_cons, List.map_nil]; rw [u8_int _ (by omega) (by omega), u8_int _ (by omega) (by omega), u8_int _ (by omega) (by omega), u8_int _ (by omega) (by omega)])
        clear hE
        go_enter Tryd.func96, Tryd.ntmps96
        go_wp2
        go_ret
        exact ⟨rfl, (Below.refl _ _).alloc (Nat.le_refl _) _⟩
end Go.Proofs.Jt
