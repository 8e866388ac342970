/- The walks of emendref02.Bytes, emendref02.Encode, emend/utf.Encode, pointAt, Decode. -/
import Derived.Test.YtipbojiialfmeaaW1
import Derived.Test.YtipbojiialfmeaaPlain
namespace Go.Proofs.Ytipbojiialfmeaa
open Go.RowKit Go.Proofs.Utf Go.Lib
theorem point_false (n : Int) (w : World) (h : ¬ IsPoint n) :
    Calls Try.prog 48 #[.int .i64 n] w fun e w' => e = .returned (.bool false) ∧ w' = w := by
  unfold IsPoint at h
  by_cases h1 : 0 ≤ n
  · by_cases h2 : n ≤ 1114111
    · have h4 : ¬ n < 55296 := by omega
      have h5 : ¬ 57343 < n := by omega
      go_enter Try.func48, Try.ntmps48
      go_wp2
      go_ret
      exact ⟨by simp, rfl⟩
    · go_enter Try.func48, Try.ntmps48
      go_wp2
      go_ret
      exact ⟨by simp, rfl⟩
  · go_enter Try.func48, Try.ntmps48
    go_wp2
    go_ret
    exact ⟨by simp, rfl⟩
theorem cells_enc (n : Int) (hp : IsPoint n) : (encodeRune n).map (fun b => Value.int .u8 (b.toNat : Int)) = runeCells n := by
  obtain ⟨h0, h1, h2⟩ := hp
  simp only [encodeRune, runeCells, List.map_map]
  apply List.map_congr_left
  intro x hx
  have hb : 0 ≤ x ∧ x < 256 := by
    unfold encodeRuneZ at hx
    split at hx
    · simp at hx; omega
    split at hx
    · simp at hx; omega
    split at hx
    · simp at hx; omega
    split at hx
    · simp at hx; omega
    · simp at hx; omega
  simp
  omega
def BytesPost (n : Int) (w : World) (e : Ending) (w' : World) : Prop :=
  ∃ v, e = .returned v ∧ (convert 82 9 v).run Try.prog w' = .ok (.string ⟨(encodeRune n).toArray⟩) w' ∧ Below w.heap.size w w'
theorem bytes_end (n : Int) (hp : IsPoint n) (w : World) (C : List Value) (k : Nat) (hC : runeCells n = C) (hk : C.length = k) :
    BytesPost n w (.returned (.slice (some ⟨w.heap.size, 0, none⟩) k k)) (w.alloc (.cells C.toArray 5)) := by
  have hl : (encodeRune n).length = k := by
    have := congrArg List.length (cells_enc n hp)
    rw [hC, hk, List.length_map] at this
    exact this
  refine ⟨_, rfl, ?_, (Below.refl _ _).alloc (Nat.le_refl _) _⟩
  rw [← hl]
  refine run_convert_bytes_back (P := Try.prog) _ 82 9 5 _ _ _ Try.underlying82 Try.underlying5 Try.underlying9 ?_
  intro j hj
  have e : (w.alloc (.cells C.toArray 5)).cell? ⟨w.heap.size, j, none⟩ = C.toArray[j]? := World.cell?_alloc_mark w C.toArray 5 (0, 0) j
  rw [show (Addr.add ⟨w.heap.size, 0, none⟩ j) = ⟨w.heap.size, j, none⟩ by unfold Addr.add; split <;> simp_all, e, ← hC, ← cells_enc n hp]
  simp [hj]
theorem bytes_any (n : Int) (w : World) (hp : IsPoint n) : Calls Try.prog 49 #[.int .i64 n] w (BytesPost n w) := by
  obtain ⟨h0, h1, h2⟩ := id hp
  by_cases a : n ≤ 127
  · go_enter Try.func49, Try.ntmps49
    go_wp2
    go_ret
    exact bytes_end n hp w [.int .u8 n] 1 (by simp [runeCells, encodeRuneZ_one h0 a]) rfl
  by_cases b : n ≤ 2047
  · go_enter Try.func49, Try.ntmps49
    go_wp2
    go_ret
    exact bytes_end n hp w [.int .u8 (192 + n / 64), .int .u8 (128 + n % 64)] 2 (by simp [runeCells, encodeRuneZ_two (show 128 ≤ n by omega) b]) rfl
  by_cases c : n ≤ 65535
  · go_enter Try.func49, Try.ntmps49
    go_wp2
    go_ret
    exact bytes_end n hp w [.int .u8 (224 + n / 4096), .int .u8 (128 + n / 64 % 64), .int .u8 (128 + n % 64)] 3 (by simp [runeCells, encodeRuneZ_three (show (2048 ≤ n ∧ n < 55296) ∨ (57343 < n ∧ n ≤ 65535) by omega)]) rfl
  · go_enter Try.func49, Try.ntmps49
    go_wp2
    go_ret
    exact bytes_end n hp w [.int .u8 (240 + n / 262144), .int .u8 (128 + n / 4096 % 64), .int .u8 (128 + n / 64 % 64), .int .u8 (128 + n % 64)] 4 (by simp [runeCells, encodeRuneZ_four (show 65536 ≤ n by omega) h1]) rfl
end Go.Proofs.Ytipbojiialfmeaa
