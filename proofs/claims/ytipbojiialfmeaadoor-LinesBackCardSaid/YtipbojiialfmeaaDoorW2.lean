/- The walks of emendref02.Bytes, emendref02.Encode, emend/utf.Encode, pointAt, Decode. -/
import Derived.Test.YtipbojiialfmeaaDoorW1
import Derived.Test.YtipbojiialfmeaaDoorShelf
import Derived.Test.YtipbojiialfmeaaDoorPlain
namespace Go.Proofs.YtipbojiialfmeaaDoor
open Go.RowKit Go.Proofs.Utf Go.Lib

theorem long_any (s : ByteArray) (w : World) (hs : s.size ≤ 9223372036854775807) :
    Calls Tryd.prog 14 #[.string s] w fun e w' => e = .returned (.bool (decide (5000 < s.size))) ∧ w' = w := by
  go_enter Tryd.func14, Tryd.ntmps14
  go_wp2
  go_ret
  refine ⟨?_, rfl⟩
  simp
  omega
theorem point_false (n : Int) (w : World) (h : ¬ IsPoint n) :
    Calls Tryd.prog 35 #[.int .i64 n] w fun e w' => e = .returned (.bool false) ∧ w' = w := by
  unfold IsPoint at h
  by_cases h1 : 0 ≤ n
  · by_cases h2 : n ≤ 1114111
    · have h4 : ¬ n < 55296 := by omega
      have h5 : ¬ 57343 < n := by omega
      go_enter Tryd.func35, Tryd.ntmps35
      go_wp2
      go_ret
      exact ⟨by simp, rfl⟩
    · go_enter Tryd.func35, Tryd.ntmps35
      go_wp2
      go_ret
      exact ⟨by simp, rfl⟩
  · go_enter Tryd.func35, Tryd.ntmps35
    go_wp2
    go_ret
    exact ⟨by simp, rfl⟩
theorem cells_enc (n : Int) (hp : IsPoint n) : (encodeRune n).map (fun b => Value.int .u8 (b.toNat : Int)) = runeCells n := by
  obtain ⟨h0, h1, h2⟩ := hp
  simp only [encodeRune, runeCells, List.map_map]
  apply List.map_congr_left
  intro x hx
  have hb : 0 ≤ x ∧ x < 256 := by
    unfold encodeRuneZ at hx
    split at hx
    · simp at hx; omega
    split at hx
    · simp at hx; omega
    split at hx
    · simp at hx; omega
    split at hx
    · simp at hx; omega
    · simp at hx; omega
  simp
  omega
def BytesPost (n : Int) (w : World) (e : Ending) (w' : World) : Prop :=
  ∃ v, e = .returned v ∧ (convert 50 9 v).run Tryd.prog w' = .ok (.string ⟨(encodeRune n).toArray⟩) w' ∧ Below w.heap.size w w'
theorem bytes_end (n : Int) (hp : IsPoint n) (w : World) (C : List Value) (k : Nat) (hC : runeCells n = C) (hk : C.length = k) :
    BytesPost n w (.returned (.slice (some ⟨w.heap.size, 0, none⟩) k k)) (w.alloc (.cells C.toArray 5)) := by
  have hl : (encodeRune n).length = k := by
    have := congrArg List.length (cells_enc n hp)
    rw [hC, hk, List.length_map] at this
    exact this
  refine ⟨_, rfl, ?_, (Below.refl _ _).alloc (Nat.le_refl _) _⟩
  rw [← hl]
  refine run_convert_bytes_back (P := Tryd.prog) _ 50 9 5 _ _ _ Tryd.underlying50 Tryd.underlying5 Tryd.underlying9 ?_
  intro j hj
  have e : (w.alloc (.cells C.toArray 5)).cell? ⟨w.heap.size, j, none⟩ = C.toArray[j]? := World.cell?_alloc_mark w C.toArray 5 (0, 0) j
  rw [show (Addr.add ⟨w.heap.size, 0, none⟩ j) = ⟨w.heap.size, j, none⟩ by unfold Addr.add; split <;> simp_all, e, ← hC, ← cells_enc n hp]
  simp [hj]
theorem bytes_any (n : Int) (w : World) (hp : IsPoint n) : Calls Tryd.prog 36 #[.int .i64 n] w (BytesPost n w) := by
  obtain ⟨h0, h1, h2⟩ := id hp
  by_cases a : n ≤ 127
  · go_enter Tryd.func36, Tryd.ntmps36
    go_wp2
    go_ret
    exact bytes_end n hp w [.int .u8 n] 1 (by simp [runeCells, encodeRuneZ_one h0 a]) rfl
  by_cases b : n ≤ 2047
  · go_enter Tryd.func36, Tryd.ntmps36
    go_wp2
    go_ret
    exact bytes_end n hp w [.int .u8 (192 + n / 64), .int .u8 (128 + n % 64)] 2 (by simp [runeCells, encodeRuneZ_two (show 128 ≤ n by omega) b]) rfl
  by_cases c : n ≤ 65535
  · go_enter Tryd.func36, Tryd.ntmps36
    go_wp2
    go_ret
    exact bytes_end n hp w [.int .u8 (224 + n / 4096), .int .u8 (128 + n / 64 % 64), .int .u8 (128 + n % 64)] 3 (by simp [runeCells, encodeRuneZ_three (show (2048 ≤ n ∧ n < 55296) ∨ (57343 < n ∧ n ≤ 65535) by omega)]) rfl
  · go_enter Tryd.func36, Tryd.ntmps36
    go_wp2
    go_ret
    exact bytes_end n hp w [.int .u8 (240 + n / 262144), .int .u8 (128 + n / 4096 % 64), .int .u8 (128 + n / 64 % 64), .int .u8 (128 + n % 64)] 4 (by simp [runeCells, encodeRuneZ_four (show 65536 ≤ n by omega) h1]) rfl
theorem refEncode_yes (n : Int) (w : World) (hp : IsPoint n) :
    Calls Tryd.prog 12 #[.int .i64 n] w fun e w' => e = .returned (.tuple #[.string ⟨(encodeRune n).toArray⟩, .int .i64 0]) ∧ Below w.heap.size w w' := by
  go_enter Tryd.func12, Tryd.ntmps12
  go_wp2_with (first | (go_at_call 35; refine (point_true _ _ hp).mono ?_; rintro e w' ⟨rfl, rfl⟩) | (go_at_call 36; refine (bytes_any _ _ hp).mono ?_; rintro e w' ⟨v, rfl, hcv, hb⟩))
  go_ret2
  exact ⟨rfl, by assumption⟩
theorem refEncode_no (n : Int) (w : World) (hp : ¬ IsPoint n) :
    Calls Tryd.prog 12 #[.int .i64 n] w fun e w' => e = .returned (.tuple #[.string ⟨#[]⟩, .int .i64 8]) ∧ Below w.heap.size w w' := by
  go_enter Tryd.func12, Tryd.ntmps12
  go_wp2_with (first | (go_at_call 35; refine (point_false _ _ hp).mono ?_; rintro e w' ⟨rfl, rfl⟩))
  go_ret2
  exact ⟨rfl, Below.refl _ _⟩
end Go.Proofs.YtipbojiialfmeaaDoor
