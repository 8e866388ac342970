/- emend/lines.Cut, Full; emendlaw06.long, three, works. -/
import Derived.Test.YtipbojiialfmeaaX7
namespace Go.Proofs.Ytipbojiialfmeaa
open Go.RowKit Go.Proofs.Utf Go.Lib

theorem long_any (s : ByteArray) (w : World) (hs : s.size ≤ 140737488355328) :
    Calls Try.prog 9 #[.string s] w fun e w' => e = .returned (.bool (decide (3000 < s.size))) ∧ w' = w := by
  go_enter Try.func9, Try.ntmps9
  go_wp2
  go_ret
  refine ⟨?_, rfl⟩
  simp
  omega
def threeB : ByteArray := ⟨#[97, 98, 13, 10, 99, 10, 13]⟩
theorem three_any (w : World) : Calls Try.prog 24 #[] w fun e w' => e = .returned (.string threeB) ∧ w' = w := by
  go_enter Try.func24, Try.ntmps24
  go_wp2
  go_ret
  exact ⟨rfl, rfl⟩
theorem t1 : offP threeB 1 5 = (5, 0) := by decide +kernel
theorem t2 : (linesL threeB.data.toList).length = 4 := by decide +kernel
/-- the Pos of a place -/
def atP (s : ByteArray) (n : Int) : Int × Int := posOf s (clamp n s.size) ((linesL s.data.toList).takeWhile (fun x => decide (x.1 ≤ clamp n s.size)))
theorem t3 : atP threeB 3 = (0, 2) := by decide +kernel
theorem t4 : atP threeB 7 = (3, 0) := by decide +kernel
theorem at_P (s : ByteArray) (n : Int) (w : World) (hs : s.size < 4294967281) :
    Calls Try.prog 16 #[.string s, .int .i64 n] w fun e w' => e = .returned (.agg #[.int .i64 (atP s n).1, .int .i64 (atP s n).2]) ∧ Below w.heap.size w w' := at_any s n w hs
theorem three_small : threeB.size < 4294967281 := by decide
set_option maxRecDepth 100000 in
set_option maxHeartbeats 2000000 in
theorem works_any (w : World) : Calls Try.prog 10 #[] w fun e w' => e = .returned (.bool true) ∧ Below w.heap.size w w' := by
  go_enter Try.func10, Try.ntmps10
  go_wp2_with (first
    | (go_at_call 24; refine (three_any _).mono ?_; rintro e w' ⟨rfl, hw⟩; rw [hw])
    | (go_at_call 14; refine (offset_any _ _ _ _ three_small).mono ?_; rintro e w1 ⟨rfl, hw1⟩; rw [t1])
    | (go_at_call 13; refine (count_any _ _ three_small).mono ?_; rintro e w2 ⟨rfl, hw2⟩; rw [t2])
    | (go_at_call 16; refine (at_P _ _ _ three_small).mono ?_; rintro e w3 ⟨rfl, hw3⟩; rw [t3])
    | (go_at_call 16; refine (at_P _ _ _ three_small).mono ?_; rintro e w4 ⟨rfl, hw4⟩; rw [t4]))
  go_ret
  exact ⟨rfl, ((hw1.trans (hw2.mono hw1.size)).trans (hw3.mono (Nat.le_trans hw1.size hw2.size))).trans (hw4.mono (Nat.le_trans hw1.size (Nat.le_trans hw2.size hw3.size)))⟩
end Go.Proofs.Ytipbojiialfmeaa
