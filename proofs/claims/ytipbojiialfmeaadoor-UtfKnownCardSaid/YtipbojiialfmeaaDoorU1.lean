/- UtfKnown: 'is' and 'no'. -/
import Derived.Test.YtipbojiialfmeaaDoorW5
namespace Go.Proofs.YtipbojiialfmeaaDoor
open Go.RowKit Go.Proofs.Utf
set_option maxRecDepth 100000
theorem is_in (s : ByteArray) (a : Nat) (n : Int) (k : Nat) (w : World) (hs : s.size ≤ 140737488355328) (ha : a < s.size) (hn : headP (s.data.toList.drop a) = n) (hk : headW (s.data.toList.drop a) = k) (hT : Tabs w) :
    Calls Tryd.prog 25 #[.string s, .int .i64 a, .int .i64 n, .int .i64 k] w fun e w' => e = .returned (.bool true) ∧ Below w.heap.size w w' := by
  have c := utfDecode_in s a w hs ha hT
  rw [hn, hk] at c
  clear hn hk
  go_enter Tryd.func25, Tryd.ntmps25
  go_wp2_with (go_at_call 21; refine c.mono ?_; rintro e w' ⟨rfl, hb⟩)
  go_ret
  exact ⟨rfl, by assumption⟩
theorem is_out (s : ByteArray) (a : Int) (w : World) (hs : s.size ≤ 140737488355328) (ha : a < 0 ∨ s.size ≤ a) :
    Calls Tryd.prog 25 #[.string s, .int .i64 a, .int .i64 (-1), .int .i64 0] w fun e w' => e = .returned (.bool true) ∧ w' = w := by
  have c := utfDecode_out s a w hs ha
  go_enter Tryd.func25, Tryd.ntmps25
  go_wp2_with (go_at_call 21; refine c.mono ?_; rintro e w' ⟨rfl, rfl⟩)
  go_ret
  exact ⟨rfl, rfl⟩
end Go.Proofs.YtipbojiialfmeaaDoor
