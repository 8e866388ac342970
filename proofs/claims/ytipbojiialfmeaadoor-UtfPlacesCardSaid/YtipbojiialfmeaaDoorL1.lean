/- The walks of the laws UtfEncodes and others: they return true. -/
import Derived.Test.YtipbojiialfmeaaDoorLaid
namespace Go.Proofs.YtipbojiialfmeaaDoor
open Go.RowKit Go.Proofs.Utf Go.Lib

theorem law_encodes (n : Int) (w : World) (hT : Tabs w) : Calls Tryd.prog 3 #[.int .i64 n] w fun e w' => e = .returned (.bool true) ∧ Below w.heap.size w w' := by
  have h0 := Ok.start hT
  suffices h : Calls Tryd.prog 3 #[.int .i64 n] w fun e w' => e = .returned (.bool true) ∧ Ok w w' from h.mono fun e w' ⟨he, hb⟩ => ⟨he, hb.1⟩
  by_cases hp : IsPoint n
  · go_enter Tryd.func3, Tryd.ntmps3
    go_wp2_with (first
      | (go_at_call 11; refine (ok_of (fun w _ => utfEncode_yes n w hp) (by assumption)).mono ?_; rintro e w1 ⟨rfl, hw1⟩)
      | (go_at_call 12; refine (ok_of (fun w _ => refEncode_yes n w hp) (by assumption)).mono ?_; rintro e w2 ⟨rfl, hw2⟩)
      | (go_at_call 13; refine (works_any (by assumption)).mono ?_; rintro e w3 ⟨rfl, hw3⟩))
    go_ret
    exact ⟨rfl, by assumption⟩
  · go_enter Tryd.func3, Tryd.ntmps3
    go_wp2_with (first
      | (go_at_call 11; refine (ok_same (fun w => utfEncode_no n w hp) (by assumption)).mono ?_; rintro e w1 ⟨rfl, hw1⟩)
      | (go_at_call 12; refine (ok_of (fun w _ => refEncode_no n w hp) (by assumption)).mono ?_; rintro e w2 ⟨rfl, hw2⟩)
      | (go_at_call 13; refine (works_any (by assumption)).mono ?_; rintro e w3 ⟨rfl, hw3⟩))
    go_ret
    exact ⟨rfl, by assumption⟩
end Go.Proofs.YtipbojiialfmeaaDoor
