/- DocsNames' walk. -/
import Derived.Test.YtcenfckjkboabaaDoorD10
import Derived.Test.YtcenfckjkboabaaDoorD4
namespace Go.Proofs.Dc
open Go.RowKit Go.Proofs Go.Lib Go.Maps

set_option maxRecDepth 100000 in
set_option maxHeartbeats 1000000 in
theorem names_walk (u : ByteArray) (w : World) (hT : Tabs w) (hu : u.size ≤ 140737488355328) : Calls Tryd.prog 3 #[.string u] w fun e w' => e = .returned (.bool true) ∧ Below w.heap.size w w' := by
  have hw := works_any
  by_cases hl : (3000 : Int) < (u.size : Int)
  · go_enter Tryd.func3, Tryd.ntmps3
    go_wp2_with (first
      | (go_at_call 7; refine (hw _ hT).mono ?_; rintro e w1 ⟨rfl, hb1⟩))
    go_ret
    exact ⟨rfl, hb1⟩
  · have hd := dir_any u w (by omega) hT.mx (fun w' hb => (hT.below hb).sp)
    have hr := fun w => rdir_any u w (by omega)
    obtain ⟨X, hX⟩ := dirVal_ok (dirV u.data.toList)
    rw [hX] at hd
    simp only [hX] at hr
    obtain ⟨O, hO⟩ : ∃ O, (dirV u.data.toList).isSome = O := ⟨_, rfl⟩
    rw [hO] at hd
    simp only [hO] at hr
    clear hX hO
    have hxx : (X.toList == X.toList) = true := by simp
    go_enter Tryd.func3, Tryd.ntmps3
    go_wp2_with (first
      | (go_at_call 8; refine hd.mono ?_; rintro e w1 ⟨rfl, hb1⟩)
      | (go_at_call 9; refine (hr _).mono ?_; rintro e w2 ⟨rfl, hb2⟩; have B2 := hb1.trans (hb2.mono hb1.size))
      | (go_at_call 7; refine (hw _ (hT.below B2)).mono ?_; rintro e w3 ⟨rfl, hb3⟩))
    go_ret
    exact ⟨rfl, B2.trans (hb3.mono B2.size)⟩
end Go.Proofs.Dc
