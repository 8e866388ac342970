/- The walk of emendlaw02.works, and the frame in which the laws' calls are met. -/
import Derived.Test.YtipbojiialfmeaaDoorW4
namespace Go.Proofs.YtipbojiialfmeaaDoor
open Go.RowKit Go.Proofs.Utf Go.Lib

/-- what stood in W stands in w; the two tables are as they are laid -/
def Ok (W w : World) : Prop := Below W.heap.size W w ∧ Tabs w
theorem Ok.start {W : World} (h : Tabs W) : Ok W W := ⟨Below.refl _ _, h⟩
theorem Ok.step {W w w' : World} (h : Ok W w) (hb : Below w.heap.size w w') : Ok W w' :=
  ⟨h.1.trans (hb.mono h.1.size), h.2.below hb⟩
theorem ok_of {f : FuncId} {args : Array Value} {v : Value} (h : ∀ w, Tabs w → Calls Tryd.prog f args w fun e w' => e = .returned v ∧ Below w.heap.size w w')
    {W w : World} (hw : Ok W w) : Calls Tryd.prog f args w fun e w' => e = .returned v ∧ Ok W w' :=
  (h w hw.2).mono fun _ _ ⟨he, hb⟩ => ⟨he, hw.step hb⟩
theorem ok_same {f : FuncId} {args : Array Value} {v : Value} (h : ∀ w, Calls Tryd.prog f args w fun e w' => e = .returned v ∧ w' = w)
    {W w : World} (hw : Ok W w) : Calls Tryd.prog f args w fun e w' => e = .returned v ∧ Ok W w' :=
  (h w).mono fun _ _ ⟨he, hb⟩ => ⟨he, by rw [hb]; exact hw⟩

def smileB : ByteArray := ⟨#[97, 240, 159, 152, 128, 195, 169]⟩
theorem smile_any (w : World) : Calls Tryd.prog 27 #[] w fun e w' => e = .returned (.string smileB) ∧ w' = w := by
  go_enter Tryd.func27, Tryd.ntmps27
  go_wp2
  go_ret
  exact ⟨rfl, rfl⟩
theorem s1 : headP (smileB.data.toList.drop 1) = 128512 ∧ headW (smileB.data.toList.drop 1) = 4 := by decide +kernel
theorem s2 : (⟨(encodeRune 8364).toArray⟩ : ByteArray) = ⟨#[226, 130, 172]⟩ := by decide +kernel
theorem s3 : unitsP (pieces smileB.data.toList) = 4 := by decide +kernel
theorem s4 : byteP (pieces smileB.data.toList) 0 0 2 = 1 := by decide +kernel
theorem s5 : uaP (pieces smileB.data.toList) 0 0 0 4 = 1 := by decide +kernel
theorem works_any {W w : World} (hw : Ok W w) : Calls Tryd.prog 13 #[] w fun e w' => e = .returned (.bool true) ∧ Ok W w' := by
  have c1 : ∀ w, Tabs w → Calls Tryd.prog 21 #[.string smileB, .int .i64 1] w fun e w' => e = .returned (.tuple #[.int .i64 128512, .int .i64 4]) ∧ Below w.heap.size w w' := fun w hT => by
    have := utfDecode_in smileB 1 w (by decide) (by decide) hT
    rw [s1.1, s1.2] at this
    exact this
  have c2 : ∀ w, Tabs w → Calls Tryd.prog 11 #[.int .i64 8364] w fun e w' => e = .returned (.tuple #[.string ⟨#[226, 130, 172]⟩, .int .i64 0]) ∧ Below w.heap.size w w' := fun w hT => by
    have := utfEncode_yes 8364 w (by decide)
    rw [s2] at this
    exact this
  have c3 : ∀ w, Tabs w → Calls Tryd.prog 15 #[.string smileB] w fun e w' => e = .returned (.int .i64 4) ∧ Below w.heap.size w w' := fun w hT => by
    have := utfUnits_any smileB w (by decide)
    rw [s3] at this
    exact this
  have c4 : ∀ w, Tabs w → Calls Tryd.prog 17 #[.string smileB, .int .i64 2] w fun e w' => e = .returned (.int .i64 1) ∧ Below w.heap.size w w' := fun w hT => by
    have := utfByte_any smileB 2 w (by decide)
    rw [s4] at this
    exact this
  have c5 : ∀ w, Tabs w → Calls Tryd.prog 19 #[.string smileB, .int .i64 4] w fun e w' => e = .returned (.int .i64 1) ∧ Below w.heap.size w w' := fun w hT => by
    have := utfUnitsAt_any smileB 4 w (by decide)
    rw [s5] at this
    exact this
  go_enter Tryd.func13, Tryd.ntmps13
  go_wp2_with (first
    | (go_at_call 27; refine (smile_any _).mono ?_; rintro e w' ⟨rfl, rfl⟩)
    | (go_at_call 21; refine (ok_of c1 (by assumption)).mono ?_; rintro e w1 ⟨rfl, hw1⟩)
    | (go_at_call 11; refine (ok_of c2 (by assumption)).mono ?_; rintro e w2 ⟨rfl, hw2⟩)
    | (go_at_call 15; refine (ok_of c3 (by assumption)).mono ?_; rintro e w3 ⟨rfl, hw3⟩)
    | (go_at_call 17; refine (ok_of c4 (by assumption)).mono ?_; rintro e w4 ⟨rfl, hw4⟩)
    | (go_at_call 19; refine (ok_of c5 (by assumption)).mono ?_; rintro e w5 ⟨rfl, hw5⟩))
  go_ret
  exact ⟨rfl, by assumption⟩
end Go.Proofs.YtipbojiialfmeaaDoor
