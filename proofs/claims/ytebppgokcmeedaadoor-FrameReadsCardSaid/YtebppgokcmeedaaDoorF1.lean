/- The walks of frame's leaves: New, state, Push, Held, Broken, small, plain, length. -/
import Derived.Test.YtebppgokcmeedaaDoorFq
import Derived.Test.YtebppgokcmeedaaDoorShelf
import Derived.WalkKit
import Derived.WalkSpells
import Derived.WalkLawsBesides
import Derived.Deep.QuietTactic
import Derived.BigQuiet
import Derived.Deep.RegionHeld3
import Derived.IntWalk
import Derived.Deep.CutBlock
import Derived.Lib.Hide
import Derived.Lib.SmallJoins
import Derived.Maps.AppendAt
namespace Go.Proofs.Fr
open Go.RowKit Go.Proofs Go.Lib

theorem gb_below {w w' : World} {row : Option Nat} (h : Below w.heap.size w w') : w.grownBy w' row := ⟨h.os, h.tape, h.output, h.size, fun k hk _ => h.block k hk⟩
theorem gb_set (w : World) (b o : Nat) (v : Value) : w.grownBy (w.setCell ⟨b, o, none⟩ v) (some b) :=
  ⟨rfl, rfl, rfl, (by simp), fun k _ hk => Below.heap_setCell _ _ _ k (fun e => hk (by rw [e]))⟩
/-- a reader of frames -/
def RD (w : World) (b : Nat) (h : ByteArray) (br : Bool) : Prop := w.heap[b]? = some (.cells #[.string h, .bool true, .bool br] 54 (0, 0))
theorem RD.lt {w : World} {b : Nat} {h : ByteArray} {br : Bool} (r : RD w b h br) : b < w.heap.size := (Array.getElem?_eq_some_iff.1 r).1
theorem RD.kept {w w' : World} {b : Nat} {h : ByteArray} {br : Bool} (r : RD w b h br) {row : Option Nat} (hg : w.grownBy w' row) (hne : some b ≠ row) : RD w' b h br := (hg.block b r.lt hne).trans r
theorem RD.below {w w' : World} {b : Nat} {h : ByteArray} {br : Bool} (r : RD w b h br) (hb : Below w.heap.size w w') : RD w' b h br := (hb.block b r.lt).trans r
theorem RD.cells {w : World} {b : Nat} {h : ByteArray} {br : Bool} (r : RD w b h br) : w.cell? ⟨b, 0, none⟩ = some (.string h) ∧ w.cell? ⟨b, 1, none⟩ = some (.bool true) ∧ w.cell? ⟨b, 2, none⟩ = some (.bool br) ∧ (∀ o, w.frozen? ⟨b, o, none⟩ = false) := by
  unfold RD at r
  refine ⟨?_, ?_, ?_, fun o => ?_⟩
  · simp [World.cell?, r]
  · simp [World.cell?, r]
  · simp [World.cell?, r]
  · simp [World.frozen?, r]
theorem RD.set0 {w : World} {b : Nat} {h : ByteArray} {br : Bool} (r : RD w b h br) (h' : ByteArray) : RD (w.setCell ⟨b, 0, none⟩ (.string h')) b h' br := by
  obtain ⟨hlt, hk⟩ := Array.getElem?_eq_some_iff.1 r
  show (w.heap.modify b _)[b]? = _
  rw [Array.getElem?_eq_getElem (by rw [Array.size_modify]; exact hlt), Array.getElem_modify_self, hk]
  rfl
theorem RD.set2 {w : World} {b : Nat} {h : ByteArray} {br : Bool} (r : RD w b h br) (br' : Bool) : RD (w.setCell ⟨b, 2, none⟩ (.bool br')) b h br' := by
  obtain ⟨hlt, hk⟩ := Array.getElem?_eq_some_iff.1 r
  show (w.heap.modify b _)[b]? = _
  rw [Array.getElem?_eq_getElem (by rw [Array.size_modify]; exact hlt), Array.getElem_modify_self, hk]
  rfl
set_option maxRecDepth 100000 in
theorem new_any (w : World) : Calls Tryd.prog 9 #[] w fun e w' => e = .returned (.pointer (some ⟨w.heap.size, 0, none⟩)) ∧ w' = w.alloc (.cells #[.string ⟨#[]⟩, .bool true, .bool false] 54) := by
  go_enter Tryd.func9, Tryd.ntmps9
  go_wp2
  go_ret
  exact ⟨rfl, rfl⟩
theorem RD.new (w : World) : RD (w.alloc (.cells #[.string ⟨#[]⟩, .bool true, .bool false] 54)) w.heap.size ⟨#[]⟩ false := Array.getElem?_push_size
set_option maxRecDepth 100000 in
theorem state_any (w : World) (b : Nat) (h : ByteArray) (br : Bool) (r : RD w b h br) : Calls Tryd.prog 24 #[.pointer (some ⟨b, 0, none⟩)] w fun e w' => e = .returned (.int .i64 (if br then 4 else 0)) ∧ w = w' := by
  obtain ⟨c0, c1, c2, cf⟩ := r.cells
  cases br with
  | true =>
    clear r
    go_enter Tryd.func24, Tryd.ntmps24
    go_wp2
    go_ret
    exact ⟨rfl, rfl⟩
  | false =>
    clear r
    go_enter Tryd.func24, Tryd.ntmps24
    go_wp2
    go_ret
    exact ⟨rfl, rfl⟩
set_option maxRecDepth 100000 in
theorem held_any (w : World) (b : Nat) (h : ByteArray) (br : Bool) (r : RD w b h br) : Calls Tryd.prog 15 #[.pointer (some ⟨b, 0, none⟩)] w fun e w' => e = .returned (.int .i64 h.size) ∧ w = w' := by
  obtain ⟨c0, c1, c2, cf⟩ := r.cells
  have hs := state_any w b h br r
  cases br with
  | true =>
    clear r
    go_enter Tryd.func15, Tryd.ntmps15
    go_wp2_with (first | (go_at_call 24; refine hs.mono ?_; rintro e w1 ⟨rfl, hw⟩; subst hw))
    go_ret
    exact ⟨rfl, rfl⟩
  | false =>
    clear r
    go_enter Tryd.func15, Tryd.ntmps15
    go_wp2_with (first | (go_at_call 24; refine hs.mono ?_; rintro e w1 ⟨rfl, hw⟩; subst hw))
    go_ret
    exact ⟨rfl, rfl⟩
set_option maxRecDepth 100000 in
theorem broken_any (w : World) (b : Nat) (h : ByteArray) (br : Bool) (r : RD w b h br) : Calls Tryd.prog 16 #[.pointer (some ⟨b, 0, none⟩)] w fun e w' => e = .returned (.bool br) ∧ w = w' := by
  have hs := state_any w b h br r
  cases br with
  | true =>
    clear r
    go_enter Tryd.func16, Tryd.ntmps16
    go_wp2_with (first | (go_at_call 24; refine hs.mono ?_; rintro e w1 ⟨rfl, hw⟩; subst hw))
    go_ret
    exact ⟨rfl, rfl⟩
  | false =>
    clear r
    go_enter Tryd.func16, Tryd.ntmps16
    go_wp2_with (first | (go_at_call 24; refine hs.mono ?_; rintro e w1 ⟨rfl, hw⟩; subst hw))
    go_ret
    exact ⟨rfl, rfl⟩
set_option maxRecDepth 100000 in
theorem clone_any (s : ByteArray) (w : World) (hs : s.size ≤ 281474976710656) : Calls Tryd.prog 25 #[.string s] w fun e w' => e = .returned (.string s) ∧ Below w.heap.size w w' := by
  go_enter Tryd.func25, Tryd.ntmps25
  go_wp2_with (first | (go_at_call 38; refine (Tryd.stringslite_Clone s _ hs).mono ?_; rintro e w1 ⟨rfl, hb⟩))
  go_ret
  exact ⟨rfl, hb⟩
set_option maxRecDepth 100000 in
theorem push_broken (w : World) (b : Nat) (h s : ByteArray) (r : RD w b h true) : Calls Tryd.prog 11 #[.pointer (some ⟨b, 0, none⟩), .string s] w fun e w' => e = .returned (.int .i64 4) ∧ w = w' := by
  have hs := state_any w b h true r
  clear r
  go_enter Tryd.func11, Tryd.ntmps11
  go_wp2_with (first | (go_at_call 24; refine hs.mono ?_; rintro e w1 ⟨rfl, hw⟩; subst hw))
  go_ret
  exact ⟨rfl, rfl⟩
set_option maxRecDepth 100000 in
theorem push_any (w : World) (b : Nat) (h s : ByteArray) (r : RD w b h false) (hsz : h.size + s.size ≤ 281474976710656) : Calls Tryd.prog 11 #[.pointer (some ⟨b, 0, none⟩), .string s] w fun e w' => e = .returned (.int .i64 0) ∧ RD w' b (h ++ s) false ∧ w.grownBy w' (some b) := by
  obtain ⟨c0, c1, c2, cf⟩ := r.cells
  have hs := state_any w b h false r
  have hcl := fun w => clone_any (h ++ s) w (by rw [ByteArray.size_append]; exact hsz)
  have h1 : (h.size : Int) + (s.size : Int) ≤ 281474976710656 := by omega
  have R := Lib.hid r
  clear r
  go_enter Tryd.func11, Tryd.ntmps11
  go_wp2_with (first
    | (go_at_call 24; refine hs.mono ?_; rintro e w1 ⟨rfl, hw⟩; subst hw)
    | (go_at_call 25; refine (hcl _).mono ?_; rintro e w2 ⟨rfl, hb⟩
       have r2 := R.out.below hb
       have d0 := r2.cells.1
       have df := r2.cells.2.2.2 0
       have R2 := Lib.hid r2
       clear r2))
  go_ret
  exact ⟨rfl, R2.out.set0 _, (gb_below hb).trans (gb_set _ _ _ _)⟩
end Go.Proofs.Fr
