/- Snapshots that are none: what each call answers. -/
import Derived.Test.YtcenfckjkboabaaGreatDoorS15
namespace Go.Proofs.Dc
open Go.RowKit Go.Proofs Go.Lib Go.Maps

def NoneS (w : World) (p : Option Addr) : Prop := p = none ∨ ∃ b, p = some ⟨b, 0, none⟩ ∧ w.heap[b]? = some (.cells #[.map none, .int .i64 0] 72 (0, 0))
theorem NoneS.below {w w' : World} {p : Option Addr} (h : NoneS w p) (hb : Below w.heap.size w w') : NoneS w' p := by
  rcases h with rfl | ⟨b, rfl, h⟩
  · exact .inl rfl
  · exact .inr ⟨b, rfl, (hb.block b (Array.getElem?_eq_some_iff.1 h).1).trans h⟩
set_option maxRecDepth 100000 in
theorem nis_any (w : World) (p : Option Addr) (h : NoneS w p) : Calls Tryz.prog 66 #[.pointer p] w fun e w' => e = .returned (.bool false) ∧ w = w' := by
  have hr := run_neq_map70 none
  rcases h with rfl | ⟨b, rfl, h⟩
  · go_enter Tryz.func66, Tryz.ntmps66
    go_wp2
    go_ret
    exact ⟨rfl, rfl⟩
  · have c0 : w.cell? ⟨b, 0, none⟩ = some (.map none) := by simp [World.cell?, h]
    clear h
    go_enter Tryz.func66, Tryz.ntmps66
    go_wp2
    go_ret
    exact ⟨rfl, rfl⟩
set_option maxRecDepth 100000 in
theorem nnext_any (w : World) (p : Option Addr) (h : NoneS w p) (x y : Value) : Calls Tryz.prog 77 #[.pointer p, x, y] w fun e w' => e = .returned (.int .i64 1) ∧ Below w.heap.size w w' := by
  have hi := nis_any w p h
  clear h
  go_enter Tryz.func77, Tryz.ntmps77
  go_wp2_with (first | (go_at_call 66; refine hi.mono ?_; rintro e w1 ⟨rfl, hw⟩; subst w1))
  go_ret
  exact ⟨rfl, Below.refl _ _⟩
set_option maxRecDepth 100000 in
theorem nopen_any (w : World) (p : Option Addr) (h : NoneS w p) (u t : ByteArray) (v : Int) : Calls Tryz.prog 33 #[.pointer p, .string u, .string t, .int .i64 v] w fun e w' => e = .returned (.int .i64 1) ∧ Below w.heap.size w w' := by
  have b2 : Below w.heap.size w ((w.alloc (.cells #[.string t] 9)).alloc (.cells #[.int .i64 v] 2)) := ((Below.refl _ _).alloc (Nat.le_refl _) _).alloc (by simp) _
  have hn := nnext_any _ p (h.below b2)
  have HB := Lib.hid b2
  clear h b2
  go_enter Tryz.func33, Tryz.ntmps33
  go_wp2_with (first | (go_at_call 77; refine (hn _ _).mono ?_; rintro e w1 ⟨rfl, h1⟩))
  go_ret
  exact ⟨rfl, HB.out.trans (h1.mono HB.out.size)⟩
set_option maxRecDepth 100000 in
theorem nchange_any (w : World) (p : Option Addr) (h : NoneS w p) (u : ByteArray) (v : Int) (a : Option Addr) (n c : Nat) : Calls Tryz.prog 36 #[.pointer p, .string u, .int .i64 v, .slice a n c] w fun e w' => e = .returned (.int .i64 1) ∧ Below w.heap.size w w' := by
  have b2 : Below w.heap.size w ((w.alloc (.cells #[.int .i64 v] 2)).alloc (.cells #[.slice a n c] 33)) := ((Below.refl _ _).alloc (Nat.le_refl _) _).alloc (by simp) _
  have hn := nnext_any _ p (h.below b2)
  have HB := Lib.hid b2
  clear h b2
  go_enter Tryz.func36, Tryz.ntmps36
  go_wp2_with (first | (go_at_call 77; refine (hn _ _).mono ?_; rintro e w1 ⟨rfl, h1⟩))
  go_ret
  exact ⟨rfl, HB.out.trans (h1.mono HB.out.size)⟩
set_option maxRecDepth 100000 in
theorem nclose_any (w : World) (p : Option Addr) (h : NoneS w p) (u : ByteArray) : Calls Tryz.prog 38 #[.pointer p, .string u] w fun e w' => e = .returned (.int .i64 1) ∧ Below w.heap.size w w' := by
  have hn := nnext_any _ p h
  clear h
  go_enter Tryz.func38, Tryz.ntmps38
  go_wp2_with (first | (go_at_call 77; refine (hn _ _).mono ?_; rintro e w1 ⟨rfl, h1⟩))
  go_ret
  exact ⟨rfl, h1⟩
set_option maxRecDepth 100000 in
theorem nfree_any (w : World) (p : Option Addr) (h : NoneS w p) (i : Int) : Calls Tryz.prog 31 #[.pointer p, .int .i64 i] w fun e w' => e = .returned (.int .i64 1) ∧ w = w' := by
  have hi := nis_any w p h
  clear h
  go_enter Tryz.func31, Tryz.ntmps31
  go_wp2_with (first | (go_at_call 66; refine hi.mono ?_; rintro e w1 ⟨rfl, hw⟩; subst w1))
  go_ret
  exact ⟨rfl, rfl⟩
set_option maxRecDepth 100000 in
theorem nhold_any (w : World) (p : Option Addr) (h : NoneS w p) : Calls Tryz.prog 22 #[.pointer p] w fun e w' => e = .returned (.int .i64 0) ∧ w = w' := by
  have hi := nis_any w p h
  clear h
  go_enter Tryz.func22, Tryz.ntmps22
  go_wp2_with (first | (go_at_call 66; refine hi.mono ?_; rintro e w1 ⟨rfl, hw⟩; subst w1))
  go_ret
  exact ⟨rfl, rfl⟩
set_option maxRecDepth 100000 in
theorem nkept_any (w : World) (p : Option Addr) (h : NoneS w p) : Calls Tryz.prog 29 #[.pointer p] w fun e w' => e = .returned (.int .i64 0) ∧ w = w' := by
  have hi := nis_any w p h
  clear h
  go_enter Tryz.func29, Tryz.ntmps29
  go_wp2_with (first | (go_at_call 66; refine hi.mono ?_; rintro e w1 ⟨rfl, hw⟩; subst w1))
  go_ret
  exact ⟨rfl, rfl⟩
set_option maxRecDepth 100000 in
theorem nnow_any (w : World) (p : Option Addr) (h : NoneS w p) : Calls Tryz.prog 24 #[.pointer p] w fun e w' => e = .returned (.int .i64 0) ∧ w = w' := by
  have hi := nis_any w p h
  clear h
  go_enter Tryz.func24, Tryz.ntmps24
  go_wp2_with (first | (go_at_call 66; refine hi.mono ?_; rintro e w1 ⟨rfl, hw⟩; subst w1))
  go_ret
  exact ⟨rfl, rfl⟩
set_option maxRecDepth 100000 in
theorem nof_any (w : World) (p : Option Addr) (h : NoneS w p) (i : Int) : Calls Tryz.prog 23 #[.pointer p, .int .i64 i] w fun e w' => e = .returned (.tuple #[.slice none 0 0, .bool false]) ∧ w = w' := by
  have hi := nis_any w p h
  clear h
  go_enter Tryz.func23, Tryz.ntmps23
  go_wp2_with (first | (go_at_call 66; refine hi.mono ?_; rintro e w1 ⟨rfl, hw⟩; subst w1))
  go_ret2
  exact ⟨rfl, rfl⟩
set_option maxRecDepth 100000 in
theorem nnone_any (w : World) (p : Option Addr) (h : NoneS w p) (i : Int) : Calls Tryz.prog 32 #[.pointer p, .int .i64 i] w fun e w' => e = .returned (.bool true) ∧ w = w' := by
  have ho := nof_any w p h i
  clear h
  go_enter Tryz.func32, Tryz.ntmps32
  go_wp2_with (first | (go_at_call 23; refine ho.mono ?_; rintro e w1 ⟨rfl, hw⟩; subst w1))
  go_ret
  exact ⟨rfl, rfl⟩
end Go.Proofs.Dc
