/- The walks of the laws UtfUnits, UtfDecodes, UtfJoins, UtfBack, UtfPlaces: they return true. -/
import Derived.Test.YtipbojiialfmeaaDoorL1
import Derived.Test.YtipbojiialfmeaaDoorR3
import Derived.Test.YtipbojiialfmeaaDoorPlain3
namespace Go.Proofs.YtipbojiialfmeaaDoor
open Go.RowKit Go.Proofs.Utf Go.Lib

theorem ok_start {f : FuncId} {args : Array Value} {w : World} (hT : Tabs w) (h : Ok w w → Calls Tryd.prog f args w fun e w' => e = .returned (.bool true) ∧ Ok w w') :
    Calls Tryd.prog f args w fun e w' => e = .returned (.bool true) ∧ Below w.heap.size w w' := (h (Ok.start hT)).mono fun _ _ ⟨he, hb⟩ => ⟨he, hb.1⟩

set_option maxHeartbeats 400000 in
theorem law_units (s : ByteArray) (want a : Int) (w : World) (hs : s.size ≤ 140737488355328) (hT : Tabs w) :
    Calls Tryd.prog 4 #[.string s, .int .i64 want, .int .i64 a] w fun e w' => e = .returned (.bool true) ∧ Below w.heap.size w w' := by
  refine ok_start hT fun h0 => ?_
  have c14 := fun w => long_any s w (by omega)
  by_cases hl : 5000 < s.size
  · rw [decide_eq_true hl] at c14
    go_enter Tryd.func4, Tryd.ntmps4
    go_wp2_with (first
      | (go_at_call 14; refine (c14 _).mono ?_; rintro e w' ⟨rfl, rfl⟩)
      | (go_at_call 13; refine (works_any (by assumption)).mono ?_; rintro e w3 ⟨rfl, hw3⟩))
    go_ret
    exact ⟨rfl, by assumption⟩
  · rw [decide_eq_false hl] at c14
    have hw := wide_pieces _ s.data.toList (Nat.le_refl _)
    have c15 : ∀ w, Tabs w → _ := fun w _ => utfUnits_any s w (by omega)
    have c16 : ∀ w, Tabs w → _ := fun w _ => refUnits_any s w (by omega)
    rw [units_eq] at c16
    have c17 : ∀ w, Tabs w → _ := fun w _ => utfByte_any s want w (by omega)
    have c18 : ∀ w, Tabs w → Calls Tryd.prog 18 #[.string s, .int .i64 want] w fun e w' => e = .returned (.int .i64 (byteP (pieces s.data.toList) 0 0 want)) ∧ Below w.heap.size w w' := fun w _ => by
      by_cases hn : 0 ≤ want
      · have := refByte_any s want w (by omega) hn
        have e := byte_eq (pieces s.data.toList) 0 0 want hn
        rw [widthP_pieces _ _ (Nat.le_refl _), ← Lib.size_eq, Nat.zero_add] at e
        rw [e] at this
        exact this
      · rw [byte_neg _ want (by omega)]
        exact (refByte_neg s want w (by omega)).mono fun e w' ⟨he, hw'⟩ => ⟨he, by rw [hw']; exact Below.refl _ _⟩
    have c19 : ∀ w, Tabs w → _ := fun w _ => utfUnitsAt_any s a w (by omega)
    have c20 : ∀ w, Tabs w → _ := fun w _ => refUnitsAt_any s a w (by omega)
    rw [← ua_same _ a hw] at c20
    clear hw
    generalize unitsP (pieces s.data.toList) = x1 at *
    generalize byteP (pieces s.data.toList) 0 0 want = x2 at *
    generalize uaP (pieces s.data.toList) 0 0 0 a = x3 at *
    go_enter Tryd.func4, Tryd.ntmps4
    go_wp2_with (first
      | (go_at_call 14; refine (c14 _).mono ?_; rintro e w' ⟨rfl, rfl⟩)
      | (go_at_call 13; refine (works_any (by assumption)).mono ?_; rintro e w3 ⟨rfl, hw3⟩)
      | (go_at_call 15; refine (ok_of c15 (by assumption)).mono ?_; rintro e w15 ⟨rfl, hw15⟩)
      | (go_at_call 16; refine (ok_of c16 (by assumption)).mono ?_; rintro e w16 ⟨rfl, hw16⟩)
      | (go_at_call 17; refine (ok_of c17 (by assumption)).mono ?_; rintro e w17 ⟨rfl, hw17⟩)
      | (go_at_call 18; refine (ok_of c18 (by assumption)).mono ?_; rintro e w18 ⟨rfl, hw18⟩)
      | (go_at_call 19; refine (ok_of c19 (by assumption)).mono ?_; rintro e w19 ⟨rfl, hw19⟩)
      | (go_at_call 20; refine (ok_of c20 (by assumption)).mono ?_; rintro e w20 ⟨rfl, hw20⟩))
    go_ret
    exact ⟨rfl, by assumption⟩
set_option maxHeartbeats 400000 in
theorem law_decodes (s : ByteArray) (a : Int) (w : World) (hs : s.size ≤ 140737488355328) (hT : Tabs w) :
    Calls Tryd.prog 6 #[.string s, .int .i64 a] w fun e w' => e = .returned (.bool true) ∧ Below w.heap.size w w' := by
  refine ok_start hT fun h0 => ?_
  have c14 := fun w => long_any s w (by omega)
  by_cases hl : 5000 < s.size
  · rw [decide_eq_true hl] at c14
    go_enter Tryd.func6, Tryd.ntmps6
    go_wp2_with (first
      | (go_at_call 14; refine (c14 _).mono ?_; rintro e w' ⟨rfl, rfl⟩)
      | (go_at_call 13; refine (works_any (by assumption)).mono ?_; rintro e w3 ⟨rfl, hw3⟩))
    go_ret
    exact ⟨rfl, by assumption⟩
  · rw [decide_eq_false hl] at c14
    have c23 : ∀ w, Tabs w → _ := fun w hT => utfValid_any s w (by omega) hT
    have c24 : ∀ w, Tabs w → _ := fun w _ => refValid_any s w (by omega)
    rw [valid_eq _ _ 0 (Nat.le_refl _)] at c24
    have hc : ∃ x y : Int, (∀ w, Tabs w → Calls Tryd.prog 21 #[.string s, .int .i64 a] w fun e w' => e = .returned (.tuple #[.int .i64 x, .int .i64 y]) ∧ Below w.heap.size w w') ∧
        (∀ w, Tabs w → Calls Tryd.prog 22 #[.string s, .int .i64 a] w fun e w' => e = .returned (.tuple #[.int .i64 x, .int .i64 y]) ∧ Below w.heap.size w w') := by
      by_cases hin : 0 ≤ a ∧ a < s.size
      · obtain ⟨n, rfl⟩ := Int.eq_ofNat_of_zero_le hin.1
        exact ⟨_, _, fun w hT => utfDecode_in s n w hs (by omega) hT, fun w _ => refDecode_in s n w hs (by omega)⟩
      · refine ⟨-1, 0, fun w _ => ?_, fun w _ => ?_⟩
        · exact (utfDecode_out s a w hs (by omega)).mono fun e w' ⟨he, hw'⟩ => ⟨he, by rw [hw']; exact Below.refl _ _⟩
        · exact (refDecode_out s a w hs (by omega)).mono fun e w' ⟨he, hw'⟩ => ⟨he, by rw [hw']; exact Below.refl _ _⟩
    obtain ⟨x, y, c21, c22⟩ := hc
    generalize validD s.data.toList = V at *
    go_enter Tryd.func6, Tryd.ntmps6
    go_wp2_with (first
      | (go_at_call 14; refine (c14 _).mono ?_; rintro e w' ⟨rfl, rfl⟩)
      | (go_at_call 13; refine (works_any (by assumption)).mono ?_; rintro e w3 ⟨rfl, hw3⟩)
      | (go_at_call 21; refine (ok_of c21 (by assumption)).mono ?_; rintro e w15 ⟨rfl, hw15⟩)
      | (go_at_call 22; refine (ok_of c22 (by assumption)).mono ?_; rintro e w16 ⟨rfl, hw16⟩)
      | (go_at_call 23; refine (ok_of c23 (by assumption)).mono ?_; rintro e w17 ⟨rfl, hw17⟩)
      | (go_at_call 24; refine (ok_of c24 (by assumption)).mono ?_; rintro e w18 ⟨rfl, hw18⟩))
    go_ret
    exact ⟨rfl, by assumption⟩
end Go.Proofs.YtipbojiialfmeaaDoor
