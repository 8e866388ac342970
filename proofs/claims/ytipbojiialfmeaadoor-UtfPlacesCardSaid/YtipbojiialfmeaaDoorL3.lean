/- The walks of the laws UtfJoins, UtfBack, UtfPlaces: they return true. -/
import Derived.Test.YtipbojiialfmeaaDoorL2
namespace Go.Proofs.YtipbojiialfmeaaDoor
open Go.RowKit Go.Proofs.Utf Go.Lib

theorem app_list (a b : ByteArray) : (a ++ b).data.toList = a.data.toList ++ b.data.toList := by simp
theorem app_size (a b : ByteArray) : (a ++ b).size = a.size + b.size := by simp
set_option maxHeartbeats 1000000 in
theorem law_joins (a b : ByteArray) (w : World) (ha : a.size ≤ 140737488355328) (hb : b.size ≤ 140737488355328) (hT : Tabs w) :
    Calls Tryd.prog 7 #[.string a, .string b] w fun e w' => e = .returned (.bool true) ∧ Below w.heap.size w w' := by
  refine ok_start hT fun h0 => ?_
  have c14a := fun w => long_any a w (by omega)
  have c14b := fun w => long_any b w (by omega)
  by_cases hla : 5000 < a.size
  · rw [decide_eq_true hla] at c14a
    go_enter Tryd.func7, Tryd.ntmps7
    go_wp2_with (first
      | (go_at_call_of 14 a; refine (c14a _).mono ?_; rintro e w' ⟨rfl, rfl⟩)
      | (go_at_call 13; refine (works_any (by assumption)).mono ?_; rintro e w3 ⟨rfl, hw3⟩))
    go_ret
    exact ⟨rfl, by assumption⟩
  by_cases hlb : 5000 < b.size
  · rw [decide_eq_true hlb] at c14b
    rw [decide_eq_false hla] at c14a
    go_enter Tryd.func7, Tryd.ntmps7
    go_wp2_with (first
      | (go_at_call_of 14 a; refine (c14a _).mono ?_; rintro e w' ⟨rfl, rfl⟩)
      | (go_at_call_of 14 b; refine (c14b _).mono ?_; rintro e w' ⟨rfl, rfl⟩)
      | (go_at_call 13; refine (works_any (by assumption)).mono ?_; rintro e w3 ⟨rfl, hw3⟩))
    go_ret
    exact ⟨rfl, by assumption⟩
  rw [decide_eq_false hlb] at c14b
  rw [decide_eq_false hla] at c14a
  have c23a : ∀ w, Tabs w → _ := fun w hT => utfValid_any a w (by omega) hT
  cases hv : validD a.data.toList with
  | false =>
    rw [hv] at c23a
    clear hv
    go_enter Tryd.func7, Tryd.ntmps7
    go_wp2_with (first
      | (go_at_call_of 14 a; refine (c14a _).mono ?_; rintro e w' ⟨rfl, rfl⟩)
      | (go_at_call_of 14 b; refine (c14b _).mono ?_; rintro e w' ⟨rfl, rfl⟩)
      | (go_at_call 23; refine (ok_of c23a (by assumption)).mono ?_; rintro e w17 ⟨rfl, hw17⟩)
      | (go_at_call 13; refine (works_any (by assumption)).mono ?_; rintro e w3 ⟨rfl, hw3⟩))
    go_ret
    exact ⟨rfl, by assumption⟩
  | true =>
    have hpa := pieces_append _ a.data.toList b.data.toList (Nat.le_refl _) hv
    have hva := valid_append _ a.data.toList b.data.toList (Nat.le_refl _) hv
    have hla2 := widthP_pieces _ a.data.toList (Nat.le_refl _)
    have hua := unitsP_le _ a.data.toList (Nat.le_refl _)
    have hub := unitsP_le _ b.data.toList (Nat.le_refl _)
    rw [← Lib.size_eq] at hla2 hua hub
    have hw : Wide (pieces (a ++ b).data.toList) := wide_pieces _ _ (Nat.le_refl _)
    have hwb : Wide (pieces b.data.toList) := wide_pieces _ _ (Nat.le_refl _)
    rw [hv] at c23a
    have c23ab : ∀ w, Tabs w → _ := fun w hT => utfValid_any (a ++ b) w (by rw [app_size]; omega) hT
    rw [app_list, hva] at c23ab
    have c23b : ∀ w, Tabs w → _ := fun w hT => utfValid_any b w (by omega) hT
    have c15a : ∀ w, Tabs w → _ := fun w _ => utfUnits_any a w (by omega)
    have c15b : ∀ w, Tabs w → _ := fun w _ => utfUnits_any b w (by omega)
    have c15ab : ∀ w, Tabs w → Calls Tryd.prog 15 #[.string (a ++ b)] w fun e w' => e = .returned (.int .i64 ((unitsP (pieces a.data.toList) : Int) + (unitsP (pieces b.data.toList) : Int))) ∧ Below w.heap.size w w' := fun w _ => by
      have := utfUnits_any (a ++ b) w (by rw [app_size]; omega)
      rw [app_list, hpa, unitsP_append] at this
      exact this
    have c19 : ∀ w, Tabs w → Calls Tryd.prog 19 #[.string (a ++ b), .int .i64 a.size] w fun e w' => e = .returned (.int .i64 (unitsP (pieces a.data.toList))) ∧ Below w.heap.size w w' := fun w _ => by
      have := utfUnitsAt_any (a ++ b) a.size w (by rw [app_size]; omega)
      rw [ua_same _ _ hw, ua_U _ 0 a.size hw (Nat.zero_le _), app_list, hpa, Nat.sub_zero] at this
      have e := U_append (pieces a.data.toList) (pieces b.data.toList) 0
      rw [U_zero _ hwb, hla2, Nat.add_zero, Nat.add_zero] at e
      rw [e] at this
      exact this
    have c17 : ∀ w, Tabs w → Calls Tryd.prog 17 #[.string (a ++ b), .int .i64 (unitsP (pieces a.data.toList) : Nat)] w fun e w' => e = .returned (.int .i64 a.size) ∧ Below w.heap.size w w' := fun w _ => by
      have := utfByte_any (a ++ b) (unitsP (pieces a.data.toList) : Nat) w (by rw [app_size]; omega)
      rw [byte_B _ 0 0 _ (Nat.zero_le _), app_list, hpa, Nat.sub_zero, Nat.zero_add] at this
      have e := B_append (pieces a.data.toList) (pieces b.data.toList) 0
      rw [B_zero, hla2, Nat.add_zero, Nat.add_zero] at e
      rw [e] at this
      exact this
    clear hpa hva hv hw hwb hla2
    generalize unitsP (pieces a.data.toList) = x1 at *
    generalize unitsP (pieces b.data.toList) = x2 at *
    generalize validD b.data.toList = V at *
    go_enter Tryd.func7, Tryd.ntmps7
    go_wp2_with (first
      | (go_at_call_of 14 a; refine (c14a _).mono ?_; rintro e w' ⟨rfl, rfl⟩)
      | (go_at_call_of 14 b; refine (c14b _).mono ?_; rintro e w' ⟨rfl, rfl⟩)
      | (go_at_call_of 23 (a ++ b); refine (ok_of c23ab (by assumption)).mono ?_; rintro e w17 ⟨rfl, hw17⟩)
      | (go_at_call_of 23 a; refine (ok_of c23a (by assumption)).mono ?_; rintro e w17 ⟨rfl, hw17⟩)
      | (go_at_call_of 23 b; refine (ok_of c23b (by assumption)).mono ?_; rintro e w17 ⟨rfl, hw17⟩)
      | (go_at_call_of 15 (a ++ b); refine (ok_of c15ab (by assumption)).mono ?_; rintro e w15 ⟨rfl, hw15⟩)
      | (go_at_call_of 15 a; refine (ok_of c15a (by assumption)).mono ?_; rintro e w15 ⟨rfl, hw15⟩)
      | (go_at_call_of 15 b; refine (ok_of c15b (by assumption)).mono ?_; rintro e w15 ⟨rfl, hw15⟩)
      | (go_at_call 19; refine (ok_of c19 (by assumption)).mono ?_; rintro e w19 ⟨rfl, hw19⟩)
      | (go_at_call 17; refine (ok_of c17 (by assumption)).mono ?_; rintro e w18 ⟨rfl, hw18⟩)
      | (go_at_call 13; refine (works_any (by assumption)).mono ?_; rintro e w3 ⟨rfl, hw3⟩))
    go_ret
    exact ⟨rfl, by assumption⟩
end Go.Proofs.YtipbojiialfmeaaDoor
