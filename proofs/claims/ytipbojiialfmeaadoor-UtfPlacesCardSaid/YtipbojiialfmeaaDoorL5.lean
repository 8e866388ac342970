/- The walk of the law UtfPlaces: it returns true. -/
import Derived.Test.YtipbojiialfmeaaDoorL4
namespace Go.Proofs.YtipbojiialfmeaaDoor
open Go.RowKit Go.Proofs.Utf Go.Lib

set_option maxHeartbeats 2000000 in
set_option maxRecDepth 100000 in
theorem law_places (s : ByteArray) (a n : Int) (w : World) (hs : s.size ≤ 140737488355328) (ha0 : 0 ≤ a) (ha1 : a ≤ 65535) (hn0 : 0 ≤ n) (hn1 : n ≤ 65535) (hT : Tabs w) :
    Calls Tryd.prog 5 #[.string s, .int .u16 a, .int .u16 n] w fun e w' => e = .returned (.bool true) ∧ Below w.heap.size w w' := by
  refine ok_start hT fun h0 => ?_
  have c14 := fun w => long_any s w (by omega)
  by_cases hl : 5000 < s.size
  · rw [decide_eq_true hl] at c14
    go_enter Tryd.func5, Tryd.ntmps5
    go_wp2_with (first
      | (go_at_call 14; refine (c14 _).mono ?_; rintro e w' ⟨rfl, rfl⟩)
      | (go_at_call 13; refine (works_any (by assumption)).mono ?_; rintro e w3 ⟨rfl, hw3⟩))
    go_ret
    exact ⟨rfl, by assumption⟩
  rw [decide_eq_false hl] at c14
  have hw : Wide (pieces s.data.toList) := wide_pieces _ _ (Nat.le_refl _)
  have hwid := widthP_pieces _ s.data.toList (Nat.le_refl _)
  have hule := unitsP_le _ s.data.toList (Nat.le_refl _)
  rw [← Lib.size_eq] at hwid hule
  have c15 : ∀ w, Tabs w → _ := fun w _ => utfUnits_any s w (by omega)
  obtain ⟨UA, hUA⟩ : ∃ UA : Int → Nat, ∀ a : Nat, UA a = U (pieces s.data.toList) a := ⟨fun a => U (pieces s.data.toList) a.toNat, fun a => by simp⟩
  obtain ⟨BY, hBY⟩ : ∃ BY : Int → Nat, ∀ a : Nat, BY a = B (pieces s.data.toList) a := ⟨fun a => B (pieces s.data.toList) a.toNat, fun a => by simp⟩
  have c19 : ∀ (a : Int), 0 ≤ a → ∀ w, Tabs w → Calls Tryd.prog 19 #[.string s, .int .i64 a] w fun e w' => e = .returned (.int .i64 (UA a)) ∧ Below w.heap.size w w' := fun a h w _ => by
    have := utfUnitsAt_any s a w (by omega)
    obtain ⟨m, rfl⟩ := Int.eq_ofNat_of_zero_le h
    rw [ua_same _ _ hw, ua_U _ 0 m hw (Nat.zero_le _), Nat.sub_zero, ← hUA] at this
    exact this
  have c17 : ∀ (a : Int), 0 ≤ a → ∀ w, Tabs w → Calls Tryd.prog 17 #[.string s, .int .i64 a] w fun e w' => e = .returned (.int .i64 (BY a)) ∧ Below w.heap.size w w' := fun a h w _ => by
    have := utfByte_any s a w (by omega)
    obtain ⟨m, rfl⟩ := Int.eq_ofNat_of_zero_le h
    rw [byte_B _ 0 0 m (Nat.zero_le _), Nat.sub_zero, Nat.zero_add, ← hBY] at this
    exact this
  have f1 : UA (s.size : Nat) = unitsP (pieces s.data.toList) := by rw [hUA, ← hwid, U_all]
  have f2 : BY (unitsP (pieces s.data.toList) : Nat) = s.size := by rw [hBY, B_all, hwid]
  have f3 : ∀ p : Nat, p ≤ s.size → BY (UA p : Nat) ≤ p ∧ p ≤ BY (UA p : Nat) + 3 := fun p hp => by
    rw [hBY, hUA]; exact BU_le _ p hw (by omega)
  have f4 : ∀ u : Nat, u ≤ unitsP (pieces s.data.toList) → UA (BY u : Nat) ≤ u ∧ u ≤ UA (BY u : Nat) + 1 := fun u hu => by
    rw [hUA, hBY]; exact UB_le _ u hw hu
  have f5 : ∀ p : Nat, BY (UA (BY (UA p : Nat) : Nat) : Nat) = BY (UA p : Nat) := fun p => by
    rw [hBY (UA _), hUA (BY _), hBY (UA _), hUA p, UBU _ _ hw]
  have f6 : ∀ p : Nat, UA p ≤ UA ((p : Int) + 1) := fun p => by
    rw [show ((p : Int) + 1) = ((p + 1 : Nat) : Int) from by omega, hUA, hUA]; exact U_mono _ p hw
  have f7 : ∀ p : Nat, BY p ≤ BY ((p : Int) + 1) := fun p => by
    rw [show ((p : Int) + 1) = ((p + 1 : Nat) : Int) from by omega, hBY, hBY]; exact B_mono _ p
  clear hUA hBY hw hwid
  generalize unitsP (pieces s.data.toList) = X at *
  obtain ⟨p, hp⟩ : ∃ p : Nat, (p : Int) = a % ((s.size : Int) + 1) := ⟨(a % ((s.size : Int) + 1)).toNat, Int.toNat_of_nonneg (Int.emod_nonneg _ (by omega))⟩
  obtain ⟨u, hu⟩ : ∃ u : Nat, (u : Int) = n % ((X : Int) + 1) := ⟨(n % ((X : Int) + 1)).toNat, Int.toNat_of_nonneg (Int.emod_nonneg _ (by omega))⟩
  have hp1 : p ≤ s.size := by have := Int.emod_lt_of_pos a (show (0 : Int) < (s.size : Int) + 1 by omega); omega
  have hu1 : u ≤ X := by have := Int.emod_lt_of_pos n (show (0 : Int) < (X : Int) + 1 by omega); omega
  have g3 := f3 p hp1
  have g4 := f4 u hu1
  have g5 := f5 p
  have g6 := f6 p
  have g7 := f7 u
  clear f3 f4 f5 f6 f7
  have hp' := hp.symm
  have hu' := hu.symm
  clear hp hu
  have hw1 : IntKind.i64.wrap ((s.size : Int) + 1) = (s.size : Int) + 1 := IntWalk.i64_in _ (by omega)
  have hw2 : IntKind.i64.wrap a = a := IntWalk.i64_in _ (by omega)
  have htm : a.tmod ((s.size : Int) + 1) = (p : Int) := by rw [Int.tmod_eq_emod_of_nonneg ha0]; exact hp'
  have hne : ((s.size : Int) + 1 == 0) = false := by rw [beq_eq_false_iff_ne]; omega
  have hne2 : ¬ ((s.size : Int) + 1 = 0) := by omega
  have hw3 : IntKind.i64.wrap (p : Int) = (p : Int) := IntWalk.i64_in _ (by omega)
  go_enter Tryd.func5, Tryd.ntmps5
  go_wp2_with (first
    | (go_at_call 14; refine (c14 _).mono ?_; rintro e w' ⟨rfl, hx⟩; obtain rfl := hx.symm))
  go_region_held3 (fun w' => Ok w w') (first | assumption | exact ⟨Below.drew (Below.refl _ _), hT⟩) (first | (go_at_call 15; refine (ok_of c15 (by assumption)).mono ?_; rintro e w15 ⟨rfl, hw15⟩))
  clear hw1 hw2 hw3 htm hne hne2 hp'
  by_cases hlt : p < s.size
  · go_wp2_with (first
      | (go_at_call 19; refine (ok_of (c19 _ (by omega)) (by assumption)).mono ?_; rintro e w19 ⟨rfl, hw19⟩)
      | (go_at_call 17; refine (ok_of (c17 _ (by omega)) (by assumption)).mono ?_; rintro e w17 ⟨rfl, hw17⟩)
      | (go_at_call 13; refine (works_any (by assumption)).mono ?_; rintro e w3 ⟨rfl, hw3⟩))
    go_ret
    exact ⟨rfl, by assumption⟩
  · go_wp2_with (first
      | (go_at_call 19; refine (ok_of (c19 _ (by omega)) (by assumption)).mono ?_; rintro e w19 ⟨rfl, hw19⟩)
      | (go_at_call 17; refine (ok_of (c17 _ (by omega)) (by assumption)).mono ?_; rintro e w17 ⟨rfl, hw17⟩)
      | (go_at_call 13; refine (works_any (by assumption)).mono ?_; rintro e w3 ⟨rfl, hw3⟩))
    go_ret
    exact ⟨rfl, by assumption⟩
end Go.Proofs.YtipbojiialfmeaaDoor
