/- The walk of the reference's escape, whole. Printed by gen_r8e.py. -/
import Derived.Test.YtphiceebhncflaaDoorR7
namespace Go.Proofs.Jt
open Go.RowKit Go.Proofs Go.Lib Go.Proofs.Utf

theorem unit_65535 (l : List UInt8) : unitL l ≤ 65535 := by
  match l with
  | u :: a :: b :: c :: d :: t =>
    rw [unitL_cons]
    have h1 := hexV_le a
    have h2 := hexV_le b
    have h3 := hexV_le c
    have h4 := hexV_le d
    split <;> omega
  | [] => decide
  | [_] => exact (by decide : (-1 : Int) ≤ 65535)
  | [_, _] => exact (by decide : (-1 : Int) ≤ 65535)
  | [_, _, _] => exact (by decide : (-1 : Int) ≤ 65535)
  | [_, _, _, _] => exact (by decide : (-1 : Int) ≤ 65535)
theorem unit_five (l : List UInt8) (h : 0 ≤ unitL l) : 4 < l.length := by
  obtain ⟨b, hb, _⟩ := unit_ascii h 4 (by omega)
  exact (List.getElem?_eq_some_iff.1 hb).1
theorem escR_else (l : List UInt8) (h : l[0]?.bind simple = none) : escR l = if unitL l < 0 then (0, 0)
    else if unitL l < 55296 ∨ 57343 < unitL l then (unitL l, 5)
    else if unitL l < 56320 ∧ l[5]? = some 92 ∧ 56320 ≤ unitL (l.drop 6) ∧ unitL (l.drop 6) ≤ 57343 then ((unitL l - 55296) * 1024 + unitL (l.drop 6) - 56320 + 65536, 11)
    else (0, 0) := by
  unfold escR
  rw [h]
set_option maxRecDepth 100000 in
set_option maxHeartbeats 2000000 in
theorem escape_any (s : ByteArray) (i : Nat) (w : World) (hs : s.size ≤ 16777216) (hi0 : i ≤ s.size) : Calls Tryd.prog 80 #[.string s, .int .i64 i] w fun e w' => e = .returned (escV s.data.toList i) ∧ Below w.heap.size w w' := by
  by_cases hi : i < s.size
  · cases hx : simple s[i] with
    | some x => exact (escape_simple s i w hs hi x hx).mono fun e w' h => ⟨h.1, h.2 ▸ Below.refl _ _⟩
    | none =>
      have hi' : (i : Int) < (s.size : Int) := by omega
      have hb : (s.data.toList.drop i)[0]?.bind simple = none := by rw [drop_cons s i hi]; exact hx
      have hR := escR_else _ hb
      rw [List.drop_drop, List.getElem?_drop] at hR
      have h92 : ∀ w, Calls Tryd.prog 81 #[.string s, .int .i64 ((i : Int) + 5), .int .u8 92] w fun e w' => e = .returned (.bool (isAt s.data.toList (i + 5) 92)) ∧ w = w' := fun w => (is_any s (i + 5) 92 w hs).mono fun _ _ h => ⟨h.1, h.2.symm⟩
      have ha := fun w => (hex_any s i w hs hi0).mono fun _ _ h => (⟨h.1, h.2.symm⟩ : _ ∧ w = _)
      have hbx : i + 6 ≤ s.size → ∀ w, Calls Tryd.prog 95 #[.string s, .int .i64 ((i : Int) + 6)] w fun e w' => e = .returned (.int .i64 (unitL (s.data.toList.drop (i + 6)))) ∧ w = w' := fun h w => (hex_any s (i + 6) w hs h).mono fun _ _ h => ⟨h.1, h.2.symm⟩
      have ha6 := unit_65535 (s.data.toList.drop i)
      have hb6 := unit_65535 (s.data.toList.drop (i + 6))
      have hl5 := unit_five (s.data.toList.drop i)
      have hl11 := unit_five (s.data.toList.drop (i + 6))
      rw [List.length_drop, ← Lib.size_eq] at hl5 hl11
      have t0 : ((s[i].toNat : Int) == 34) = false := byte_not (c := 34) fun h => by rw [h] at hx; exact absurd hx (by decide)
      have t1 : ((s[i].toNat : Int) == 92) = false := byte_not (c := 92) fun h => by rw [h] at hx; exact absurd hx (by decide)
      have t2 : ((s[i].toNat : Int) == 47) = false := byte_not (c := 47) fun h => by rw [h] at hx; exact absurd hx (by decide)
      have t3 : ((s[i].toNat : Int) == 98) = false := byte_not (c := 98) fun h => by rw [h] at hx; exact absurd hx (by decide)
      have t4 : ((s[i].toNat : Int) == 102) = false := byte_not (c := 102) fun h => by rw [h] at hx; exact absurd hx (by decide)
      have t5 : ((s[i].toNat : Int) == 110) = false := byte_not (c := 110) fun h => by rw [h] at hx; exact absurd hx (by decide)
      have t6 : ((s[i].toNat : Int) == 114) = false := byte_not (c := 114) fun h => by rw [h] at hx; exact absurd hx (by decide)
      have t7 : ((s[i].toNat : Int) == 116) = false := byte_not (c := 116) fun h => by rw [h] at hx; exact absurd hx (by decide)
      clear hx hb
      obtain ⟨a, haa⟩ : ∃ a, unitL (s.data.toList.drop i) = a := ⟨_, rfl⟩
      obtain ⟨b, hbb⟩ : ∃ b, unitL (s.data.toList.drop (i + 6)) = b := ⟨_, rfl⟩
      simp only [haa] at hR ha ha6 hl5
      simp only [hbb] at hR hbx hb6 hl11
      clear haa hbb
      by_cases a0 : a < 0
      · have he := escV_none (l := s.data.toList) (i := i) (by rw [hR, if_pos a0])
        rw [he]
        clear hR he hbx
        go_enter Tryd.func80, Tryd.ntmps80
        go_wp2_with (first
          | (go_at_call_of 95 (Value.int .i64 (i : Int)); refine (ha _).mono ?_; rintro e w1 ⟨rfl, rfl⟩)
          | (go_at_call 81; refine (h92 _).mono ?_; rintro e w1 ⟨rfl, rfl⟩)
          | (go_at_call 95; (with_reducible show Calls Tryd.prog 95 #[.string s, .int .i64 ((i : Int) + 6)] _ _); refine (hb2 _).mono ?_; rintro e w1 ⟨rfl, rfl⟩)
          | (go_at_call 96; refine (point_any _ _ hpt).mono ?_; rintro e w2 ⟨rfl, hb⟩))
        go_ret2
        exact ⟨rfl, Below.refl _ _⟩
      · have hl5' := hl5 (by omega)
        by_cases a1 : a < 55296 ∨ 57343 < a
        · have he := escV_some (l := s.data.toList) (i := i) (x := a) (m := 5) (by rw [hR, if_neg a0, if_pos a1]) (by decide)
          have hpt : IsPoint a := by unfold IsPoint; omega
          rw [he]
          clear hR he hbx
          rcases a1 with a1 | a1
          · have v1 : decide ((56320 : Int) ≤ a) = false := by simp; omega
            have v2 : decide (a < (55296 : Int)) = true := by simp; omega
            go_enter Tryd.func80, Tryd.ntmps80
            go_wp2_with (first
            | (go_at_call_of 95 (Value.int .i64 (i : Int)); refine (ha _).mono ?_; rintro e w1 ⟨rfl, rfl⟩)
            | (go_at_call 96; refine (point_any _ _ hpt).mono ?_; rintro e w2 ⟨rfl, hb⟩))
            go_ret2
            exact ⟨rfl, hb⟩
          · have v1 : decide ((56320 : Int) ≤ a) = true := by simp; omega
            have v2 : decide (a ≤ (57343 : Int)) = false := by simp; omega
            have v3 : decide (a < (55296 : Int)) = false := by simp; omega
            have v4 : decide ((57343 : Int) < a) = true := by simp; omega
            go_enter Tryd.func80, Tryd.ntmps80
            go_wp2_with (first
            | (go_at_call_of 95 (Value.int .i64 (i : Int)); refine (ha _).mono ?_; rintro e w1 ⟨rfl, rfl⟩)
            | (go_at_call 96; refine (point_any _ _ hpt).mono ?_; rintro e w2 ⟨rfl, hb⟩))
            go_ret2
            exact ⟨rfl, hb⟩
        · have v0 : decide (a < (55296 : Int)) = false := by simp; omega
          have v4 : decide ((57343 : Int) < a) = false := by simp; omega
          have v2 : decide (a ≤ (57343 : Int)) = true := by simp; omega
          rw [if_neg a0, if_neg a1] at hR
          by_cases a2 : a < 56320
          · have v1 : decide ((56320 : Int) ≤ a) = false := by simp; omega
            cases e5 : isAt s.data.toList (i + 5) 92 with
            | false =>
              have he := escV_none (l := s.data.toList) (i := i) (by rw [hR, if_neg]; rintro ⟨_, h, _⟩; exact of_decide_eq_false e5 h)
              rw [he]
              clear hR he hbx
              go_enter Tryd.func80, Tryd.ntmps80
              go_wp2_with (first
                | (go_at_call_of 95 (Value.int .i64 (i : Int)); refine (ha _).mono ?_; rintro e w1 ⟨rfl, rfl⟩)
                | (go_at_call 81; refine (h92 _).mono ?_; rintro e w1 ⟨rfl, rfl⟩))
              go_ret2
              exact ⟨rfl, Below.refl _ _⟩
            | true =>
              have hlt5 : i + 5 < s.size := by rw [Lib.size_eq]; exact isAt_lt e5
              have hb2 := hbx (by omega)
              have e5' : s.data.toList[i + 5]? = some 92 := of_decide_eq_true e5
              clear hbx
              by_cases b0 : b < 56320
              · have he := escV_none (l := s.data.toList) (i := i) (by rw [hR, if_neg]; rintro ⟨_, _, h, _⟩; omega)
                have x1 : decide (b < (56320 : Int)) = true := by simp; omega
                rw [he]
                clear hR he e5'
                go_enter Tryd.func80, Tryd.ntmps80
                go_wp2_with (first
                  | (go_at_call 95; (with_reducible show Calls Tryd.prog 95 #[.string s, .int .i64 ((i : Int) + 6)] _ _); refine (hb2 _).mono ?_; rintro e w1 ⟨rfl, rfl⟩)
                  | (go_at_call 95; (with_reducible show Calls Tryd.prog 95 #[.string s, .int .i64 (i : Int)] _ _); refine (ha _).mono ?_; rintro e w1 ⟨rfl, rfl⟩)
                  | (go_at_call 81; refine (h92 _).mono ?_; rintro e w1 ⟨rfl, rfl⟩))
                go_ret2
                exact ⟨rfl, Below.refl _ _⟩
              · have x1 : decide (b < (56320 : Int)) = false := by simp; omega
                by_cases b1 : 57343 < b
                · have he := escV_none (l := s.data.toList) (i := i) (by rw [hR, if_neg]; rintro ⟨_, _, _, h⟩; omega)
                  have x2 : decide ((57343 : Int) < b) = true := by simp; omega
                  rw [he]
                  clear hR he e5'
                  go_enter Tryd.func80, Tryd.ntmps80
                  go_wp2_with (first
                    | (go_at_call 95; (with_reducible show Calls Tryd.prog 95 #[.string s, .int .i64 ((i : Int) + 6)] _ _); refine (hb2 _).mono ?_; rintro e w1 ⟨rfl, rfl⟩)
                    | (go_at_call 95; (with_reducible show Calls Tryd.prog 95 #[.string s, .int .i64 (i : Int)] _ _); refine (ha _).mono ?_; rintro e w1 ⟨rfl, rfl⟩)
                    | (go_at_call 81; refine (h92 _).mono ?_; rintro e w1 ⟨rfl, rfl⟩))
                  go_ret2
                  exact ⟨rfl, Below.refl _ _⟩
                · have he := escV_some (l := s.data.toList) (i := i) (x := (a - 55296) * 1024 + b - 56320 + 65536) (m := 11) (by rw [hR, if_pos ⟨a2, e5', by omega, by omega⟩]) (by decide)
                  have x2 : decide ((57343 : Int) < b) = false := by simp; omega
                  have hl := hl11 (by omega)
                  have hpe : (a - 55296) * 1024 + b - 56320 + 65536 = 65536 + 1024 * (a - 55296) + b - 56320 := by omega
                  rw [hpe] at he
                  have hpt : IsPoint (65536 + 1024 * (a - 55296) + b - 56320) := by unfold IsPoint; omega
                  rw [he]
                  clear hR he e5' hpe
                  go_enter Tryd.func80, Tryd.ntmps80
                  go_wp2_with (first
                    | (go_at_call 95; (with_reducible show Calls Tryd.prog 95 #[.string s, .int .i64 ((i : Int) + 6)] _ _); refine (hb2 _).mono ?_; rintro e w1 ⟨rfl, rfl⟩)
                    | (go_at_call 95; (with_reducible show Calls Tryd.prog 95 #[.string s, .int .i64 (i : Int)] _ _); refine (ha _).mono ?_; rintro e w1 ⟨rfl, rfl⟩)
                    | (go_at_call 81; refine (h92 _).mono ?_; rintro e w1 ⟨rfl, rfl⟩)
                    | (go_at_call 96; refine (point_any _ _ hpt).mono ?_; rintro e w2 ⟨rfl, hb⟩))
                  go_ret2
                  exact ⟨rfl, hb⟩
          · have v1 : decide ((56320 : Int) ≤ a) = true := by simp; omega
            have he := escV_none (l := s.data.toList) (i := i) (by rw [hR, if_neg]; rintro ⟨h, _⟩; exact a2 h)
            rw [he]
            clear hR he hbx
            go_enter Tryd.func80, Tryd.ntmps80
            go_wp2_with (first
              | (go_at_call_of 95 (Value.int .i64 (i : Int)); refine (ha _).mono ?_; rintro e w1 ⟨rfl, rfl⟩)
              | (go_at_call 81; refine (h92 _).mono ?_; rintro e w1 ⟨rfl, rfl⟩))
            go_ret2
            exact ⟨rfl, Below.refl _ _⟩
  · have hd : s.data.toList.drop i = [] := List.drop_eq_nil_of_le (by rw [← Lib.size_eq]; omega)
    have he : escV s.data.toList i = .tuple #[.string ⟨#[]⟩, .int .i64 0] := escV_none (by rw [hd]; rfl)
    have hi' : (s.size : Int) ≤ (i : Int) := by omega
    rw [he]
    clear hd he
    go_enter Tryd.func80, Tryd.ntmps80
    go_wp2
    go_ret2
    exact ⟨rfl, Below.refl _ _⟩
end Go.Proofs.Jt
