/- Merged texts: R7, R8, R9. -/
import Derived.Test.YtaiaiiepbpbmmaaGreatDoorRB
import Derived.Test.YtaiaiiepbpbmmaaGreatDoorJ11
/- R7: The walk of the reference's escape. Printed by gen_r7.py. -/
namespace Go.Proofs.Jt
open Go.RowKit Go.Proofs Go.Lib Go.Proofs.Utf

/-- what escape answers at a place -/
def escB (l : List UInt8) (i : Nat) : ByteArray := if (escR (l.drop i)).2 = 0 then ⟨#[]⟩ else ⟨(encodeRune (escR (l.drop i)).1).toArray⟩
def escE (l : List UInt8) (i : Nat) : Nat := if (escR (l.drop i)).2 = 0 then 0 else i + (escR (l.drop i)).2
def escV (l : List UInt8) (i : Nat) : Value := .tuple #[.string (escB l i), .int .i64 (escE l i : Nat)]
theorem escV_none {l : List UInt8} {i : Nat} (h : (escR (l.drop i)).2 = 0) : escV l i = .tuple #[.string ⟨#[]⟩, .int .i64 0] := by
  unfold escV escB escE; rw [if_pos h, if_pos h]; rfl
theorem escV_some {l : List UInt8} {i : Nat} {x : Int} {m : Nat} (h : escR (l.drop i) = (x, m)) (hm : m ≠ 0) : escV l i = .tuple #[.string ⟨(encodeRune x).toArray⟩, .int .i64 ((i + m : Nat) : Int)] := by
  unfold escV escB escE; rw [h, if_neg hm, if_neg hm]
theorem rdrop_cons (s : ByteArray) (i : Nat) (hi : i < s.size) : s.data.toList.drop i = s[i] :: s.data.toList.drop (i + 1) := by
  rw [List.drop_eq_getElem_cons (by rw [← Lib.size_eq]; exact hi)]
  rfl
theorem esc_spec (s : ByteArray) (i : Nat) (hi : i < s.size) (v x : Nat) (_h : s[i].toNat = v) (hs : simple s[i] = some x) : escR (s.data.toList.drop i) = ((x : Int), 1) := by
  rw [rdrop_cons s i hi, esc_simple _ _ x hs]
theorem rret_val {a b : Value} (h : a = b) : Ending.returned a = .returned b := by rw [h]
theorem enc_low (n : Nat) (h : n < 128) : encodeRune (n : Int) = [n.toUInt8] := by
  rw [enc1 _ ⟨by omega, by omega⟩]; rfl
set_option maxRecDepth 100000 in
set_option maxHeartbeats 2000000 in
theorem escape_simple (s : ByteArray) (i : Nat) (w : World) (hs : s.size ≤ 16777216) (hi : i < s.size) (x : Nat) (hx : simple s[i] = some x) : Calls Tryz.prog 251 #[.string s, .int .i64 i] w fun e w' => e = .returned (escV s.data.toList i) ∧ w' = w := by
  have hi' : (i : Int) < (s.size : Int) := by omega
  have hcut : s.extract i (i + 1) = ⟨#[s[i]]⟩ := by
    apply ByteArray.ext
    apply Array.toList_inj.1
    rw [Lib.extract_data, rdrop_cons s i hi]
    simp
  have he := escV_some (esc_spec s i hi s[i].toNat x rfl hx) (by decide)
  rw [he, enc_low x (simple_val _ _ hx)]
  clear he
  unfold simple at hx
  by_cases h : s[i] = 34
  · rw [if_pos h] at hx
    obtain rfl : x = 34 := (Option.some.inj hx).symm
    have t0 : ((s[i].toNat : Int) == 34) = true := by rw [h]; rfl
    have hcut2 : s.extract i (i + 1) = ⟨#[34]⟩ := by rw [hcut, h]
    clear h hx hcut
    go_enter Tryz.func251, Tryz.ntmps251
    go_wp2
    go_ret2
    exact ⟨rfl, rfl⟩
  rw [if_neg h] at hx
  by_cases h : s[i] = 92
  · rw [if_pos h] at hx
    obtain rfl : x = 92 := (Option.some.inj hx).symm
    have t0 : ((s[i].toNat : Int) == 34) = false := by rw [h]; rfl
    have t1 : ((s[i].toNat : Int) == 92) = true := by rw [h]; rfl
    have hcut2 : s.extract i (i + 1) = ⟨#[92]⟩ := by rw [hcut, h]
    clear h hx hcut
    go_enter Tryz.func251, Tryz.ntmps251
    go_wp2
    go_ret2
    exact ⟨rfl, rfl⟩
  rw [if_neg h] at hx
  by_cases h : s[i] = 47
  · rw [if_pos h] at hx
    obtain rfl : x = 47 := (Option.some.inj hx).symm
    have t0 : ((s[i].toNat : Int) == 34) = false := by rw [h]; rfl
    have t1 : ((s[i].toNat : Int) == 92) = false := by rw [h]; rfl
    have t2 : ((s[i].toNat : Int) == 47) = true := by rw [h]; rfl
    have hcut2 : s.extract i (i + 1) = ⟨#[47]⟩ := by rw [hcut, h]
    clear h hx hcut
    go_enter Tryz.func251, Tryz.ntmps251
    go_wp2
    go_ret2
    exact ⟨rfl, rfl⟩
  rw [if_neg h] at hx
  by_cases h : s[i] = 98
  · rw [if_pos h] at hx
    obtain rfl : x = 8 := (Option.some.inj hx).symm
    have t0 : ((s[i].toNat : Int) == 34) = false := by rw [h]; rfl
    have t1 : ((s[i].toNat : Int) == 92) = false := by rw [h]; rfl
    have t2 : ((s[i].toNat : Int) == 47) = false := by rw [h]; rfl
    have t3 : ((s[i].toNat : Int) == 98) = true := by rw [h]; rfl
    clear h hx hcut
    go_enter Tryz.func251, Tryz.ntmps251
    go_wp2
    go_ret2
    exact ⟨rfl, rfl⟩
  rw [if_neg h] at hx
  by_cases h : s[i] = 102
  · rw [if_pos h] at hx
    obtain rfl : x = 12 := (Option.some.inj hx).symm
    have t0 : ((s[i].toNat : Int) == 34) = false := by rw [h]; rfl
    have t1 : ((s[i].toNat : Int) == 92) = false := by rw [h]; rfl
    have t2 : ((s[i].toNat : Int) == 47) = false := by rw [h]; rfl
    have t3 : ((s[i].toNat : Int) == 98) = false := by rw [h]; rfl
    have t4 : ((s[i].toNat : Int) == 102) = true := by rw [h]; rfl
    clear h hx hcut
    go_enter Tryz.func251, Tryz.ntmps251
    go_wp2
    go_ret2
    exact ⟨rfl, rfl⟩
  rw [if_neg h] at hx
  by_cases h : s[i] = 110
  · rw [if_pos h] at hx
    obtain rfl : x = 10 := (Option.some.inj hx).symm
    have t0 : ((s[i].toNat : Int) == 34) = false := by rw [h]; rfl
    have t1 : ((s[i].toNat : Int) == 92) = false := by rw [h]; rfl
    have t2 : ((s[i].toNat : Int) == 47) = false := by rw [h]; rfl
    have t3 : ((s[i].toNat : Int) == 98) = false := by rw [h]; rfl
    have t4 : ((s[i].toNat : Int) == 102) = false := by rw [h]; rfl
    have t5 : ((s[i].toNat : Int) == 110) = true := by rw [h]; rfl
    clear h hx hcut
    go_enter Tryz.func251, Tryz.ntmps251
    go_wp2
    go_ret2
    exact ⟨rfl, rfl⟩
  rw [if_neg h] at hx
  by_cases h : s[i] = 114
  · rw [if_pos h] at hx
    obtain rfl : x = 13 := (Option.some.inj hx).symm
    have t0 : ((s[i].toNat : Int) == 34) = false := by rw [h]; rfl
    have t1 : ((s[i].toNat : Int) == 92) = false := by rw [h]; rfl
    have t2 : ((s[i].toNat : Int) == 47) = false := by rw [h]; rfl
    have t3 : ((s[i].toNat : Int) == 98) = false := by rw [h]; rfl
    have t4 : ((s[i].toNat : Int) == 102) = false := by rw [h]; rfl
    have t5 : ((s[i].toNat : Int) == 110) = false := by rw [h]; rfl
    have t6 : ((s[i].toNat : Int) == 114) = true := by rw [h]; rfl
    clear h hx hcut
    go_enter Tryz.func251, Tryz.ntmps251
    go_wp2
    go_ret2
    exact ⟨rfl, rfl⟩
  rw [if_neg h] at hx
  by_cases h : s[i] = 116
  · rw [if_pos h] at hx
    obtain rfl : x = 9 := (Option.some.inj hx).symm
    have t0 : ((s[i].toNat : Int) == 34) = false := by rw [h]; rfl
    have t1 : ((s[i].toNat : Int) == 92) = false := by rw [h]; rfl
    have t2 : ((s[i].toNat : Int) == 47) = false := by rw [h]; rfl
    have t3 : ((s[i].toNat : Int) == 98) = false := by rw [h]; rfl
    have t4 : ((s[i].toNat : Int) == 102) = false := by rw [h]; rfl
    have t5 : ((s[i].toNat : Int) == 110) = false := by rw [h]; rfl
    have t6 : ((s[i].toNat : Int) == 114) = false := by rw [h]; rfl
    have t7 : ((s[i].toNat : Int) == 116) = true := by rw [h]; rfl
    clear h hx hcut
    go_enter Tryz.func251, Tryz.ntmps251
    go_wp2
    go_ret2
    exact ⟨rfl, rfl⟩
  rw [if_neg h] at hx
  cases hx
end Go.Proofs.Jt
/- R8: The walk of the reference's escape, whole. Printed by gen_r8e.py. -/
namespace Go.Proofs.Jt
open Go.RowKit Go.Proofs Go.Lib Go.Proofs.Utf

theorem unit_65535 (l : List UInt8) : unitL l ≤ 65535 := by
  match l with
  | u :: a :: b :: c :: d :: t =>
    rw [unitL_cons]
    have h1 := hexV_le a
    have h2 := hexV_le b
    have h3 := hexV_le c
    have h4 := hexV_le d
    split <;> omega
  | [] => decide
  | [_] => exact (by decide : (-1 : Int) ≤ 65535)
  | [_, _] => exact (by decide : (-1 : Int) ≤ 65535)
  | [_, _, _] => exact (by decide : (-1 : Int) ≤ 65535)
  | [_, _, _, _] => exact (by decide : (-1 : Int) ≤ 65535)
theorem unit_five (l : List UInt8) (h : 0 ≤ unitL l) : 4 < l.length := by
  obtain ⟨b, hb, _⟩ := unit_ascii h 4 (by omega)
  exact (List.getElem?_eq_some_iff.1 hb).1
theorem escR_else (l : List UInt8) (h : l[0]?.bind simple = none) : escR l = if unitL l < 0 then (0, 0)
    else if unitL l < 55296 ∨ 57343 < unitL l then (unitL l, 5)
    else if unitL l < 56320 ∧ l[5]? = some 92 ∧ 56320 ≤ unitL (l.drop 6) ∧ unitL (l.drop 6) ≤ 57343 then ((unitL l - 55296) * 1024 + unitL (l.drop 6) - 56320 + 65536, 11)
    else (0, 0) := by
  unfold escR
  rw [h]
set_option maxRecDepth 100000 in
set_option maxHeartbeats 2000000 in
theorem escape_any (s : ByteArray) (i : Nat) (w : World) (hs : s.size ≤ 16777216) (hi0 : i ≤ s.size) : Calls Tryz.prog 251 #[.string s, .int .i64 i] w fun e w' => e = .returned (escV s.data.toList i) ∧ Below w.heap.size w w' := by
  by_cases hi : i < s.size
  · cases hx : simple s[i] with
    | some x => exact (escape_simple s i w hs hi x hx).mono fun e w' h => ⟨h.1, h.2 ▸ Below.refl _ _⟩
    | none =>
      have hi' : (i : Int) < (s.size : Int) := by omega
      have hb : (s.data.toList.drop i)[0]?.bind simple = none := by rw [rdrop_cons s i hi]; exact hx
      have hR := escR_else _ hb
      rw [List.drop_drop, List.getElem?_drop] at hR
      have h92 : ∀ w, Calls Tryz.prog 252 #[.string s, .int .i64 ((i : Int) + 5), .int .u8 92] w fun e w' => e = .returned (.bool (isAt s.data.toList (i + 5) 92)) ∧ w = w' := fun w => (ris_any s (i + 5) 92 w hs).mono fun _ _ h => ⟨h.1, h.2.symm⟩
      have ha := fun w => (hex_any s i w hs hi0).mono fun _ _ h => (⟨h.1, h.2.symm⟩ : _ ∧ w = _)
      have hbx : i + 6 ≤ s.size → ∀ w, Calls Tryz.prog 258 #[.string s, .int .i64 ((i : Int) + 6)] w fun e w' => e = .returned (.int .i64 (unitL (s.data.toList.drop (i + 6)))) ∧ w = w' := fun h w => (hex_any s (i + 6) w hs h).mono fun _ _ h => ⟨h.1, h.2.symm⟩
      have ha6 := unit_65535 (s.data.toList.drop i)
      have hb6 := unit_65535 (s.data.toList.drop (i + 6))
      have hl5 := unit_five (s.data.toList.drop i)
      have hl11 := unit_five (s.data.toList.drop (i + 6))
      rw [List.length_drop, ← Lib.size_eq] at hl5 hl11
      have t0 : ((s[i].toNat : Int) == 34) = false := byte_not (c := 34) fun h => by rw [h] at hx; exact absurd hx (by decide)
      have t1 : ((s[i].toNat : Int) == 92) = false := byte_not (c := 92) fun h => by rw [h] at hx; exact absurd hx (by decide)
      have t2 : ((s[i].toNat : Int) == 47) = false := byte_not (c := 47) fun h => by rw [h] at hx; exact absurd hx (by decide)
      have t3 : ((s[i].toNat : Int) == 98) = false := byte_not (c := 98) fun h => by rw [h] at hx; exact absurd hx (by decide)
      have t4 : ((s[i].toNat : Int) == 102) = false := byte_not (c := 102) fun h => by rw [h] at hx; exact absurd hx (by decide)
      have t5 : ((s[i].toNat : Int) == 110) = false := byte_not (c := 110) fun h => by rw [h] at hx; exact absurd hx (by decide)
      have t6 : ((s[i].toNat : Int) == 114) = false := byte_not (c := 114) fun h => by rw [h] at hx; exact absurd hx (by decide)
      have t7 : ((s[i].toNat : Int) == 116) = false := byte_not (c := 116) fun h => by rw [h] at hx; exact absurd hx (by decide)
      clear hx hb
      obtain ⟨a, haa⟩ : ∃ a, unitL (s.data.toList.drop i) = a := ⟨_, rfl⟩
      obtain ⟨b, hbb⟩ : ∃ b, unitL (s.data.toList.drop (i + 6)) = b := ⟨_, rfl⟩
      simp only [haa] at hR ha ha6 hl5
      simp only [hbb] at hR hbx hb6 hl11
      clear haa hbb
      by_cases a0 : a < 0
      · have he := escV_none (l := s.data.toList) (i := i) (by rw [hR, if_pos a0])
        rw [he]
        clear hR he hbx
        go_enter Tryz.func251, Tryz.ntmps251
        go_wp2_with (first
          | (go_at_call_of 258 (Value.int .i64 (i : Int)); refine (ha _).mono ?_; rintro e w1 ⟨rfl, rfl⟩)
          | (go_at_call 252; refine (h92 _).mono ?_; rintro e w1 ⟨rfl, rfl⟩)
          | (go_at_call 258; (with_reducible show Calls Tryz.prog 258 #[.string s, .int .i64 ((i : Int) + 6)] _ _); refine (hb2 _).mono ?_; rintro e w1 ⟨rfl, rfl⟩)
          | (go_at_call 259; refine (point_any _ _ hpt).mono ?_; rintro e w2 ⟨rfl, hb⟩))
        go_ret2
        exact ⟨rfl, Below.refl _ _⟩
      · have hl5' := hl5 (by omega)
        by_cases a1 : a < 55296 ∨ 57343 < a
        · have he := escV_some (l := s.data.toList) (i := i) (x := a) (m := 5) (by rw [hR, if_neg a0, if_pos a1]) (by decide)
          have hpt : IsPoint a := by unfold IsPoint; omega
          rw [he]
          clear hR he hbx
          rcases a1 with a1 | a1
          · have v1 : decide ((56320 : Int) ≤ a) = false := by simp; omega
            have v2 : decide (a < (55296 : Int)) = true := by simp; omega
            go_enter Tryz.func251, Tryz.ntmps251
            go_wp2_with (first
            | (go_at_call_of 258 (Value.int .i64 (i : Int)); refine (ha _).mono ?_; rintro e w1 ⟨rfl, rfl⟩)
            | (go_at_call 259; refine (point_any _ _ hpt).mono ?_; rintro e w2 ⟨rfl, hb⟩))
            go_ret2
            exact ⟨rfl, hb⟩
          · have v1 : decide ((56320 : Int) ≤ a) = true := by simp; omega
            have v2 : decide (a ≤ (57343 : Int)) = false := by simp; omega
            have v3 : decide (a < (55296 : Int)) = false := by simp; omega
            have v4 : decide ((57343 : Int) < a) = true := by simp; omega
            go_enter Tryz.func251, Tryz.ntmps251
            go_wp2_with (first
            | (go_at_call_of 258 (Value.int .i64 (i : Int)); refine (ha _).mono ?_; rintro e w1 ⟨rfl, rfl⟩)
            | (go_at_call 259; refine (point_any _ _ hpt).mono ?_; rintro e w2 ⟨rfl, hb⟩))
            go_ret2
            exact ⟨rfl, hb⟩
        · have v0 : decide (a < (55296 : Int)) = false := by simp; omega
          have v4 : decide ((57343 : Int) < a) = false := by simp; omega
          have v2 : decide (a ≤ (57343 : Int)) = true := by simp; omega
          rw [if_neg a0, if_neg a1] at hR
          by_cases a2 : a < 56320
          · have v1 : decide ((56320 : Int) ≤ a) = false := by simp; omega
            cases e5 : isAt s.data.toList (i + 5) 92 with
            | false =>
              have he := escV_none (l := s.data.toList) (i := i) (by rw [hR, if_neg]; rintro ⟨_, h, _⟩; exact of_decide_eq_false e5 h)
              rw [he]
              clear hR he hbx
              go_enter Tryz.func251, Tryz.ntmps251
              go_wp2_with (first
                | (go_at_call_of 258 (Value.int .i64 (i : Int)); refine (ha _).mono ?_; rintro e w1 ⟨rfl, rfl⟩)
                | (go_at_call 252; refine (h92 _).mono ?_; rintro e w1 ⟨rfl, rfl⟩))
              go_ret2
              exact ⟨rfl, Below.refl _ _⟩
            | true =>
              have hlt5 : i + 5 < s.size := by rw [Lib.size_eq]; exact isAt_lt e5
              have hb2 := hbx (by omega)
              have e5' : s.data.toList[i + 5]? = some 92 := of_decide_eq_true e5
              clear hbx
              by_cases b0 : b < 56320
              · have he := escV_none (l := s.data.toList) (i := i) (by rw [hR, if_neg]; rintro ⟨_, _, h, _⟩; omega)
                have x1 : decide (b < (56320 : Int)) = true := by simp; omega
                rw [he]
                clear hR he e5'
                go_enter Tryz.func251, Tryz.ntmps251
                go_wp2_with (first
                  | (go_at_call 258; (with_reducible show Calls Tryz.prog 258 #[.string s, .int .i64 ((i : Int) + 6)] _ _); refine (hb2 _).mono ?_; rintro e w1 ⟨rfl, rfl⟩)
                  | (go_at_call 258; (with_reducible show Calls Tryz.prog 258 #[.string s, .int .i64 (i : Int)] _ _); refine (ha _).mono ?_; rintro e w1 ⟨rfl, rfl⟩)
                  | (go_at_call 252; refine (h92 _).mono ?_; rintro e w1 ⟨rfl, rfl⟩))
                go_ret2
                exact ⟨rfl, Below.refl _ _⟩
              · have x1 : decide (b < (56320 : Int)) = false := by simp; omega
                by_cases b1 : 57343 < b
                · have he := escV_none (l := s.data.toList) (i := i) (by rw [hR, if_neg]; rintro ⟨_, _, _, h⟩; omega)
                  have x2 : decide ((57343 : Int) < b) = true := by simp; omega
                  rw [he]
                  clear hR he e5'
                  go_enter Tryz.func251, Tryz.ntmps251
                  go_wp2_with (first
                    | (go_at_call 258; (with_reducible show Calls Tryz.prog 258 #[.string s, .int .i64 ((i : Int) + 6)] _ _); refine (hb2 _).mono ?_; rintro e w1 ⟨rfl, rfl⟩)
                    | (go_at_call 258; (with_reducible show Calls Tryz.prog 258 #[.string s, .int .i64 (i : Int)] _ _); refine (ha _).mono ?_; rintro e w1 ⟨rfl, rfl⟩)
                    | (go_at_call 252; refine (h92 _).mono ?_; rintro e w1 ⟨rfl, rfl⟩))
                  go_ret2
                  exact ⟨rfl, Below.refl _ _⟩
                · have he := escV_some (l := s.data.toList) (i := i) (x := (a - 55296) * 1024 + b - 56320 + 65536) (m := 11) (by rw [hR, if_pos ⟨a2, e5', by omega, by omega⟩]) (by decide)
                  have x2 : decide ((57343 : Int) < b) = false := by simp; omega
                  have hl := hl11 (by omega)
                  have hpe : (a - 55296) * 1024 + b - 56320 + 65536 = 65536 + 1024 * (a - 55296) + b - 56320 := by omega
                  rw [hpe] at he
                  have hpt : IsPoint (65536 + 1024 * (a - 55296) + b - 56320) := by unfold IsPoint; omega
                  rw [he]
                  clear hR he e5' hpe
                  go_enter Tryz.func251, Tryz.ntmps251
                  go_wp2_with (first
                    | (go_at_call 258; (with_reducible show Calls Tryz.prog 258 #[.string s, .int .i64 ((i : Int) + 6)] _ _); refine (hb2 _).mono ?_; rintro e w1 ⟨rfl, rfl⟩)
                    | (go_at_call 258; (with_reducible show Calls Tryz.prog 258 #[.string s, .int .i64 (i : Int)] _ _); refine (ha _).mono ?_; rintro e w1 ⟨rfl, rfl⟩)
                    | (go_at_call 252; refine (h92 _).mono ?_; rintro e w1 ⟨rfl, rfl⟩)
                    | (go_at_call 259; refine (point_any _ _ hpt).mono ?_; rintro e w2 ⟨rfl, hb⟩))
                  go_ret2
                  exact ⟨rfl, hb⟩
          · have v1 : decide ((56320 : Int) ≤ a) = true := by simp; omega
            have he := escV_none (l := s.data.toList) (i := i) (by rw [hR, if_neg]; rintro ⟨h, _⟩; exact a2 h)
            rw [he]
            clear hR he hbx
            go_enter Tryz.func251, Tryz.ntmps251
            go_wp2_with (first
              | (go_at_call_of 258 (Value.int .i64 (i : Int)); refine (ha _).mono ?_; rintro e w1 ⟨rfl, rfl⟩)
              | (go_at_call 252; refine (h92 _).mono ?_; rintro e w1 ⟨rfl, rfl⟩))
            go_ret2
            exact ⟨rfl, Below.refl _ _⟩
  · have hd : s.data.toList.drop i = [] := List.drop_eq_nil_of_le (by rw [← Lib.size_eq]; omega)
    have he : escV s.data.toList i = .tuple #[.string ⟨#[]⟩, .int .i64 0] := escV_none (by rw [hd]; rfl)
    have hi' : (s.size : Int) ≤ (i : Int) := by omega
    rw [he]
    clear hd he
    go_enter Tryz.func251, Tryz.ntmps251
    go_wp2
    go_ret2
    exact ⟨rfl, Below.refl _ _⟩
end Go.Proofs.Jt
/- R9: The walk of the reference's quoted. -/
namespace Go.Proofs.Jt
open Go.RowKit Go.Proofs Go.Lib Go.Proofs.Utf

def quV (Q : Option (List UInt8 × Nat)) (i : Nat) : Value := match Q with | none => .tuple #[.string ⟨#[]⟩, .int .i64 0] | some r => .tuple #[.string ⟨r.1.toArray⟩, .int .i64 ((i + r.2 : Nat) : Int)]
def qAt (l A : List UInt8) (j : Nat) : Option (List UInt8 × Nat) := (qq (l.drop j)).map fun r => (A ++ r.1, j + r.2)
theorem append_list (A B : ByteArray) : (A ++ B).data.toList = A.data.toList ++ B.data.toList := by
  rw [ByteArray.data_append, Array.toList_append]
set_option maxRecDepth 100000 in
set_option maxHeartbeats 2000000 in
theorem quoted_ref (s : ByteArray) (i : Nat) (w : World) (hs : s.size ≤ 16777216) (hi : i < s.size) : Calls Tryz.prog 234 #[.string s, .int .i64 i] w fun e w' => e = .returned (quV (qAt s.data.toList [] (i + 1)) 0) ∧ Below w.heap.size w w' := by
  obtain ⟨Q, hQ⟩ : ∃ Q, qAt s.data.toList [] (i + 1) = Q := ⟨_, rfl⟩
  rw [hQ]
  have hesc := fun j hj w => escape_any s j w hs hj
  have HQ := Lib.hid hQ
  clear hQ
  go_enter Tryz.func234, Tryz.ntmps234
  go_wp2
  go_loopw [1, 6, 7, 8] (fun v a _ _ wr => ∃ (j : Nat) (A : ByteArray), v = .int .i64 j ∧ a = .string A ∧ j ≤ s.size ∧ A.size ≤ 4 * j ∧ qAt s.data.toList A.data.toList j = Q ∧ Below w.heap.size w wr) (fun v _ _ _ _ => s.size - (RowKit.intOf v).toNat)
  case atStart => exact ⟨i + 1, ⟨#[]⟩, by go_num, rfl, by omega, by simp [ByteArray.size], HQ.out, Below.refl _ _⟩
  case round =>
    obtain ⟨j, A, rfl, rfl, hj, hAs, hq, hB⟩ := hrel
    have HQ2 := Lib.hid hq
    clear hq
    by_cases hlt : (j : Int) < (s.size : Int)
    · have hj' : j < s.size := by omega
      have hdc := rdrop_cons s j hj'
      have hcut : (s.extract j (j + 1)).data.toList = [s[j]] := by
        rw [Lib.extract_data, hdc]
        simp
      by_cases h34 : s[j] = 34
      · have t1 : ((s[j].toNat : Int) == 34) = true := by rw [h34]; rfl
        have hr : Q = some (A.data.toList, j + 1) := by
          rw [← HQ2.out]
          unfold qAt
          rw [hdc, h34, qq_end]
          simp
        have hA : (⟨A.data.toList.toArray⟩ : ByteArray) = A := by simp
        have HR := Lib.hid hr
        have HA := Lib.hid hA
        clear hdc hcut h34 hesc hr hA
        go_wp2
        go_ret2
        refine ⟨rret_val ?_, hB⟩
        rw [HR.out]
        simp [quV]
      · have t1 : ((s[j].toNat : Int) == 34) = false := byte_not h34
        by_cases h32 : s[j].toNat < 32
        · have t2 : decide ((s[j].toNat : Int) < 32) = true := by simp; omega
          have hr : Q = none := by
            rw [← HQ2.out]
            unfold qAt
            rw [hdc, qq_ctl _ _ h32]
            rfl
          have HR := Lib.hid hr
          clear hdc hcut h34 hesc hr h32
          go_wp2
          go_ret2
          refine ⟨rret_val ?_, hB⟩
          rw [HR.out]
          rfl
        · have t2 : decide ((s[j].toNat : Int) < 32) = false := by simp; omega
          by_cases h92 : s[j] = 92
          · have t3 : ((s[j].toNat : Int) != 92) = false := by rw [h92]; rfl
            have hc : ∀ w, Calls Tryz.prog 251 #[.string s, .int .i64 ((j : Int) + 1)] w fun e w' => e = .returned (escV s.data.toList (j + 1)) ∧ Below w.heap.size w w' := fun w => hesc (j + 1) (by omega) w
            have hqe := qq_esc (s.data.toList.drop (j + 1))
            rw [← h92, ← hdc] at hqe
            have hasc := esc_ascii (s.data.toList.drop (j + 1))
            have hle := esc_le (s.data.toList.drop (j + 1))
            rw [List.length_drop, ← Lib.size_eq] at hle
            obtain ⟨x, m, hxm⟩ : ∃ x m, escR (s.data.toList.drop (j + 1)) = (x, m) := ⟨_, _, rfl⟩
            rw [hxm] at hqe hasc hle
            simp only at hqe hasc hle
            by_cases hm : m = 0
            · rw [if_pos hm] at hqe
              have hr : Q = none := by
                rw [← HQ2.out]
                unfold qAt
                rw [hqe]
                rfl
              have hev : escV s.data.toList (j + 1) = .tuple #[.string ⟨#[]⟩, .int .i64 0] := escV_none (by rw [hxm]; exact hm)
              rw [hev] at hc
              have HR := Lib.hid hr
              clear hdc hcut h34 hesc hr h32 h92 hqe hasc hle hxm hev hm
              go_wp2_with (first | (go_at_call 251; refine (hc _).mono ?_; rintro e w1 ⟨rfl, hb1⟩))
              go_ret2
              refine ⟨rret_val ?_, hB.trans (hb1.mono hB.size)⟩
              rw [HR.out]
              rfl
            · rw [if_neg hm] at hqe
              have hlen := enc_len4 x (hasc.2.1 hm)
              have hev : escV s.data.toList (j + 1) = .tuple #[.string ⟨(encodeRune x).toArray⟩, .int .i64 ((j + 1 + m : Nat) : Int)] := escV_some hxm hm
              rw [hev] at hc
              have hr : qAt s.data.toList (A ++ ⟨(encodeRune x).toArray⟩).data.toList (j + 1 + m) = Q := by
                rw [← HQ2.out, append_list]
                unfold qAt
                rw [hqe, Option.map_map, List.drop_drop]
                congr 1
                funext r
                simp only [Function.comp, List.append_assoc, Prod.mk.injEq, true_and]
                omega
              obtain ⟨E, hE⟩ : ∃ E : ByteArray, (⟨(encodeRune x).toArray⟩ : ByteArray) = E := ⟨_, rfl⟩
              have hEs : E.size ≤ 4 := by rw [← hE]; simpa [ByteArray.size] using hlen
              rw [hE] at hr hc
              obtain ⟨k, hk⟩ : ∃ k, j + 1 + m = k := ⟨_, rfl⟩
              rw [hk] at hr hc
              have HR := Lib.hid hr
              have u1 : ((k : Int) == 0) = false := beq_eq_false_iff_ne.2 (by omega)
              have hk1 : j + 2 ≤ k := by omega
              have hk2 : k ≤ s.size := by omega
              clear hdc hcut h34 hesc hr h32 h92 hqe hasc hle hxm hev hm hlen hE hk
              go_wp2_with (first | (go_at_call 251; refine (hc _).mono ?_; rintro e w1 ⟨rfl, hb1⟩))
              go_roundw
              case rel => exact ⟨k, _, rfl, rfl, by omega, by rw [ByteArray.size_append]; omega, HR.out, hB.trans (hb1.mono hB.size)⟩
              case measure => simp [RowKit.intOf]; omega
          · have t3 : ((s[j].toNat : Int) != 92) = true := by simp only [bne, show ((s[j].toNat : Int) == 92) = false from byte_not h92, Bool.not_false]
            have hr : qAt s.data.toList (A ++ s.extract j (j + 1)).data.toList (j + 1) = Q := by
              rw [← HQ2.out, append_list, hcut]
              unfold qAt
              rw [hdc, qq_byte _ _ h34 h32 h92, Option.map_map]
              congr 1
              funext r
              simp only [Function.comp, List.append_assoc, List.singleton_append, Prod.mk.injEq, true_and]
              omega
            have HR := Lib.hid hr
            have hes : (s.extract j (j + 1)).size = 1 := by rw [ByteArray.size_extract]; omega
            clear hdc hcut h34 hesc hr h32 h92
            go_wp2
            go_roundw
            case rel => exact ⟨j + 1, _, by go_num, rfl, by omega, by rw [ByteArray.size_append, hes]; omega, HR.out, hB⟩
            case measure => simp [RowKit.intOf]; omega
    · have hd : s.data.toList.drop j = [] := List.drop_eq_nil_of_le (by rw [← Lib.size_eq]; omega)
      have hr : Q = none := by
        rw [← HQ2.out]
        unfold qAt
        rw [hd, qq_nil]
        rfl
      have HR := Lib.hid hr
      clear hd hesc hr
      go_wp2
      go_ret2
      refine ⟨rret_val ?_, hB⟩
      rw [HR.out]
      rfl
end Go.Proofs.Jt
