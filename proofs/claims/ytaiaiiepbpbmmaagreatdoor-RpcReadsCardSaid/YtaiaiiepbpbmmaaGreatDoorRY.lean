/- Merged texts: RC, RD. -/
import Derived.Test.YtaiaiiepbpbmmaaGreatDoorRX
import Derived.Test.YtaiaiiepbpbmmaaGreatDoorJZ
import Derived.Deep.RegionHeld3
import Derived.Deep.AppendLies
/- RC: Merged texts: R7, R8, R9. -/
/- R7: The walk of the reference's escape. Printed by gen_r7.py. -/
namespace Go.Proofs.Jt
open Go.RowKit Go.Proofs Go.Lib Go.Proofs.Utf

/-- what escape answers at a place -/
def escB (l : List UInt8) (i : Nat) : ByteArray := if (escR (l.drop i)).2 = 0 then ⟨#[]⟩ else ⟨(encodeRune (escR (l.drop i)).1).toArray⟩
def escE (l : List UInt8) (i : Nat) : Nat := if (escR (l.drop i)).2 = 0 then 0 else i + (escR (l.drop i)).2
def escV (l : List UInt8) (i : Nat) : Value := .tuple #[.string (escB l i), .int .i64 (escE l i : Nat)]
theorem escV_none {l : List UInt8} {i : Nat} (h : (escR (l.drop i)).2 = 0) : escV l i = .tuple #[.string ⟨#[]⟩, .int .i64 0] := by
  unfold escV escB escE; rw [if_pos h, if_pos h]; rfl
theorem escV_some {l : List UInt8} {i : Nat} {x : Int} {m : Nat} (h : escR (l.drop i) = (x, m)) (hm : m ≠ 0) : escV l i = .tuple #[.string ⟨(encodeRune x).toArray⟩, .int .i64 ((i + m : Nat) : Int)] := by
  unfold escV escB escE; rw [h, if_neg hm, if_neg hm]
theorem rdrop_cons (s : ByteArray) (i : Nat) (hi : i < s.size) : s.data.toList.drop i = s[i] :: s.data.toList.drop (i + 1) := by
  rw [List.drop_eq_getElem_cons (by rw [← Lib.size_eq]; exact hi)]
  rfl
theorem esc_spec (s : ByteArray) (i : Nat) (hi : i < s.size) (v x : Nat) (_h : s[i].toNat = v) (hs : simple s[i] = some x) : escR (s.data.toList.drop i) = ((x : Int), 1) := by
  rw [rdrop_cons s i hi, esc_simple _ _ x hs]
theorem rret_val {a b : Value} (h : a = b) : Ending.returned a = .returned b := by rw [h]
theorem enc_low (n : Nat) (h : n < 128) : encodeRune (n : Int) = [n.toUInt8] := by
  rw [enc1 _ ⟨by omega, by omega⟩]; rfl
set_option maxRecDepth 100000 in
set_option maxHeartbeats 2000000 in
theorem escape_simple (s : ByteArray) (i : Nat) (w : World) (hs : s.size ≤ 16777216) (hi : i < s.size) (x : Nat) (hx : simple s[i] = some x) : Calls Tryz.prog 251 #[.string s, .int .i64 i] w fun e w' => e = .returned (escV s.data.toList i) ∧ w' = w := by
  have hi' : (i : Int) < (s.size : Int) := by omega
  have hcut : s.extract i (i + 1) = ⟨#[s[i]]⟩ := by
    apply ByteArray.ext
    apply Array.toList_inj.1
    rw [Lib.extract_data, rdrop_cons s i hi]
    simp
  have he := escV_some (esc_spec s i hi s[i].toNat x rfl hx) (by decide)
  rw [he, enc_low x (simple_val _ _ hx)]
  clear he
  unfold simple at hx
  by_cases h : s[i] = 34
  · rw [if_pos h] at hx
    obtain rfl : x = 34 := (Option.some.inj hx).symm
    have t0 : ((s[i].toNat : Int) == 34) = true := by rw [h]; rfl
    have hcut2 : s.extract i (i + 1) = ⟨#[34]⟩ := by rw [hcut, h]
    clear h hx hcut
    go_enter Tryz.func251, Tryz.ntmps251
    go_wp2
    go_ret2
    exact ⟨rfl, rfl⟩
  rw [if_neg h] at hx
  by_cases h : s[i] = 92
  · rw [if_pos h] at hx
    obtain rfl : x = 92 := (Option.some.inj hx).symm
    have t0 : ((s[i].toNat : Int) == 34) = false := by rw [h]; rfl
    have t1 : ((s[i].toNat : Int) == 92) = true := by rw [h]; rfl
    have hcut2 : s.extract i (i + 1) = ⟨#[92]⟩ := by rw [hcut, h]
    clear h hx hcut
    go_enter Tryz.func251, Tryz.ntmps251
    go_wp2
    go_ret2
    exact ⟨rfl, rfl⟩
  rw [if_neg h] at hx
  by_cases h : s[i] = 47
  · rw [if_pos h] at hx
    obtain rfl : x = 47 := (Option.some.inj hx).symm
    have t0 : ((s[i].toNat : Int) == 34) = false := by rw [h]; rfl
    have t1 : ((s[i].toNat : Int) == 92) = false := by rw [h]; rfl
    have t2 : ((s[i].toNat : Int) == 47) = true := by rw [h]; rfl
    have hcut2 : s.extract i (i + 1) = ⟨#[47]⟩ := by rw [hcut, h]
    clear h hx hcut
    go_enter Tryz.func251, Tryz.ntmps251
    go_wp2
    go_ret2
    exact ⟨rfl, rfl⟩
  rw [if_neg h] at hx
  by_cases h : s[i] = 98
  · rw [if_pos h] at hx
    obtain rfl : x = 8 := (Option.some.inj hx).symm
    have t0 : ((s[i].toNat : Int) == 34) = false := by rw [h]; rfl
    have t1 : ((s[i].toNat : Int) == 92) = false := by rw [h]; rfl
    have t2 : ((s[i].toNat : Int) == 47) = false := by rw [h]; rfl
    have t3 : ((s[i].toNat : Int) == 98) = true := by rw [h]; rfl
    clear h hx hcut
    go_enter Tryz.func251, Tryz.ntmps251
    go_wp2
    go_ret2
    exact ⟨rfl, rfl⟩
  rw [if_neg h] at hx
  by_cases h : s[i] = 102
  · rw [if_pos h] at hx
    obtain rfl : x = 12 := (Option.some.inj hx).symm
    have t0 : ((s[i].toNat : Int) == 34) = false := by rw [h]; rfl
    have t1 : ((s[i].toNat : Int) == 92) = false := by rw [h]; rfl
    have t2 : ((s[i].toNat : Int) == 47) = false := by rw [h]; rfl
    have t3 : ((s[i].toNat : Int) == 98) = false := by rw [h]; rfl
    have t4 : ((s[i].toNat : Int) == 102) = true := by rw [h]; rfl
    clear h hx hcut
    go_enter Tryz.func251, Tryz.ntmps251
    go_wp2
    go_ret2
    exact ⟨rfl, rfl⟩
  rw [if_neg h] at hx
  by_cases h : s[i] = 110
  · rw [if_pos h] at hx
    obtain rfl : x = 10 := (Option.some.inj hx).symm
    have t0 : ((s[i].toNat : Int) == 34) = false := by rw [h]; rfl
    have t1 : ((s[i].toNat : Int) == 92) = false := by rw [h]; rfl
    have t2 : ((s[i].toNat : Int) == 47) = false := by rw [h]; rfl
    have t3 : ((s[i].toNat : Int) == 98) = false := by rw [h]; rfl
    have t4 : ((s[i].toNat : Int) == 102) = false := by rw [h]; rfl
    have t5 : ((s[i].toNat : Int) == 110) = true := by rw [h]; rfl
    clear h hx hcut
    go_enter Tryz.func251, Tryz.ntmps251
    go_wp2
    go_ret2
    exact ⟨rfl, rfl⟩
  rw [if_neg h] at hx
  by_cases h : s[i] = 114
  · rw [if_pos h] at hx
    obtain rfl : x = 13 := (Option.some.inj hx).symm
    have t0 : ((s[i].toNat : Int) == 34) = false := by rw [h]; rfl
    have t1 : ((s[i].toNat : Int) == 92) = false := by rw [h]; rfl
    have t2 : ((s[i].toNat : Int) == 47) = false := by rw [h]; rfl
    have t3 : ((s[i].toNat : Int) == 98) = false := by rw [h]; rfl
    have t4 : ((s[i].toNat : Int) == 102) = false := by rw [h]; rfl
    have t5 : ((s[i].toNat : Int) == 110) = false := by rw [h]; rfl
    have t6 : ((s[i].toNat : Int) == 114) = true := by rw [h]; rfl
    clear h hx hcut
    go_enter Tryz.func251, Tryz.ntmps251
    go_wp2
    go_ret2
    exact ⟨rfl, rfl⟩
  rw [if_neg h] at hx
  by_cases h : s[i] = 116
  · rw [if_pos h] at hx
    obtain rfl : x = 9 := (Option.some.inj hx).symm
    have t0 : ((s[i].toNat : Int) == 34) = false := by rw [h]; rfl
    have t1 : ((s[i].toNat : Int) == 92) = false := by rw [h]; rfl
    have t2 : ((s[i].toNat : Int) == 47) = false := by rw [h]; rfl
    have t3 : ((s[i].toNat : Int) == 98) = false := by rw [h]; rfl
    have t4 : ((s[i].toNat : Int) == 102) = false := by rw [h]; rfl
    have t5 : ((s[i].toNat : Int) == 110) = false := by rw [h]; rfl
    have t6 : ((s[i].toNat : Int) == 114) = false := by rw [h]; rfl
    have t7 : ((s[i].toNat : Int) == 116) = true := by rw [h]; rfl
    clear h hx hcut
    go_enter Tryz.func251, Tryz.ntmps251
    go_wp2
    go_ret2
    exact ⟨rfl, rfl⟩
  rw [if_neg h] at hx
  cases hx
end Go.Proofs.Jt
/- R8: The walk of the reference's escape, whole. Printed by gen_r8e.py. -/
namespace Go.Proofs.Jt
open Go.RowKit Go.Proofs Go.Lib Go.Proofs.Utf

theorem unit_65535 (l : List UInt8) : unitL l ≤ 65535 := by
  match l with
  | u :: a :: b :: c :: d :: t =>
    rw [unitL_cons]
    have h1 := hexV_le a
    have h2 := hexV_le b
    have h3 := hexV_le c
    have h4 := hexV_le d
    split <;> omega
  | [] => decide
  | [_] => exact (by decide : (-1 : Int) ≤ 65535)
  | [_, _] => exact (by decide : (-1 : Int) ≤ 65535)
  | [_, _, _] => exact (by decide : (-1 : Int) ≤ 65535)
  | [_, _, _, _] => exact (by decide : (-1 : Int) ≤ 65535)
theorem unit_five (l : List UInt8) (h : 0 ≤ unitL l) : 4 < l.length := by
  obtain ⟨b, hb, _⟩ := unit_ascii h 4 (by omega)
  exact (List.getElem?_eq_some_iff.1 hb).1
theorem escR_else (l : List UInt8) (h : l[0]?.bind simple = none) : escR l = if unitL l < 0 then (0, 0)
    else if unitL l < 55296 ∨ 57343 < unitL l then (unitL l, 5)
    else if unitL l < 56320 ∧ l[5]? = some 92 ∧ 56320 ≤ unitL (l.drop 6) ∧ unitL (l.drop 6) ≤ 57343 then ((unitL l - 55296) * 1024 + unitL (l.drop 6) - 56320 + 65536, 11)
    else (0, 0) := by
  unfold escR
  rw [h]
set_option maxRecDepth 100000 in
set_option maxHeartbeats 2000000 in
theorem escape_any (s : ByteArray) (i : Nat) (w : World) (hs : s.size ≤ 16777216) (hi0 : i ≤ s.size) : Calls Tryz.prog 251 #[.string s, .int .i64 i] w fun e w' => e = .returned (escV s.data.toList i) ∧ Below w.heap.size w w' := by
  by_cases hi : i < s.size
  · cases hx : simple s[i] with
    | some x => exact (escape_simple s i w hs hi x hx).mono fun e w' h => ⟨h.1, h.2 ▸ Below.refl _ _⟩
    | none =>
      have hi' : (i : Int) < (s.size : Int) := by omega
      have hb : (s.data.toList.drop i)[0]?.bind simple = none := by rw [rdrop_cons s i hi]; exact hx
      have hR := escR_else _ hb
      rw [List.drop_drop, List.getElem?_drop] at hR
      have h92 : ∀ w, Calls Tryz.prog 252 #[.string s, .int .i64 ((i : Int) + 5), .int .u8 92] w fun e w' => e = .returned (.bool (isAt s.data.toList (i + 5) 92)) ∧ w = w' := fun w => (ris_any s (i + 5) 92 w hs).mono fun _ _ h => ⟨h.1, h.2.symm⟩
      have ha := fun w => (hex_any s i w hs hi0).mono fun _ _ h => (⟨h.1, h.2.symm⟩ : _ ∧ w = _)
      have hbx : i + 6 ≤ s.size → ∀ w, Calls Tryz.prog 258 #[.string s, .int .i64 ((i : Int) + 6)] w fun e w' => e = .returned (.int .i64 (unitL (s.data.toList.drop (i + 6)))) ∧ w = w' := fun h w => (hex_any s (i + 6) w hs h).mono fun _ _ h => ⟨h.1, h.2.symm⟩
      have ha6 := unit_65535 (s.data.toList.drop i)
      have hb6 := unit_65535 (s.data.toList.drop (i + 6))
      have hl5 := unit_five (s.data.toList.drop i)
      have hl11 := unit_five (s.data.toList.drop (i + 6))
      rw [List.length_drop, ← Lib.size_eq] at hl5 hl11
      have t0 : ((s[i].toNat : Int) == 34) = false := byte_not (c := 34) fun h => by rw [h] at hx; exact absurd hx (by decide)
      have t1 : ((s[i].toNat : Int) == 92) = false := byte_not (c := 92) fun h => by rw [h] at hx; exact absurd hx (by decide)
      have t2 : ((s[i].toNat : Int) == 47) = false := byte_not (c := 47) fun h => by rw [h] at hx; exact absurd hx (by decide)
      have t3 : ((s[i].toNat : Int) == 98) = false := byte_not (c := 98) fun h => by rw [h] at hx; exact absurd hx (by decide)
      have t4 : ((s[i].toNat : Int) == 102) = false := byte_not (c := 102) fun h => by rw [h] at hx; exact absurd hx (by decide)
      have t5 : ((s[i].toNat : Int) == 110) = false := byte_not (c := 110) fun h => by rw [h] at hx; exact absurd hx (by decide)
      have t6 : ((s[i].toNat : Int) == 114) = false := byte_not (c := 114) fun h => by rw [h] at hx; exact absurd hx (by decide)
      have t7 : ((s[i].toNat : Int) == 116) = false := byte_not (c := 116) fun h => by rw [h] at hx; exact absurd hx (by decide)
      clear hx hb
      obtain ⟨a, haa⟩ : ∃ a, unitL (s.data.toList.drop i) = a := ⟨_, rfl⟩
      obtain ⟨b, hbb⟩ : ∃ b, unitL (s.data.toList.drop (i + 6)) = b := ⟨_, rfl⟩
      simp only [haa] at hR ha ha6 hl5
      simp only [hbb] at hR hbx hb6 hl11
      clear haa hbb
      by_cases a0 : a < 0
      · have he := escV_none (l := s.data.toList) (i := i) (by rw [hR, if_pos a0])
        rw [he]
        clear hR he hbx
        go_enter Tryz.func251, Tryz.ntmps251
        go_wp2_with (first
          | (go_at_call_of 258 (Value.int .i64 (i : Int)); refine (ha _).mono ?_; rintro e w1 ⟨rfl, rfl⟩)
          | (go_at_call 252; refine (h92 _).mono ?_; rintro e w1 ⟨rfl, rfl⟩)
          | (go_at_call 258; (with_reducible show Calls Tryz.prog 258 #[.string s, .int .i64 ((i : Int) + 6)] _ _); refine (hb2 _).mono ?_; rintro e w1 ⟨rfl, rfl⟩)
          | (go_at_call 259; refine (point_any _ _ hpt).mono ?_; rintro e w2 ⟨rfl, hb⟩))
        go_ret2
        exact ⟨rfl, Below.refl _ _⟩
      · have hl5' := hl5 (by omega)
        by_cases a1 : a < 55296 ∨ 57343 < a
        · have he := escV_some (l := s.data.toList) (i := i) (x := a) (m := 5) (by rw [hR, if_neg a0, if_pos a1]) (by decide)
          have hpt : IsPoint a := by unfold IsPoint; omega
          rw [he]
          clear hR he hbx
          rcases a1 with a1 | a1
          · have v1 : decide ((56320 : Int) ≤ a) = false := by simp; omega
            have v2 : decide (a < (55296 : Int)) = true := by simp; omega
            go_enter Tryz.func251, Tryz.ntmps251
            go_wp2_with (first
            | (go_at_call_of 258 (Value.int .i64 (i : Int)); refine (ha _).mono ?_; rintro e w1 ⟨rfl, rfl⟩)
            | (go_at_call 259; refine (point_any _ _ hpt).mono ?_; rintro e w2 ⟨rfl, hb⟩))
            go_ret2
            exact ⟨rfl, hb⟩
          · have v1 : decide ((56320 : Int) ≤ a) = true := by simp; omega
            have v2 : decide (a ≤ (57343 : Int)) = false := by simp; omega
            have v3 : decide (a < (55296 : Int)) = false := by simp; omega
            have v4 : decide ((57343 : Int) < a) = true := by simp; omega
            go_enter Tryz.func251, Tryz.ntmps251
            go_wp2_with (first
            | (go_at_call_of 258 (Value.int .i64 (i : Int)); refine (ha _).mono ?_; rintro e w1 ⟨rfl, rfl⟩)
            | (go_at_call 259; refine (point_any _ _ hpt).mono ?_; rintro e w2 ⟨rfl, hb⟩))
            go_ret2
            exact ⟨rfl, hb⟩
        · have v0 : decide (a < (55296 : Int)) = false := by simp; omega
          have v4 : decide ((57343 : Int) < a) = false := by simp; omega
          have v2 : decide (a ≤ (57343 : Int)) = true := by simp; omega
          rw [if_neg a0, if_neg a1] at hR
          by_cases a2 : a < 56320
          · have v1 : decide ((56320 : Int) ≤ a) = false := by simp; omega
            cases e5 : isAt s.data.toList (i + 5) 92 with
            | false =>
              have he := escV_none (l := s.data.toList) (i := i) (by rw [hR, if_neg]; rintro ⟨_, h, _⟩; exact of_decide_eq_false e5 h)
              rw [he]
              clear hR he hbx
              go_enter Tryz.func251, Tryz.ntmps251
              go_wp2_with (first
                | (go_at_call_of 258 (Value.int .i64 (i : Int)); refine (ha _).mono ?_; rintro e w1 ⟨rfl, rfl⟩)
                | (go_at_call 252; refine (h92 _).mono ?_; rintro e w1 ⟨rfl, rfl⟩))
              go_ret2
              exact ⟨rfl, Below.refl _ _⟩
            | true =>
              have hlt5 : i + 5 < s.size := by rw [Lib.size_eq]; exact isAt_lt e5
              have hb2 := hbx (by omega)
              have e5' : s.data.toList[i + 5]? = some 92 := of_decide_eq_true e5
              clear hbx
              by_cases b0 : b < 56320
              · have he := escV_none (l := s.data.toList) (i := i) (by rw [hR, if_neg]; rintro ⟨_, _, h, _⟩; omega)
                have x1 : decide (b < (56320 : Int)) = true := by simp; omega
                rw [he]
                clear hR he e5'
                go_enter Tryz.func251, Tryz.ntmps251
                go_wp2_with (first
                  | (go_at_call 258; (with_reducible show Calls Tryz.prog 258 #[.string s, .int .i64 ((i : Int) + 6)] _ _); refine (hb2 _).mono ?_; rintro e w1 ⟨rfl, rfl⟩)
                  | (go_at_call 258; (with_reducible show Calls Tryz.prog 258 #[.string s, .int .i64 (i : Int)] _ _); refine (ha _).mono ?_; rintro e w1 ⟨rfl, rfl⟩)
                  | (go_at_call 252; refine (h92 _).mono ?_; rintro e w1 ⟨rfl, rfl⟩))
                go_ret2
                exact ⟨rfl, Below.refl _ _⟩
              · have x1 : decide (b < (56320 : Int)) = false := by simp; omega
                by_cases b1 : 57343 < b
                · have he := escV_none (l := s.data.toList) (i := i) (by rw [hR, if_neg]; rintro ⟨_, _, _, h⟩; omega)
                  have x2 : decide ((57343 : Int) < b) = true := by simp; omega
                  rw [he]
                  clear hR he e5'
                  go_enter Tryz.func251, Tryz.ntmps251
                  go_wp2_with (first
                    | (go_at_call 258; (with_reducible show Calls Tryz.prog 258 #[.string s, .int .i64 ((i : Int) + 6)] _ _); refine (hb2 _).mono ?_; rintro e w1 ⟨rfl, rfl⟩)
                    | (go_at_call 258; (with_reducible show Calls Tryz.prog 258 #[.string s, .int .i64 (i : Int)] _ _); refine (ha _).mono ?_; rintro e w1 ⟨rfl, rfl⟩)
                    | (go_at_call 252; refine (h92 _).mono ?_; rintro e w1 ⟨rfl, rfl⟩))
                  go_ret2
                  exact ⟨rfl, Below.refl _ _⟩
                · have he := escV_some (l := s.data.toList) (i := i) (x := (a - 55296) * 1024 + b - 56320 + 65536) (m := 11) (by rw [hR, if_pos ⟨a2, e5', by omega, by omega⟩]) (by decide)
                  have x2 : decide ((57343 : Int) < b) = false := by simp; omega
                  have hl := hl11 (by omega)
                  have hpe : (a - 55296) * 1024 + b - 56320 + 65536 = 65536 + 1024 * (a - 55296) + b - 56320 := by omega
                  rw [hpe] at he
                  have hpt : IsPoint (65536 + 1024 * (a - 55296) + b - 56320) := by unfold IsPoint; omega
                  rw [he]
                  clear hR he e5' hpe
                  go_enter Tryz.func251, Tryz.ntmps251
                  go_wp2_with (first
                    | (go_at_call 258; (with_reducible show Calls Tryz.prog 258 #[.string s, .int .i64 ((i : Int) + 6)] _ _); refine (hb2 _).mono ?_; rintro e w1 ⟨rfl, rfl⟩)
                    | (go_at_call 258; (with_reducible show Calls Tryz.prog 258 #[.string s, .int .i64 (i : Int)] _ _); refine (ha _).mono ?_; rintro e w1 ⟨rfl, rfl⟩)
                    | (go_at_call 252; refine (h92 _).mono ?_; rintro e w1 ⟨rfl, rfl⟩)
                    | (go_at_call 259; refine (point_any _ _ hpt).mono ?_; rintro e w2 ⟨rfl, hb⟩))
                  go_ret2
                  exact ⟨rfl, hb⟩
          · have v1 : decide ((56320 : Int) ≤ a) = true := by simp; omega
            have he := escV_none (l := s.data.toList) (i := i) (by rw [hR, if_neg]; rintro ⟨h, _⟩; exact a2 h)
            rw [he]
            clear hR he hbx
            go_enter Tryz.func251, Tryz.ntmps251
            go_wp2_with (first
              | (go_at_call_of 258 (Value.int .i64 (i : Int)); refine (ha _).mono ?_; rintro e w1 ⟨rfl, rfl⟩)
              | (go_at_call 252; refine (h92 _).mono ?_; rintro e w1 ⟨rfl, rfl⟩))
            go_ret2
            exact ⟨rfl, Below.refl _ _⟩
  · have hd : s.data.toList.drop i = [] := List.drop_eq_nil_of_le (by rw [← Lib.size_eq]; omega)
    have he : escV s.data.toList i = .tuple #[.string ⟨#[]⟩, .int .i64 0] := escV_none (by rw [hd]; rfl)
    have hi' : (s.size : Int) ≤ (i : Int) := by omega
    rw [he]
    clear hd he
    go_enter Tryz.func251, Tryz.ntmps251
    go_wp2
    go_ret2
    exact ⟨rfl, Below.refl _ _⟩
end Go.Proofs.Jt
/- R9: The walk of the reference's quoted. -/
namespace Go.Proofs.Jt
open Go.RowKit Go.Proofs Go.Lib Go.Proofs.Utf

def quV (Q : Option (List UInt8 × Nat)) (i : Nat) : Value := match Q with | none => .tuple #[.string ⟨#[]⟩, .int .i64 0] | some r => .tuple #[.string ⟨r.1.toArray⟩, .int .i64 ((i + r.2 : Nat) : Int)]
def qAt (l A : List UInt8) (j : Nat) : Option (List UInt8 × Nat) := (qq (l.drop j)).map fun r => (A ++ r.1, j + r.2)
theorem append_list (A B : ByteArray) : (A ++ B).data.toList = A.data.toList ++ B.data.toList := by
  rw [ByteArray.data_append, Array.toList_append]
set_option maxRecDepth 100000 in
set_option maxHeartbeats 2000000 in
theorem quoted_ref (s : ByteArray) (i : Nat) (w : World) (hs : s.size ≤ 16777216) (hi : i < s.size) : Calls Tryz.prog 234 #[.string s, .int .i64 i] w fun e w' => e = .returned (quV (qAt s.data.toList [] (i + 1)) 0) ∧ Below w.heap.size w w' := by
  obtain ⟨Q, hQ⟩ : ∃ Q, qAt s.data.toList [] (i + 1) = Q := ⟨_, rfl⟩
  rw [hQ]
  have hesc := fun j hj w => escape_any s j w hs hj
  have HQ := Lib.hid hQ
  clear hQ
  go_enter Tryz.func234, Tryz.ntmps234
  go_wp2
  go_loopw [1, 6, 7, 8] (fun v a _ _ wr => ∃ (j : Nat) (A : ByteArray), v = .int .i64 j ∧ a = .string A ∧ j ≤ s.size ∧ A.size ≤ 4 * j ∧ qAt s.data.toList A.data.toList j = Q ∧ Below w.heap.size w wr) (fun v _ _ _ _ => s.size - (RowKit.intOf v).toNat)
  case atStart => exact ⟨i + 1, ⟨#[]⟩, by go_num, rfl, by omega, by simp [ByteArray.size], HQ.out, Below.refl _ _⟩
  case round =>
    obtain ⟨j, A, rfl, rfl, hj, hAs, hq, hB⟩ := hrel
    have HQ2 := Lib.hid hq
    clear hq
    by_cases hlt : (j : Int) < (s.size : Int)
    · have hj' : j < s.size := by omega
      have hdc := rdrop_cons s j hj'
      have hcut : (s.extract j (j + 1)).data.toList = [s[j]] := by
        rw [Lib.extract_data, hdc]
        simp
      by_cases h34 : s[j] = 34
      · have t1 : ((s[j].toNat : Int) == 34) = true := by rw [h34]; rfl
        have hr : Q = some (A.data.toList, j + 1) := by
          rw [← HQ2.out]
          unfold qAt
          rw [hdc, h34, qq_end]
          simp
        have hA : (⟨A.data.toList.toArray⟩ : ByteArray) = A := by simp
        have HR := Lib.hid hr
        have HA := Lib.hid hA
        clear hdc hcut h34 hesc hr hA
        go_wp2
        go_ret2
        refine ⟨rret_val ?_, hB⟩
        rw [HR.out]
        simp [quV]
      · have t1 : ((s[j].toNat : Int) == 34) = false := byte_not h34
        by_cases h32 : s[j].toNat < 32
        · have t2 : decide ((s[j].toNat : Int) < 32) = true := by simp; omega
          have hr : Q = none := by
            rw [← HQ2.out]
            unfold qAt
            rw [hdc, qq_ctl _ _ h32]
            rfl
          have HR := Lib.hid hr
          clear hdc hcut h34 hesc hr h32
          go_wp2
          go_ret2
          refine ⟨rret_val ?_, hB⟩
          rw [HR.out]
          rfl
        · have t2 : decide ((s[j].toNat : Int) < 32) = false := by simp; omega
          by_cases h92 : s[j] = 92
          · have t3 : ((s[j].toNat : Int) != 92) = false := by rw [h92]; rfl
            have hc : ∀ w, Calls Tryz.prog 251 #[.string s, .int .i64 ((j : Int) + 1)] w fun e w' => e = .returned (escV s.data.toList (j + 1)) ∧ Below w.heap.size w w' := fun w => hesc (j + 1) (by omega) w
            have hqe := qq_esc (s.data.toList.drop (j + 1))
            rw [← h92, ← hdc] at hqe
            have hasc := esc_ascii (s.data.toList.drop (j + 1))
            have hle := esc_le (s.data.toList.drop (j + 1))
            rw [List.length_drop, ← Lib.size_eq] at hle
            obtain ⟨x, m, hxm⟩ : ∃ x m, escR (s.data.toList.drop (j + 1)) = (x, m) := ⟨_, _, rfl⟩
            rw [hxm] at hqe hasc hle
            simp only at hqe hasc hle
            by_cases hm : m = 0
            · rw [if_pos hm] at hqe
              have hr : Q = none := by
                rw [← HQ2.out]
                unfold qAt
                rw [hqe]
                rfl
              have hev : escV s.data.toList (j + 1) = .tuple #[.string ⟨#[]⟩, .int .i64 0] := escV_none (by rw [hxm]; exact hm)
              rw [hev] at hc
              have HR := Lib.hid hr
              clear hdc hcut h34 hesc hr h32 h92 hqe hasc hle hxm hev hm
              go_wp2_with (first | (go_at_call 251; refine (hc _).mono ?_; rintro e w1 ⟨rfl, hb1⟩))
              go_ret2
              refine ⟨rret_val ?_, hB.trans (hb1.mono hB.size)⟩
              rw [HR.out]
              rfl
            · rw [if_neg hm] at hqe
              have hlen := enc_len4 x (hasc.2.1 hm)
              have hev : escV s.data.toList (j + 1) = .tuple #[.string ⟨(encodeRune x).toArray⟩, .int .i64 ((j + 1 + m : Nat) : Int)] := escV_some hxm hm
              rw [hev] at hc
              have hr : qAt s.data.toList (A ++ ⟨(encodeRune x).toArray⟩).data.toList (j + 1 + m) = Q := by
                rw [← HQ2.out, append_list]
                unfold qAt
                rw [hqe, Option.map_map, List.drop_drop]
                congr 1
                funext r
                simp only [Function.comp, List.append_assoc, Prod.mk.injEq, true_and]
                omega
              obtain ⟨E, hE⟩ : ∃ E : ByteArray, (⟨(encodeRune x).toArray⟩ : ByteArray) = E := ⟨_, rfl⟩
              have hEs : E.size ≤ 4 := by rw [← hE]; simpa [ByteArray.size] using hlen
              rw [hE] at hr hc
              obtain ⟨k, hk⟩ : ∃ k, j + 1 + m = k := ⟨_, rfl⟩
              rw [hk] at hr hc
              have HR := Lib.hid hr
              have u1 : ((k : Int) == 0) = false := beq_eq_false_iff_ne.2 (by omega)
              have hk1 : j + 2 ≤ k := by omega
              have hk2 : k ≤ s.size := by omega
              clear hdc hcut h34 hesc hr h32 h92 hqe hasc hle hxm hev hm hlen hE hk
              go_wp2_with (first | (go_at_call 251; refine (hc _).mono ?_; rintro e w1 ⟨rfl, hb1⟩))
              go_roundw
              case rel => exact ⟨k, _, rfl, rfl, by omega, by rw [ByteArray.size_append]; omega, HR.out, hB.trans (hb1.mono hB.size)⟩
              case measure => simp [RowKit.intOf]; omega
          · have t3 : ((s[j].toNat : Int) != 92) = true := by simp only [bne, show ((s[j].toNat : Int) == 92) = false from byte_not h92, Bool.not_false]
            have hr : qAt s.data.toList (A ++ s.extract j (j + 1)).data.toList (j + 1) = Q := by
              rw [← HQ2.out, append_list, hcut]
              unfold qAt
              rw [hdc, qq_byte _ _ h34 h32 h92, Option.map_map]
              congr 1
              funext r
              simp only [Function.comp, List.append_assoc, List.singleton_append, Prod.mk.injEq, true_and]
              omega
            have HR := Lib.hid hr
            have hes : (s.extract j (j + 1)).size = 1 := by rw [ByteArray.size_extract]; omega
            clear hdc hcut h34 hesc hr h32 h92
            go_wp2
            go_roundw
            case rel => exact ⟨j + 1, _, by go_num, rfl, by omega, by rw [ByteArray.size_append, hes]; omega, HR.out, hB⟩
            case measure => simp [RowKit.intOf]; omega
    · have hd : s.data.toList.drop j = [] := List.drop_eq_nil_of_le (by rw [← Lib.size_eq]; omega)
      have hr : Q = none := by
        rw [← HQ2.out]
        unfold qAt
        rw [hd, qq_nil]
        rfl
      have HR := Lib.hid hr
      clear hd hesc hr
      go_wp2
      go_ret2
      refine ⟨rret_val ?_, hB⟩
      rw [HR.out]
      rfl
end Go.Proofs.Jt
/- RD: Merged texts: R10, R10b, R11, R12. -/
/- R10: The walk of the reference's Next. Printed by gen_r10.py. -/
namespace Go.Proofs.Jt
open Go.RowKit Go.Proofs Go.Lib Go.Proofs.Utf

def nxIs (l : List UInt8) (i : Nat) (v : Value) : Prop :=
 match nextL (l.drop i) with
 | some r => v = .agg #[.int .i64 (r.1 : Nat), .string ⟨r.2.1.toArray⟩, .int .i64 (i : Nat), .int .i64 ((i + r.2.2 : Nat) : Int)]
 | none => ∃ (k : Int) (x : ByteArray) (f : Int), v = .agg #[.int .i64 k, .string x, .int .i64 f, .int .i64 0] ∧ k ≠ 3
theorem nx_some {l : List UInt8} {i : Nat} {v : Value} {k : Nat} {x : List UInt8} {m : Nat} (h : nextL (l.drop i) = some (k, x, m)) (hv : v = .agg #[.int .i64 (k : Nat), .string ⟨x.toArray⟩, .int .i64 (i : Nat), .int .i64 ((i + m : Nat) : Int)]) : nxIs l i v := by
 unfold nxIs; rw [h]; exact hv
theorem nx_none {l : List UInt8} {i : Nat} {v : Value} (h : nextL (l.drop i) = none) {k : Int} {x : ByteArray} {f : Int} (hv : v = .agg #[.int .i64 k, .string x, .int .i64 f, .int .i64 0]) (hk : k ≠ 3) : nxIs l i v := by
 unfold nxIs; rw [h]; exact ⟨k, x, f, hv, hk⟩
theorem cut_arr (s : ByteArray) (i m : Nat) : (⟨((s.data.toList.drop i).take m).toArray⟩ : ByteArray) = s.extract i (i + m) := by
 apply ByteArray.ext
 apply Array.toList_inj.1
 rw [Lib.extract_data, Nat.add_sub_cancel_left]
theorem bcell {W w1 : World} (hb : Below W.heap.size W w1) : (∀ b o, b < W.heap.size → w1.cell? ⟨b, o, none⟩ = W.cell? ⟨b, o, none⟩) ∧ (∀ b o, b < W.heap.size → w1.frozen? ⟨b, o, none⟩ = W.frozen? ⟨b, o, none⟩) :=
 ⟨fun b o h => hb.cell (p := ⟨b, o, none⟩) h, fun b o h => hb.frozen (p := ⟨b, o, none⟩) h⟩
def Nx (s : ByteArray) (i : Nat) (w : World) (e : Ending) (w' : World) : Prop := ∃ v, e = .returned v ∧ nxIs s.data.toList i v ∧ Below w.heap.size w w'
theorem mark_six {c : UInt8} (h : isMarkB c = true) : c = 123 ∨ c = 125 ∨ c = 91 ∨ c = 93 ∨ c = 58 ∨ c = 44 := by
 have : ∀ c : UInt8, isMarkB c = true → c = 123 ∨ c = 125 ∨ c = 91 ∨ c = 93 ∨ c = 58 ∨ c = 44 := forall_u8 (by decide +kernel)
 exact this c h
theorem mark_none {c : UInt8} (h : isMarkB c = false) : c ≠ 123 ∧ c ≠ 125 ∧ c ≠ 91 ∧ c ≠ 93 ∧ c ≠ 58 ∧ c ≠ 44 := by
 have : ∀ c : UInt8, isMarkB c = false → c ≠ 123 ∧ c ≠ 125 ∧ c ≠ 91 ∧ c ≠ 93 ∧ c ≠ 58 ∧ c ≠ 44 := forall_u8 (by decide +kernel)
 exact this c h
set_option maxRecDepth 100000 in
set_option maxHeartbeats 2000000 in
theorem next_mark (s : ByteArray) (i : Nat) (w : World) (hs : s.size ≤ 16777216) (hi : i < s.size) (hm : isMarkB s[i] = true) : Calls Tryz.prog 200 #[.string s, .int .i64 i] w (Nx s i w) := by
 have hn : nextL (s.data.toList.drop i) = some (1, [s[i]], 1) := by rw [rdrop_cons s i hi, nextL_cons, if_pos hm]
 have hx : (⟨[s[i]].toArray⟩ : ByteArray) = s.extract i (i + 1) := by rw [← cut_arr, rdrop_cons s i hi]; rfl
 have hv : ∀ v, v = .agg #[.int .i64 1, .string (s.extract i (i + 1)), .int .i64 (i : Nat), .int .i64 ((i : Int) + 1)] → nxIs s.data.toList i v := fun v h => nx_some hn (by rw [h, hx]; rfl)
 have hi' : (i : Int) < (s.size : Int) := by omega
 have HV := Lib.hid hv
 clear hn hx hv
 rcases mark_six hm with h0 | h1 | h2 | h3 | h4 | h5
 · as_aux_lemma =>
    have t0 : ((s[i].toNat : Int) == 123) = true := by rw [h0]; rfl
    clear hm h0
    go_enter Tryz.func200, Tryz.ntmps200
    go_wp2_with (fail)
    exact bodyPost_ret (v := .agg #[.int .i64 1, .string (s.extract i (i + 1)), .int .i64 (i : Nat), .int .i64 ((i : Int) + 1)]) (by simp [results, Tryz.results200, go_sem]) rfl ⟨_, rfl, HV.out _ rfl, (Below.refl _ _).alloc (Nat.le_refl _) _⟩
 · as_aux_lemma =>
    have t0 : ((s[i].toNat : Int) == 123) = false := by rw [h1]; rfl
    have t1 : ((s[i].toNat : Int) == 125) = true := by rw [h1]; rfl
    clear hm h1
    go_enter Tryz.func200, Tryz.ntmps200
    go_wp2_with (fail)
    exact bodyPost_ret (v := .agg #[.int .i64 1, .string (s.extract i (i + 1)), .int .i64 (i : Nat), .int .i64 ((i : Int) + 1)]) (by simp [results, Tryz.results200, go_sem]) rfl ⟨_, rfl, HV.out _ rfl, (Below.refl _ _).alloc (Nat.le_refl _) _⟩
 · as_aux_lemma =>
    have t0 : ((s[i].toNat : Int) == 123) = false := by rw [h2]; rfl
    have t1 : ((s[i].toNat : Int) == 125) = false := by rw [h2]; rfl
    have t2 : ((s[i].toNat : Int) == 91) = true := by rw [h2]; rfl
    clear hm h2
    go_enter Tryz.func200, Tryz.ntmps200
    go_wp2_with (fail)
    exact bodyPost_ret (v := .agg #[.int .i64 1, .string (s.extract i (i + 1)), .int .i64 (i : Nat), .int .i64 ((i : Int) + 1)]) (by simp [results, Tryz.results200, go_sem]) rfl ⟨_, rfl, HV.out _ rfl, (Below.refl _ _).alloc (Nat.le_refl _) _⟩
 · as_aux_lemma =>
    have t0 : ((s[i].toNat : Int) == 123) = false := by rw [h3]; rfl
    have t1 : ((s[i].toNat : Int) == 125) = false := by rw [h3]; rfl
    have t2 : ((s[i].toNat : Int) == 91) = false := by rw [h3]; rfl
    have t3 : ((s[i].toNat : Int) == 93) = true := by rw [h3]; rfl
    clear hm h3
    go_enter Tryz.func200, Tryz.ntmps200
    go_wp2_with (fail)
    exact bodyPost_ret (v := .agg #[.int .i64 1, .string (s.extract i (i + 1)), .int .i64 (i : Nat), .int .i64 ((i : Int) + 1)]) (by simp [results, Tryz.results200, go_sem]) rfl ⟨_, rfl, HV.out _ rfl, (Below.refl _ _).alloc (Nat.le_refl _) _⟩
 · as_aux_lemma =>
    have t0 : ((s[i].toNat : Int) == 123) = false := by rw [h4]; rfl
    have t1 : ((s[i].toNat : Int) == 125) = false := by rw [h4]; rfl
    have t2 : ((s[i].toNat : Int) == 91) = false := by rw [h4]; rfl
    have t3 : ((s[i].toNat : Int) == 93) = false := by rw [h4]; rfl
    have t4 : ((s[i].toNat : Int) == 58) = true := by rw [h4]; rfl
    clear hm h4
    go_enter Tryz.func200, Tryz.ntmps200
    go_wp2_with (fail)
    exact bodyPost_ret (v := .agg #[.int .i64 1, .string (s.extract i (i + 1)), .int .i64 (i : Nat), .int .i64 ((i : Int) + 1)]) (by simp [results, Tryz.results200, go_sem]) rfl ⟨_, rfl, HV.out _ rfl, (Below.refl _ _).alloc (Nat.le_refl _) _⟩
 · as_aux_lemma =>
    have t0 : ((s[i].toNat : Int) == 123) = false := by rw [h5]; rfl
    have t1 : ((s[i].toNat : Int) == 125) = false := by rw [h5]; rfl
    have t2 : ((s[i].toNat : Int) == 91) = false := by rw [h5]; rfl
    have t3 : ((s[i].toNat : Int) == 93) = false := by rw [h5]; rfl
    have t4 : ((s[i].toNat : Int) == 58) = false := by rw [h5]; rfl
    have t5 : ((s[i].toNat : Int) == 44) = true := by rw [h5]; rfl
    clear hm h5
    go_enter Tryz.func200, Tryz.ntmps200
    go_wp2_with (fail)
    exact bodyPost_ret (v := .agg #[.int .i64 1, .string (s.extract i (i + 1)), .int .i64 (i : Nat), .int .i64 ((i : Int) + 1)]) (by simp [results, Tryz.results200, go_sem]) rfl ⟨_, rfl, HV.out _ rfl, (Below.refl _ _).alloc (Nat.le_refl _) _⟩
set_option maxRecDepth 100000 in
set_option maxHeartbeats 2000000 in
theorem next_str (s : ByteArray) (i : Nat) (w : World) (hs : s.size ≤ 16777216) (hi : i < s.size) (hm : s[i] = 34) : Calls Tryz.prog 200 #[.string s, .int .i64 i] w (Nx s i w) := by
 have hq := fun w => quoted_ref s i w hs hi
 have hi' : (i : Int) < (s.size : Int) := by omega
 have hn : nextL (s.data.toList.drop i) = (qq (s.data.toList.drop (i + 1))).map fun r => (4, r.1, r.2 + 1) := by
  rw [rdrop_cons s i hi, nextL_cons, if_neg (by rw [hm]; decide), if_pos hm]
 have t0 : ((s[i].toNat : Int) == 123) = false := by rw [hm]; rfl
 have t1 : ((s[i].toNat : Int) == 125) = false := by rw [hm]; rfl
 have t2 : ((s[i].toNat : Int) == 91) = false := by rw [hm]; rfl
 have t3 : ((s[i].toNat : Int) == 93) = false := by rw [hm]; rfl
 have t4 : ((s[i].toNat : Int) == 58) = false := by rw [hm]; rfl
 have t5 : ((s[i].toNat : Int) == 44) = false := by rw [hm]; rfl
 have t6 : ((s[i].toNat : Int) == 34) = true := by rw [hm]; rfl
 cases hqq : qq (s.data.toList.drop (i + 1)) with
 | none =>
  have hv : ∀ v, v = .agg #[.int .i64 4, .string ⟨#[]⟩, .int .i64 (i : Nat), .int .i64 0] → nxIs s.data.toList i v := fun v h => nx_none (by rw [hn, hqq]; rfl) h (by decide)
  have HV := Lib.hid hv
  have he : quV (qAt s.data.toList [] (i + 1)) 0 = .tuple #[.string ⟨#[]⟩, .int .i64 0] := by unfold qAt; rw [hqq]; rfl
  rw [he] at hq
  clear hn hv hm hqq he
  go_enter Tryz.func200, Tryz.ntmps200
  go_wp2_with (first
   | (go_at_call 234; refine (hq _).mono ?_; rintro e w1 ⟨rfl, hb1⟩
      obtain ⟨hc, hf⟩ := bcell hb1
      have hz := hb1.size
      simp at hz))
  exact bodyPost_ret (v := .agg #[.int .i64 4, .string ⟨#[]⟩, .int .i64 (i : Nat), .int .i64 0]) (by simp [results, Tryz.results200, go_sem, hc]) rfl ⟨_, rfl, HV.out _ rfl, (((((((Below.refl _ _).alloc (Nat.le_refl _) _).trans (hb1.mono (by simp))).setCell (Nat.le_refl _) _).setCell (Nat.le_refl _) _).setCell (Nat.le_refl _) _).setCell (Nat.le_refl _) _)⟩
 | some r =>
  have he : quV (qAt s.data.toList [] (i + 1)) 0 = .tuple #[.string ⟨r.1.toArray⟩, .int .i64 ((i + 1 + r.2 : Nat) : Int)] := by unfold qAt; rw [hqq]; simp [quV]
  have hv : ∀ v, v = .agg #[.int .i64 4, .string ⟨r.1.toArray⟩, .int .i64 (i : Nat), .int .i64 ((i + 1 + r.2 : Nat) : Int)] → nxIs s.data.toList i v := fun v h => by
   refine nx_some (k := 4) (x := r.1) (m := r.2 + 1) (by rw [hn, hqq]; rfl) ?_
   rw [h, show i + (r.2 + 1) = i + 1 + r.2 by omega]
   rfl
  rw [he] at hq
  obtain ⟨q, hqe⟩ : ∃ q, i + 1 + r.2 = q := ⟨_, rfl⟩
  obtain ⟨X, hX⟩ : ∃ X : ByteArray, (⟨r.1.toArray⟩ : ByteArray) = X := ⟨_, rfl⟩
  simp only [hqe, hX] at hq hv
  have HV := Lib.hid hv
  clear hn hv hm hqq he hqe hX
  go_enter Tryz.func200, Tryz.ntmps200
  go_wp2_with (first
   | (go_at_call 234; refine (hq _).mono ?_; rintro e w1 ⟨rfl, hb1⟩
      obtain ⟨hc, hf⟩ := bcell hb1
      have hz := hb1.size
      simp at hz))
  exact bodyPost_ret (v := .agg #[.int .i64 4, .string X, .int .i64 (i : Nat), .int .i64 q]) (by simp [results, Tryz.results200, go_sem, hc]) rfl ⟨_, rfl, HV.out _ rfl, (((((((Below.refl _ _).alloc (Nat.le_refl _) _).trans (hb1.mono (by simp))).setCell (Nat.le_refl _) _).setCell (Nat.le_refl _) _).setCell (Nat.le_refl _) _).setCell (Nat.le_refl _) _)⟩
end Go.Proofs.Jt
/- R10b: The walk of the reference's Next at words and numbers. Printed by gen_r10.py. -/
namespace Go.Proofs.Jt
open Go.RowKit Go.Proofs Go.Lib Go.Proofs.Utf

set_option maxRecDepth 100000 in
set_option maxHeartbeats 4000000 in
theorem next_other (s : ByteArray) (i : Nat) (w : World) (hs : s.size ≤ 16777216) (hi : i < s.size) (hm : isMarkB s[i] = false) (h34 : s[i] ≠ 34) : Calls Tryz.prog 200 #[.string s, .int .i64 i] w (Nx s i w) := by
 have hi' : (i : Int) < (s.size : Int) := by omega
 have hnb := fun w => numbered_any s i w hs (by omega)
 have hn : nextL (s.data.toList.drop i) = if 0 < wordN (s.data.toList.drop i) then some (2, (s.data.toList.drop i).take (wordN (s.data.toList.drop i)), wordN (s.data.toList.drop i)) else if 0 < numN (s.data.toList.drop i) then some (3, (s.data.toList.drop i).take (numN (s.data.toList.drop i)), numN (s.data.toList.drop i)) else none := by
  rw [rdrop_cons s i hi, nextL_cons, if_neg (by rw [hm]; decide), if_neg h34]
 obtain ⟨m0, m1, m2, m3, m4, m5⟩ := mark_none hm
 have t0 : ((s[i].toNat : Int) == 123) = false := byte_not m0
 have t1 : ((s[i].toNat : Int) == 125) = false := byte_not m1
 have t2 : ((s[i].toNat : Int) == 91) = false := byte_not m2
 have t3 : ((s[i].toNat : Int) == 93) = false := byte_not m3
 have t4 : ((s[i].toNat : Int) == 58) = false := byte_not m4
 have t5 : ((s[i].toNat : Int) == 44) = false := byte_not m5
 have t6 : ((s[i].toNat : Int) == 34) = false := byte_not h34
 have hnA := nAll_eq s.data.toList i
 have hnl := numN_le (s.data.toList.drop i)
 rw [List.length_drop, ← Lib.size_eq] at hnl
 obtain ⟨N, hN⟩ : ∃ N, numN (s.data.toList.drop i) = N := ⟨_, rfl⟩
 rw [hN] at hnA hnl
 simp only [hnA] at hnb
 simp only [hN] at hn
 -- what is answered, by the run of small letters
 have hword : ∀ k, i ≤ k → run isLow (s.data.toList.drop i) = k - i → isWord ((s.data.toList.drop i).take (k - i)) = true → ∀ v, v = .agg #[.int .i64 2, .string (s.extract i k), .int .i64 (i : Nat), .int .i64 (k : Nat)] → nxIs s.data.toList i v := fun k hk hr hw v hv => by
  have hwn : wordN (s.data.toList.drop i) = k - i := by unfold wordN; rw [hr, if_pos hw]
  have hpos : 0 < k - i := by
   rcases Nat.eq_zero_or_pos (k - i) with h | h
   · rw [h, List.take_zero] at hw; exact absurd hw (by decide)
   · exact h
  rw [hwn, if_pos hpos] at hn
  refine nx_some hn ?_
  rw [hv, cut_arr, show i + (k - i) = k by omega]
  rfl
 have hnum : ∀ k, i ≤ k → run isLow (s.data.toList.drop i) = k - i → isWord ((s.data.toList.drop i).take (k - i)) = false → 0 < N → ∀ v, v = .agg #[.int .i64 3, .string (s.extract i (i + N)), .int .i64 (i : Nat), .int .i64 ((i + N : Nat) : Int)] → nxIs s.data.toList i v := fun k hk hr hw hp v hv => by
  have hwn : wordN (s.data.toList.drop i) = 0 := by unfold wordN; rw [hr, if_neg (by rw [hw]; decide)]
  rw [hwn, if_neg (by omega), if_pos hp] at hn
  refine nx_some hn ?_
  rw [hv, cut_arr]
  rfl
 have hnone : ∀ k, i ≤ k → run isLow (s.data.toList.drop i) = k - i → isWord ((s.data.toList.drop i).take (k - i)) = false → ¬ 0 < N → ∀ v, v = .agg #[.int .i64 0, .string ⟨#[]⟩, .int .i64 0, .int .i64 0] → nxIs s.data.toList i v := fun k hk hr hw hp v hv => by
  have hwn : wordN (s.data.toList.drop i) = 0 := by unfold wordN; rw [hr, if_neg (by rw [hw]; decide)]
  rw [hwn, if_neg (by omega), if_neg hp] at hn
  exact nx_none hn hv (by decide)
 have HW := Lib.hid hword
 have HN := Lib.hid hnum
 have HO := Lib.hid hnone
 clear hn hnA hN hword hnum hnone m0 m1 m2 m3 m4 m5 hm h34
 go_enter Tryz.func200, Tryz.ntmps200
 go_wp2_with (fail)
 go_loop [7] (fun v => ∃ k : Nat, v = .int .i64 k ∧ i ≤ k ∧ k ≤ s.size ∧ run isLow (s.data.toList.drop i) = (k - i) + run isLow (s.data.toList.drop k)) (fun v => s.size - (RowKit.intOf v).toNat)
 case atStart => exact ⟨i, rfl, Nat.le_refl _, by omega, by omega⟩
 case round =>
  obtain ⟨k, rfl, hik, hks, hrun⟩ := hrel
  have hra := run_at isLow s.data.toList k
  by_cases hgo : ∃ h : k < s.size, isLow s[k] = true
  · obtain ⟨hk, hl⟩ := hgo
    have hr2 : run isLow (s.data.toList.drop i) = (k + 1 - i) + run isLow (s.data.toList.drop (k + 1)) := by
     rw [list_get s k hk] at hra
     simp only [hl, if_true] at hra
     omega
    have HR := Lib.hid hr2
    unfold isLow at hl
    have hl2 := of_decide_eq_true hl
    have u0 : (k : Int) < (s.size : Int) := by omega
    have u1 : decide ((97 : Int) ≤ (s[k].toNat : Int)) = true := by simp; omega
    have u2 : decide ((s[k].toNat : Int) ≤ 122) = true := by simp; omega
    clear hl hl2 hra hrun hr2 hnb
    go_wp2_with (fail)
    go_round
    case rel => exact ⟨k + 1, by go_num, by omega, by omega, HR.out⟩
    case measure => simp [RowKit.intOf]; omega
  · have hr0 : run isLow (s.data.toList.drop i) = k - i := by
     have : run isLow (s.data.toList.drop k) = 0 := by
      by_cases hk : k < s.size
      · rw [list_get s k hk] at hra
        have hl : isLow s[k] = false := by
         cases h : isLow s[k] with
         | false => rfl
         | true => exact absurd ⟨hk, h⟩ hgo
        simpa [hl] using hra
      · rw [list_none s k hk] at hra
        exact hra
     omega
    have hways : (¬ (k : Int) < (s.size : Int)) ∨ (∃ h : k < s.size, (decide ((97 : Int) ≤ (s[k].toNat : Int)) = false ∨ (decide ((97 : Int) ≤ (s[k].toNat : Int)) = true ∧ decide ((s[k].toNat : Int) ≤ 122) = false))) := by
     by_cases hk : k < s.size
     · right
       refine ⟨hk, ?_⟩
       have hl : ¬ isLow s[k] = true := fun h => hgo ⟨hk, h⟩
       unfold isLow at hl
       rw [decide_eq_true_eq] at hl
       simp only [decide_eq_false_iff_not, decide_eq_true_eq]
       omega
     · left; omega
    have HW2 := Lib.hid (HW.out k hik hr0)
    have HN2 := Lib.hid (HN.out k hik hr0)
    have HO2 := Lib.hid (HO.out k hik hr0)
    have hx : (s.extract i k).toList = (s.data.toList.drop i).take (k - i) := by
     rw [ByteArray.toList_eq, Lib.extract_data]
    clear hra hrun hgo hr0 HW HN HO
    have hways2 : isWord ((s.data.toList.drop i).take (k - i)) = true ∨ isWord ((s.data.toList.drop i).take (k - i)) = false := by cases isWord ((s.data.toList.drop i).take (k - i)) <;> simp
    rcases hways2 with hw | hw
    · have HV := Lib.hid (HW2.out hw)
      rw [← hx] at hw
      unfold isWord at hw
      have hcs := of_decide_eq_true hw
      simp only [wTrue, wFalse, wNull] at hcs
      clear hw HW2 HN2 HO2 hx hnb
      rcases hcs with e1 | e1 | e1 <;> rcases hways with u0 | ⟨hk, u1 | ⟨u1, u2⟩⟩
      all_goals as_aux_lemma =>
       have i0 : (i : Int) ≤ (k : Int) := by omega
       first | (have u0 : (k : Int) < (s.size : Int) := by omega) | skip
       go_wp2_with (fail)
       exact bodyPost_ret (v := .agg #[.int .i64 2, .string (s.extract i k), .int .i64 (i : Nat), .int .i64 (k : Nat)]) (by simp [results, Tryz.results200, go_sem]) rfl ⟨_, rfl, HV.out _ rfl, (Below.refl _ _).alloc (Nat.le_refl _) _⟩
    · have HV := Lib.hid (HN2.out hw)
      have HV2 := Lib.hid (HO2.out hw)
      rw [← hx] at hw
      unfold isWord at hw
      have hcs := of_decide_eq_false hw
      simp only [wTrue, wFalse, wNull] at hcs
      have e1 : ((s.extract i k).toList == [116, 114, 117, 101]) = false := beq_eq_false_iff_ne.2 fun e => hcs (.inl e)
      have e2 : ((s.extract i k).toList == [102, 97, 108, 115, 101]) = false := beq_eq_false_iff_ne.2 fun e => hcs (.inr (.inl e))
      have e3 : ((s.extract i k).toList == [110, 117, 108, 108]) = false := beq_eq_false_iff_ne.2 fun e => hcs (.inr (.inr e))
      clear hw hcs HW2 HN2 HO2 hx
      by_cases hp : 0 < N
      · have HV3 := Lib.hid (HV.out hp)
        have p1 : decide (i < i + N) = true := by simp; omega
        clear HV HV2
        obtain ⟨q, hq⟩ : ∃ q, i + N = q := ⟨_, rfl⟩
        rw [hq] at HV3 p1
        simp only [hq] at hnb
        have q1 : (i : Int) ≤ (q : Int) := by omega
        have q2 : (q : Int) ≤ (s.size : Int) := by omega
        clear hq hp
        rcases hways with u0 | ⟨hk, u1 | ⟨u1, u2⟩⟩
        all_goals
         have i0 : (i : Int) ≤ (k : Int) := by omega
         first | (have u0 : (k : Int) < (s.size : Int) := by omega) | skip
         go_wp2_with (first
          | (go_at_call 235; refine (hnb _).mono ?_; rintro e w1 ⟨rfl, hw⟩; subst hw))
         exact bodyPost_ret (v := .agg #[.int .i64 3, .string (s.extract i q), .int .i64 (i : Nat), .int .i64 (q : Nat)]) (by simp [results, Tryz.results200, go_sem]) rfl ⟨_, rfl, HV3.out _ rfl, (Below.refl _ _).alloc (Nat.le_refl _) _⟩
      · have HV3 := Lib.hid (HV2.out hp)
        have hN0 : N = 0 := by omega
        rw [hN0, Nat.add_zero] at hnb
        have p1 : decide ((i : Int) < (i : Int)) = false := by simp
        clear HV HV2 hp hN0
        rcases hways with u0 | ⟨hk, u1 | ⟨u1, u2⟩⟩
        all_goals
         have i0 : (i : Int) ≤ (k : Int) := by omega
         first | (have u0 : (k : Int) < (s.size : Int) := by omega) | skip
         go_wp2_with (first
          | (go_at_call 235; refine (hnb _).mono ?_; rintro e w1 ⟨rfl, hw⟩; subst hw))
         exact bodyPost_ret (v := .agg #[.int .i64 0, .string ⟨#[]⟩, .int .i64 0, .int .i64 0]) (by simp [results, Tryz.results200, go_sem]) rfl ⟨_, rfl, HV3.out _ rfl, (Below.refl _ _).alloc (Nat.le_refl _) _⟩
/-- what the reference's Next answers -/
theorem next_any (s : ByteArray) (i : Nat) (w : World) (hs : s.size ≤ 16777216) (hi : i < s.size) : Calls Tryz.prog 200 #[.string s, .int .i64 i] w (Nx s i w) := by
 cases hm : isMarkB s[i] with
 | true => exact next_mark s i w hs hi hm
 | false =>
  by_cases h34 : s[i] = 34
  · exact next_str s i w hs hi h34
  · exact next_other s i w hs hi hm h34
end Go.Proofs.Jt
/- R11: The walk of the reference's Tokens. -/
namespace Go.Proofs.Jt
open Go.RowKit Go.Proofs Go.Lib Go.Proofs.Utf

theorem info31 : (Tryz.prog.info? 256).map (fun i => (i.zero, i.size, i.bytes)) = some (some (.agg #[.int .i64 0, .string ⟨#[]⟩, .int .i64 0, .int .i64 0]), 4, 40) := by kernel_rfl
theorem blank_four {c : UInt8} (h : isBlankB c = false) : c ≠ 32 ∧ c ≠ 9 ∧ c ≠ 10 ∧ c ≠ 13 := by
 have : ∀ c : UInt8, isBlankB c = false → c ≠ 32 ∧ c ≠ 9 ∧ c ≠ 10 ∧ c ≠ 13 := forall_u8 (by decide +kernel)
 exact this c h
set_option maxRecDepth 100000 in
set_option maxHeartbeats 4000000 in
theorem tokens_ref_valid (s : ByteArray) (w : World) (hs : s.size ≤ 16777216) (hv : validD s.data.toList = true) (R : List Tok × Nat × Nat) (hR : tt s.data.toList 0 [] = R) :
 Calls Tryz.prog 150 #[.string s] w fun e w' => ∃ v, e = .returned (.tuple #[v, .int .i64 (R.2.1 : Nat), .int .i64 (R.2.2 : Nat)]) ∧ w'.ownsRow w.heap.size 256 4 v R.1.length (tokCells R.1) ∧ Below w.heap.size w w' := by
 have hbr := broken_ref s w hs
 unfold brokenI at hbr
 rw [hv, if_pos rfl] at hbr
 have hnx := fun i hi w => next_any s i w hs hi
 clear hv
 go_enter Tryz.func150, Tryz.ntmps150
 go_wp2_with (first
  | (go_at_call 184; refine hbr.mono ?_; rintro e w1 ⟨rfl, hw⟩; subst hw))
 go_loopw [6, 7] (fun v a wr => ∃ (at_ : Nat) (toks : List Tok), a = .int .i64 at_ ∧ at_ ≤ s.size ∧ toks.length ≤ at_ ∧ wr.ownsRow w1.heap.size 256 4 v toks.length (tokCells toks) ∧ Below w1.heap.size w1 wr ∧ tt (s.data.toList.drop at_) at_ toks = R) (fun _ a _ => s.size - (RowKit.intOf a).toNat)
 case atStart => exact ⟨0, [], rfl, Nat.zero_le _, Nat.le_refl _, World.ownsRow_nil _ _ _ _, Below.refl _ _, hR⟩
 case round =>
  obtain ⟨at_, toks, rfl, hat, htl, hown, hB, htt⟩ := hrel
  have HR := Lib.hid htt
  clear htt
  by_cases hlt : (at_ : Int) < (s.size : Int)
  · have hlt' : at_ < s.size := by omega
    have hct := rdrop_cons s at_ hlt'
    have HCT := Lib.hid hct
    clear hct
    cases hbk : isBlankB s[at_] with
    | true =>
     have hr : tt (s.data.toList.drop (at_ + 1)) (at_ + 1) toks = R := by
      have e := HR.out
      rw [HCT.out, tt_blank _ _ _ _ hbk] at e
      exact e
     have HR2 := Lib.hid hr
     have hcs := blank_cases _ hbk
     clear hr hbk hnx
     rcases hcs with h | h | h | h
     · as_aux_lemma =>
        have t0 : ((s[at_].toNat : Int) == 32) = true := by rw [h]; rfl
        clear h
        go_wp2
        go_roundw
        case rel => exact ⟨at_ + 1, toks, by go_num, by omega, by omega, hown, hB, HR2.out⟩
        case measure => simp [RowKit.intOf]; omega
     · as_aux_lemma =>
        have t0 : ((s[at_].toNat : Int) == 32) = false := by rw [h]; rfl
        have t1 : ((s[at_].toNat : Int) == 9) = true := by rw [h]; rfl
        clear h
        go_wp2
        go_roundw
        case rel => exact ⟨at_ + 1, toks, by go_num, by omega, by omega, hown, hB, HR2.out⟩
        case measure => simp [RowKit.intOf]; omega
     · as_aux_lemma =>
        have t0 : ((s[at_].toNat : Int) == 32) = false := by rw [h]; rfl
        have t1 : ((s[at_].toNat : Int) == 9) = false := by rw [h]; rfl
        have t2 : ((s[at_].toNat : Int) == 10) = true := by rw [h]; rfl
        clear h
        go_wp2
        go_roundw
        case rel => exact ⟨at_ + 1, toks, by go_num, by omega, by omega, hown, hB, HR2.out⟩
        case measure => simp [RowKit.intOf]; omega
     · as_aux_lemma =>
        have t0 : ((s[at_].toNat : Int) == 32) = false := by rw [h]; rfl
        have t1 : ((s[at_].toNat : Int) == 9) = false := by rw [h]; rfl
        have t2 : ((s[at_].toNat : Int) == 10) = false := by rw [h]; rfl
        have t3 : ((s[at_].toNat : Int) == 13) = true := by rw [h]; rfl
        clear h
        go_wp2
        go_roundw
        case rel => exact ⟨at_ + 1, toks, by go_num, by omega, by omega, hown, hB, HR2.out⟩
        case measure => simp [RowKit.intOf]; omega
    | false =>
     obtain ⟨n0, n1, n2, n3⟩ := blank_four hbk
     have t0 : ((s[at_].toNat : Int) == 32) = false := byte_not n0
     have t1 : ((s[at_].toNat : Int) == 9) = false := byte_not n1
     have t2 : ((s[at_].toNat : Int) == 10) = false := byte_not n2
     have t3 : ((s[at_].toNat : Int) == 13) = false := byte_not n3
     have hc := hnx at_ hlt'
     unfold Nx nxIs at hc
     cases hx : nextL (s.data.toList.drop at_) with
     | none =>
      rw [hx] at hc
      simp only at hc
      have hr : ([], at_, 4) = R := by
       have e := HR.out
       rw [HCT.out] at hx e
       rw [tt_none _ _ _ _ hbk hx] at e
       exact e
      subst hr
      clear hnx hx hbk n0 n1 n2 n3
      go_wp2_with (first
       | (go_at_call 200; refine (hc _).mono ?_; rintro e w2 ⟨v, rfl, ⟨k, x, f, rfl, _⟩, hb2⟩))
      go_ret3
      exact ⟨_, rfl, World.ownsRow_nil _ _ _ _, (hB.trans (hb2.mono hB.size)).alloc (by have := hB.size; have := hb2.size; omega) _⟩
     | some r =>
      obtain ⟨k, x, m⟩ := r
      rw [hx] at hc
      simp only at hc
      have hm := nextL_le _ _ hx
      rw [List.length_drop, ← Lib.size_eq] at hm
      simp only at hm
      have hr : tt (s.data.toList.drop (at_ + m)) (at_ + m) (toks ++ [⟨k, x, at_, at_ + m⟩]) = R := by
       have e := HR.out
       rw [HCT.out] at hx e
       rw [tt_some _ _ _ _ hbk hx, ← HCT.out, List.drop_drop] at e
       exact e
      obtain ⟨q, hq⟩ : ∃ q, at_ + m = q := ⟨_, rfl⟩
      rw [hq] at hr hc
      have HR2 := Lib.hid hr
      have u1 : ((q : Int) == 0) = false := beq_eq_false_iff_ne.2 (by omega)
      have hq1 : q ≤ s.size := by omega
      have hq2 : at_ < q := by omega
      obtain ⟨i31_, hi31, hz0, hz1, hz2⟩ := info_parts info31
      clear hnx hx hbk n0 n1 n2 n3 hr hq hm
      go_wp2_with (first
       | (go_at_call 200; refine (hc _).mono ?_; rintro e w2 ⟨v, rfl, rfl, hb2⟩
          have own2 := own_below hown hb2
          have D2 : Below w1.heap.size w1 w2 := hB.trans (hb2.mono hB.size)
          have zz := D2.size)
       | (at_builtin; refine wpList_append_own _ rfl (.tmp 49) (.tmp 51) 212 rfl w1.heap.size 256 i31_ _ 4 40 Tryz.underlying212 hi31 hz0 hz1 hz2 rfl (by decide) _ _ _ rfl ((own2.alloc _).alloc _) ⟨w2.heap.size + 1, 0, none⟩ 1 1 [.int .i64 k, .string ⟨x.toArray⟩, .int .i64 at_, .int .i64 q] rfl rfl (cells_at_new _ [.int .i64 k, .string ⟨x.toArray⟩, .int .i64 at_, .int .i64 q] 256 _ (by simp)) (tok_ones _ _ _ _) (by unfold maxLen; omega) (by omega) (by simp; omega) ?_; intro v' w' hown' hg' hnil'
          have HD := ((D2.alloc zz _).alloc (by simp; omega) _).grown hg' (by simp; omega) (fun q hq => (own2.lt q hq).1)
          have hc3 : w'.cell? ⟨w2.heap.size, 3, none⟩ = some (.int .i64 q) := hg'.cell (by go_simp) (by
           intro e
           have := (own2.lt _ e.symm).2
           simp at this)
          clear hg' hnil'))
      go_roundw
      case rel =>
       refine ⟨q, toks ++ [⟨k, x, at_, q⟩], rfl, by omega, by simp; omega, ?_, HD, HR2.out⟩
       rw [tokCells_snoc]
       simpa [tokCell] using hown'
      case measure => simp [RowKit.intOf]; omega
  · have hd : s.data.toList.drop at_ = [] := List.drop_eq_nil_of_le (by rw [← Lib.size_eq]; omega)
    have e := HR.out
    rw [hd, tt_nil] at e
    have HE := Lib.hid e
    clear e
    obtain ⟨p, cap, rfl⟩ := row_shape hown
    go_wp2
    go_ret3
    rw [← HE.out]
    exact ⟨_, rfl, hown, hB⟩
/-- what the reference's Tokens answers -/
theorem tokens_ref (s : ByteArray) (w : World) (hs : s.size ≤ 16777216) :
 Calls Tryz.prog 150 #[.string s] w fun e w' => ∃ v, e = .returned (.tuple #[v, .int .i64 ((toksL s.data.toList).2.1 : Nat), .int .i64 ((toksL s.data.toList).2.2 : Nat)]) ∧ w'.ownsRow w.heap.size 256 4 v (toksL s.data.toList).1.length (tokCells (toksL s.data.toList).1) ∧ Below w.heap.size w w' := by
 unfold toksL
 cases hv : validD s.data.toList with
 | true => exact tokens_ref_valid s w hs hv _ rfl
 | false =>
  have hbr := broken_ref s w hs
  unfold brokenI at hbr
  rw [hv, if_neg (by decide)] at hbr
  rw [if_neg (by decide)]
  show Calls Tryz.prog 150 #[.string s] w fun e w' => ∃ v, e = .returned (.tuple #[v, .int .i64 (br s.data.toList 0 : Nat), .int .i64 8]) ∧ w'.ownsRow w.heap.size 256 4 v 0 [] ∧ Below w.heap.size w w'
  clear hv
  go_enter Tryz.func150, Tryz.ntmps150
  go_wp2_with (first
   | (go_at_call 184; refine hbr.mono ?_; rintro e w1 ⟨rfl, hw⟩; subst hw))
  go_ret3
  exact ⟨_, rfl, World.ownsRow_nil _ _ _ _, Below.refl _ _⟩
end Go.Proofs.Jt
/- R12: The walk of the reference's Quote. Printed by gen_r12.py. -/
namespace Go.Proofs.Jt
open Go.RowKit Go.Proofs Go.Lib Go.Proofs.Utf

theorem info5 : (Tryz.prog.info? 5).map (fun i => (i.zero, i.size, i.bytes)) = some (some (.int .u8 0), 1, 1) := by kernel_rfl
theorem byte_ones (l : List UInt8) : ∀ u ∈ Lib.byteCells l, u.oneCell' = true := by
 intro u hu
 obtain ⟨b, _, rfl⟩ := List.mem_map.1 hu
 rfl
theorem own_bytes {w : World} {B n : Nat} {v : Value} {a l : List UInt8} {c : List Value} (h : w.ownsRow B 5 1 v n (Lib.byteCells a ++ c)) (hc : c = Lib.byteCells l) (hn : n = a.length + l.length) : w.ownsRow B 5 1 v (a ++ l).length (Lib.byteCells (a ++ l)) := by
 rw [Lib.byteCells_append, List.length_append, ← hc, ← hn]
 exact h
theorem quote_snoc {l : List UInt8} {i : Nat} {c : UInt8} (h : l[i]? = some c) : (l.take (i + 1)).flatMap qByte = (l.take i).flatMap qByte ++ qByte c := by
 rw [List.take_add_one, h]
 simp
theorem back_row (w : World) (B : Nat) (v : Value) (a : List UInt8) (ho : w.ownsRow B 5 1 v a.length (Lib.byteCells a)) (ha : 0 < a.length) : (convert 189 9 v).run Tryz.prog w = .ok (.string ⟨a.toArray⟩) w := by
 rcases ho.2 with ⟨_, h2⟩ | ⟨g, cap, cur, rfl, h2, h3, h4, h5, h6⟩
 · omega
 · refine run_convert_bytes_back _ 189 9 5 ⟨g, 0, none⟩ cap a (by kernel_rfl) (by kernel_rfl) (by kernel_rfl) fun j hj => ?_
   have e : (⟨g, 0, none⟩ : Addr).add j = ⟨g, j, none⟩ := by simp [Addr.add]; omega
   rw [e, ho.cellAt j (by omega)]
   simp [Lib.byteCells, hj]
def quoteRV (l : List UInt8) : Value := if validD l then .tuple #[.string ⟨(quoteL l).toArray⟩, .int .i64 0] else .tuple #[.string ⟨#[]⟩, .int .i64 8]
set_option maxRecDepth 100000 in
set_option maxHeartbeats 4000000 in
theorem quote_ref (s : ByteArray) (w : World) (hs : s.size ≤ 16777216) : Calls Tryz.prog 130 #[.string s] w fun e w' => e = .returned (quoteRV s.data.toList) ∧ Below w.heap.size w w' := by
 have hbr := broken_ref s w hs
 unfold brokenI at hbr
 unfold quoteRV
 cases hv : validD s.data.toList with
 | false =>
  rw [hv, if_neg (by decide)] at hbr
  rw [if_neg (by decide)]
  clear hv
  go_enter Tryz.func130, Tryz.ntmps130
  go_wp2_with (first
   | (go_at_call 184; refine hbr.mono ?_; rintro e w1 ⟨rfl, hw⟩; subst hw))
  go_ret2
  exact ⟨rfl, Below.refl _ _⟩
 | true =>
  rw [hv, if_pos rfl] at hbr
  rw [if_pos rfl]
  clear hv
  obtain ⟨Q, hQ⟩ : ∃ Q, quoteL s.data.toList = Q := ⟨_, rfl⟩
  rw [hQ]
  unfold quoteL at hQ
  have HQ := Lib.hid hQ
  clear hQ
  obtain ⟨i5_, hi5, hz0, hz1, hz2⟩ := info_parts info5
  go_enter Tryz.func130, Tryz.ntmps130
  go_wp2_with (first
   | (go_at_call 184; refine hbr.mono ?_; rintro e w1 ⟨rfl, hw⟩; subst hw))
  have o0 : (w1.alloc (.cells #[.int .u8 34] 5)).ownsRow w1.heap.size 5 1 (.slice (some ⟨w1.heap.size, 0, none⟩) 1 1) 1 (Lib.byteCells [34]) := World.ownsRow_lit w1 #[.int .u8 34] 1 (Nat.le_refl _) (by unfold maxLen; omega) rfl
  go_loopw [5, 6] (fun v a wr => ∃ (i : Nat) (acc : List UInt8), a = .int .i64 i ∧ i ≤ s.size ∧ acc = 34 :: (s.data.toList.take i).flatMap qByte ∧ acc.length ≤ 1 + 6 * i ∧ wr.ownsRow w1.heap.size 5 1 v acc.length (Lib.byteCells acc) ∧ Below w1.heap.size w1 wr) (fun _ a _ => s.size - (RowKit.intOf a).toNat)
  case atStart => exact ⟨0, [34], rfl, Nat.zero_le _, by simp, by simp, o0, (Below.refl _ _).alloc (Nat.le_refl _) _⟩
  case round =>
   obtain ⟨i, acc, rfl, hi, hacc, hal, hown, hB⟩ := hrel
   have HA := Lib.hid hacc
   clear hacc
   have hBz := hB.size
   by_cases hlt : (i : Int) < (s.size : Int)
   · have hi' : i < s.size := by omega
     have hsn := quote_snoc (list_get s i hi')
     have HSN := Lib.hid hsn
     clear hsn o0
     by_cases h34 : s[i] = 34
     · as_aux_lemma =>
        have u34 : ((s[i].toNat : Int) == 34) = true := by rw [h34]; rfl
        have hl : qByte s[i] = [92, s[i]] := by unfold qByte; rw [if_pos (by rw [h34]; decide)]
        clear h34
        have HL := Lib.hid hl
        clear hl
        go_wp2_with (first
         | (at_builtin; refine wpList_append_own _ rfl (.tmp 32) (.tmp 34) 189 rfl w1.heap.size 5 i5_ _ 1 1 Tryz.underlying189 hi5 hz0 hz1 hz2 rfl (by decide) _ _ _ rfl (hown.alloc _) ⟨wr.heap.size, 0, none⟩ 2 2 (Lib.byteCells [92, s[i]]) rfl rfl (cells_at_new wr (Lib.byteCells [92, s[i]]) 5 _ rfl) (byte_ones _) (by unfold maxLen; omega) (by omega) (by simp; omega) ?_; intro v' w' hown' hg' hnil'
            have HD := (hB.alloc hBz _).grown hg' (by simp; omega) (fun q hq => (hown.lt q hq).1)
            clear hg' hnil'))
        go_roundw
        case rel => exact ⟨i + 1, acc ++ [92, s[i]], by go_num, by omega, by rw [HSN.out, HL.out, HA.out]; simp, by simp; omega, own_bytes hown' rfl rfl, HD⟩
        case measure => simp [RowKit.intOf]; omega
     · skip
       by_cases h92 : s[i] = 92
       · as_aux_lemma =>
          have u34 : ((s[i].toNat : Int) == 34) = false := byte_not h34
          have u92 : ((s[i].toNat : Int) == 92) = true := by rw [h92]; rfl
          have hl : qByte s[i] = [92, s[i]] := by unfold qByte; rw [if_pos (by rw [h92]; decide)]
          clear h34 h92
          have HL := Lib.hid hl
          clear hl
          go_wp2_with (first
           | (at_builtin; refine wpList_append_own _ rfl (.tmp 32) (.tmp 34) 189 rfl w1.heap.size 5 i5_ _ 1 1 Tryz.underlying189 hi5 hz0 hz1 hz2 rfl (by decide) _ _ _ rfl (hown.alloc _) ⟨wr.heap.size, 0, none⟩ 2 2 (Lib.byteCells [92, s[i]]) rfl rfl (cells_at_new wr (Lib.byteCells [92, s[i]]) 5 _ rfl) (byte_ones _) (by unfold maxLen; omega) (by omega) (by simp; omega) ?_; intro v' w' hown' hg' hnil'
              have HD := (hB.alloc hBz _).grown hg' (by simp; omega) (fun q hq => (hown.lt q hq).1)
              clear hg' hnil'))
          go_roundw
          case rel => exact ⟨i + 1, acc ++ [92, s[i]], by go_num, by omega, by rw [HSN.out, HL.out, HA.out]; simp, by simp; omega, own_bytes hown' rfl rfl, HD⟩
          case measure => simp [RowKit.intOf]; omega
       · skip
         by_cases h8 : s[i] = 8
         · as_aux_lemma =>
            have u34 : ((s[i].toNat : Int) == 34) = false := byte_not h34
            have u92 : ((s[i].toNat : Int) == 92) = false := byte_not h92
            have u8 : ((s[i].toNat : Int) == 8) = true := by rw [h8]; rfl
            have hl : qByte s[i] = [92, 98] := by rw [h8]; decide
            clear h34 h92 h8
            have HL := Lib.hid hl
            clear hl
            go_wp2_with (first
             | (at_builtin; refine wpList_append_own _ rfl (.tmp 39) (.tmp 40) 189 rfl w1.heap.size 5 i5_ _ 1 1 Tryz.underlying189 hi5 hz0 hz1 hz2 rfl (by decide) _ _ _ rfl (hown.alloc _) ⟨wr.heap.size, 0, none⟩ 2 2 (Lib.byteCells [92, 98]) rfl rfl (cells_at_new wr (Lib.byteCells [92, 98]) 5 _ rfl) (byte_ones _) (by unfold maxLen; omega) (by omega) (by simp; omega) ?_; intro v' w' hown' hg' hnil'
                have HD := (hB.alloc hBz _).grown hg' (by simp; omega) (fun q hq => (hown.lt q hq).1)
                clear hg' hnil'))
            go_roundw
            case rel => exact ⟨i + 1, acc ++ [92, 98], by go_num, by omega, by rw [HSN.out, HL.out, HA.out]; simp, by simp; omega, own_bytes hown' rfl rfl, HD⟩
            case measure => simp [RowKit.intOf]; omega
         · skip
           by_cases h9 : s[i] = 9
           · as_aux_lemma =>
              have u34 : ((s[i].toNat : Int) == 34) = false := byte_not h34
              have u92 : ((s[i].toNat : Int) == 92) = false := byte_not h92
              have u8 : ((s[i].toNat : Int) == 8) = false := byte_not h8
              have u9 : ((s[i].toNat : Int) == 9) = true := by rw [h9]; rfl
              have hl : qByte s[i] = [92, 116] := by rw [h9]; decide
              clear h34 h92 h8 h9
              have HL := Lib.hid hl
              clear hl
              go_wp2_with (first
               | (at_builtin; refine wpList_append_own _ rfl (.tmp 45) (.tmp 46) 189 rfl w1.heap.size 5 i5_ _ 1 1 Tryz.underlying189 hi5 hz0 hz1 hz2 rfl (by decide) _ _ _ rfl (hown.alloc _) ⟨wr.heap.size, 0, none⟩ 2 2 (Lib.byteCells [92, 116]) rfl rfl (cells_at_new wr (Lib.byteCells [92, 116]) 5 _ rfl) (byte_ones _) (by unfold maxLen; omega) (by omega) (by simp; omega) ?_; intro v' w' hown' hg' hnil'
                  have HD := (hB.alloc hBz _).grown hg' (by simp; omega) (fun q hq => (hown.lt q hq).1)
                  clear hg' hnil'))
              go_roundw
              case rel => exact ⟨i + 1, acc ++ [92, 116], by go_num, by omega, by rw [HSN.out, HL.out, HA.out]; simp, by simp; omega, own_bytes hown' rfl rfl, HD⟩
              case measure => simp [RowKit.intOf]; omega
           · skip
             by_cases h10 : s[i] = 10
             · as_aux_lemma =>
                have u34 : ((s[i].toNat : Int) == 34) = false := byte_not h34
                have u92 : ((s[i].toNat : Int) == 92) = false := byte_not h92
                have u8 : ((s[i].toNat : Int) == 8) = false := byte_not h8
                have u9 : ((s[i].toNat : Int) == 9) = false := byte_not h9
                have u10 : ((s[i].toNat : Int) == 10) = true := by rw [h10]; rfl
                have hl : qByte s[i] = [92, 110] := by rw [h10]; decide
                clear h34 h92 h8 h9 h10
                have HL := Lib.hid hl
                clear hl
                go_wp2_with (first
                 | (at_builtin; refine wpList_append_own _ rfl (.tmp 51) (.tmp 52) 189 rfl w1.heap.size 5 i5_ _ 1 1 Tryz.underlying189 hi5 hz0 hz1 hz2 rfl (by decide) _ _ _ rfl (hown.alloc _) ⟨wr.heap.size, 0, none⟩ 2 2 (Lib.byteCells [92, 110]) rfl rfl (cells_at_new wr (Lib.byteCells [92, 110]) 5 _ rfl) (byte_ones _) (by unfold maxLen; omega) (by omega) (by simp; omega) ?_; intro v' w' hown' hg' hnil'
                    have HD := (hB.alloc hBz _).grown hg' (by simp; omega) (fun q hq => (hown.lt q hq).1)
                    clear hg' hnil'))
                go_roundw
                case rel => exact ⟨i + 1, acc ++ [92, 110], by go_num, by omega, by rw [HSN.out, HL.out, HA.out]; simp, by simp; omega, own_bytes hown' rfl rfl, HD⟩
                case measure => simp [RowKit.intOf]; omega
             · skip
               by_cases h12 : s[i] = 12
               · as_aux_lemma =>
                  have u34 : ((s[i].toNat : Int) == 34) = false := byte_not h34
                  have u92 : ((s[i].toNat : Int) == 92) = false := byte_not h92
                  have u8 : ((s[i].toNat : Int) == 8) = false := byte_not h8
                  have u9 : ((s[i].toNat : Int) == 9) = false := byte_not h9
                  have u10 : ((s[i].toNat : Int) == 10) = false := byte_not h10
                  have u12 : ((s[i].toNat : Int) == 12) = true := by rw [h12]; rfl
                  have hl : qByte s[i] = [92, 102] := by rw [h12]; decide
                  clear h34 h92 h8 h9 h10 h12
                  have HL := Lib.hid hl
                  clear hl
                  go_wp2_with (first
                   | (at_builtin; refine wpList_append_own _ rfl (.tmp 57) (.tmp 58) 189 rfl w1.heap.size 5 i5_ _ 1 1 Tryz.underlying189 hi5 hz0 hz1 hz2 rfl (by decide) _ _ _ rfl (hown.alloc _) ⟨wr.heap.size, 0, none⟩ 2 2 (Lib.byteCells [92, 102]) rfl rfl (cells_at_new wr (Lib.byteCells [92, 102]) 5 _ rfl) (byte_ones _) (by unfold maxLen; omega) (by omega) (by simp; omega) ?_; intro v' w' hown' hg' hnil'
                      have HD := (hB.alloc hBz _).grown hg' (by simp; omega) (fun q hq => (hown.lt q hq).1)
                      clear hg' hnil'))
                  go_roundw
                  case rel => exact ⟨i + 1, acc ++ [92, 102], by go_num, by omega, by rw [HSN.out, HL.out, HA.out]; simp, by simp; omega, own_bytes hown' rfl rfl, HD⟩
                  case measure => simp [RowKit.intOf]; omega
               · skip
                 by_cases h13 : s[i] = 13
                 · as_aux_lemma =>
                    have u34 : ((s[i].toNat : Int) == 34) = false := byte_not h34
                    have u92 : ((s[i].toNat : Int) == 92) = false := byte_not h92
                    have u8 : ((s[i].toNat : Int) == 8) = false := byte_not h8
                    have u9 : ((s[i].toNat : Int) == 9) = false := byte_not h9
                    have u10 : ((s[i].toNat : Int) == 10) = false := byte_not h10
                    have u12 : ((s[i].toNat : Int) == 12) = false := byte_not h12
                    have u13 : ((s[i].toNat : Int) == 13) = true := by rw [h13]; rfl
                    have hl : qByte s[i] = [92, 114] := by rw [h13]; decide
                    clear h34 h92 h8 h9 h10 h12 h13
                    have HL := Lib.hid hl
                    clear hl
                    go_wp2_with (first
                     | (at_builtin; refine wpList_append_own _ rfl (.tmp 63) (.tmp 64) 189 rfl w1.heap.size 5 i5_ _ 1 1 Tryz.underlying189 hi5 hz0 hz1 hz2 rfl (by decide) _ _ _ rfl (hown.alloc _) ⟨wr.heap.size, 0, none⟩ 2 2 (Lib.byteCells [92, 114]) rfl rfl (cells_at_new wr (Lib.byteCells [92, 114]) 5 _ rfl) (byte_ones _) (by unfold maxLen; omega) (by omega) (by simp; omega) ?_; intro v' w' hown' hg' hnil'
                        have HD := (hB.alloc hBz _).grown hg' (by simp; omega) (fun q hq => (hown.lt q hq).1)
                        clear hg' hnil'))
                    go_roundw
                    case rel => exact ⟨i + 1, acc ++ [92, 114], by go_num, by omega, by rw [HSN.out, HL.out, HA.out]; simp, by simp; omega, own_bytes hown' rfl rfl, HD⟩
                    case measure => simp [RowKit.intOf]; omega
                 · skip
                   have u34 : ((s[i].toNat : Int) == 34) = false := byte_not h34
                   have u92 : ((s[i].toNat : Int) == 92) = false := byte_not h92
                   have u8 : ((s[i].toNat : Int) == 8) = false := byte_not h8
                   have u9 : ((s[i].toNat : Int) == 9) = false := byte_not h9
                   have u10 : ((s[i].toNat : Int) == 10) = false := byte_not h10
                   have u12 : ((s[i].toNat : Int) == 12) = false := byte_not h12
                   have u13 : ((s[i].toNat : Int) == 13) = false := byte_not h13
                   have hne : ¬ (s[i] = 34 ∨ s[i] = 92) := fun h => h.elim h34 h92
                   by_cases h32 : s[i].toNat < 32
                   · skip
                     have v1 : decide ((s[i].toNat : Int) < 32) = true := by simp; omega
                     have hl : qByte s[i] = [92, 117, 48, 48, hexD (s[i].toNat / 16), hexD (s[i].toNat % 16)] := by unfold qByte; rw [if_neg hne, if_neg h8, if_neg h9, if_neg h10, if_neg h12, if_neg h13, if_pos h32]
                     clear hne h34 h92 h8 h9 h10 h12 h13
                     have HL := Lib.hid hl
                     clear hl
                     go_wp2
                     have b256 := s[i].toNat_lt
                     clear b256
                     have hwA : IntKind.u8.wrap ((s[i].toNat : Int) / 16) = ((s[i].toNat / 16 : Nat) : Int) := by rw [IntWalk.u8_in _ (by have := s[i].toNat_lt; omega)]; omega
                     have hwB : ((s[i].toNat : Int)).tmod 16 = ((s[i].toNat % 16 : Nat) : Int) := by rw [Int.tmod_eq_emod_of_nonneg (by omega)]; omega
                     have hl1 : s[i].toNat / 16 < 16 := by have := s[i].toNat_lt; omega
                     have hl2 : s[i].toNat % 16 < 16 := by omega
                     have hxA : ∀ (h : ((s[i].toNat : Int) / 16).toNat < (⟨#[48, 49, 50, 51, 52, 53, 54, 55, 56, 57, 97, 98, 99, 100, 101, 102]⟩ : ByteArray).size), ((⟨#[48, 49, 50, 51, 52, 53, 54, 55, 56, 57, 97, 98, 99, 100, 101, 102]⟩ : ByteArray)[((s[i].toNat : Int) / 16).toNat]'h).toNat = (hexD (s[i].toNat / 16)).toNat := fun h => by
                      have e : ((s[i].toNat : Int) / 16).toNat = s[i].toNat / 16 := by omega
                      simp only [e]
                      exact hex_at _ hl1
                     have hxB : ∀ (h : ((s[i].toNat : Int) % 16).toNat < (⟨#[48, 49, 50, 51, 52, 53, 54, 55, 56, 57, 97, 98, 99, 100, 101, 102]⟩ : ByteArray).size), ((⟨#[48, 49, 50, 51, 52, 53, 54, 55, 56, 57, 97, 98, 99, 100, 101, 102]⟩ : ByteArray)[((s[i].toNat : Int) % 16).toNat]'h).toNat = (hexD (s[i].toNat % 16)).toNat := fun h => by
                      have e : ((s[i].toNat : Int) % 16).toNat = s[i].toNat % 16 := by omega
                      simp only [e]
                      exact hex_at _ hl2
                     have HXA := Lib.hid hxA
                     have HXB := Lib.hid hxB
                     clear hxA hxB
                     go_region_held3 (fun _ => True) (exact trivial) ((refine step_append_lies _ (by rfl) _ _ _ (by rfl) w1.heap.size 5 i5_ _ 1 1 Tryz.underlying189 hi5 hz0 hz1 hz2 rfl (by omega) _ _ _ (by rfl) ((hown.alloc _).drew) ⟨wr.heap.size, 0, none⟩ 6 6 (Lib.byteCells [92, 117, 48, 48, hexD (s[i].toNat / 16), hexD (s[i].toNat % 16)]) (by rfl) (by rfl) (World.news_of_block (cs := (Lib.byteCells [92, 117, 48, 48, hexD (s[i].toNat / 16), hexD (s[i].toNat % 16)]).toArray) (t := 5) (fr := (0, 0)) (Eq.trans (heap_alloc_new wr _) (by rw [HXA.out, HXB.out]; rfl))) (byte_ones _) (by omega) (by unfold maxLen; omega) (by omega) (by simp; omega) (wr.heap.size + 1) (by simp) ?_; intro gg cap w2 hown2 hgrow hat hlt))
                     all_goals
                      have HD := ((hB.alloc hBz _).drew).grown hgrow (by simp; omega) (fun q hq => (hown.lt q hq).1)
                      go_wp2
                      refine ⟨⟨i + 1, acc ++ [92, 117, 48, 48, hexD (s[i].toNat / 16), hexD (s[i].toNat % 16)], by go_num, by omega, by rw [HSN.out, HL.out, HA.out]; simp, by simp; omega, own_bytes hown2 rfl rfl, HD⟩, by simp [RowKit.intOf]; omega⟩
                   · as_aux_lemma =>
                     have v1 : decide ((s[i].toNat : Int) < 32) = false := by simp; omega
                     have hl : qByte s[i] = [s[i]] := by unfold qByte; rw [if_neg hne, if_neg h8, if_neg h9, if_neg h10, if_neg h12, if_neg h13, if_neg h32]
                     clear hne h32 h34 h92 h8 h9 h10 h12 h13
                     have HL := Lib.hid hl
                     clear hl
                     go_wp2_with (first
                      | (at_builtin; refine wpList_append_own _ rfl (.tmp 21) (.tmp 23) 189 rfl w1.heap.size 5 i5_ _ 1 1 Tryz.underlying189 hi5 hz0 hz1 hz2 rfl (by decide) _ _ _ rfl (hown.alloc _) ⟨wr.heap.size, 0, none⟩ 1 1 (Lib.byteCells [s[i]]) rfl rfl (cells_at_new wr (Lib.byteCells [s[i]]) 5 _ rfl) (byte_ones _) (by unfold maxLen; omega) (by omega) (by simp; omega) ?_; intro v' w' hown' hg' hnil'
                         have HD := (hB.alloc hBz _).grown hg' (by simp; omega) (fun q hq => (hown.lt q hq).1)
                         clear hg' hnil'))
                     go_roundw
                     case rel => exact ⟨i + 1, acc ++ [s[i]], by go_num, by omega, by rw [HSN.out, HL.out, HA.out]; simp, by simp; omega, own_bytes hown' rfl rfl, HD⟩
                     case measure => simp [RowKit.intOf]; omega
   · have hta : s.data.toList.take i = s.data.toList := List.take_of_length_le (by rw [← Lib.size_eq]; omega)
     have hq : acc ++ [34] = Q := by rw [HA.out, hta, ← HQ.out]; rfl
     have HQ2 := Lib.hid hq
     clear hta hq o0
     go_wp2_with (first
      | (at_builtin; refine wpList_append_own _ rfl (.tmp 80) (.tmp 81) 189 rfl w1.heap.size 5 i5_ _ 1 1 Tryz.underlying189 hi5 hz0 hz1 hz2 rfl (by decide) _ _ _ rfl (hown.alloc _) ⟨wr.heap.size, 0, none⟩ 1 1 (Lib.byteCells [34]) rfl rfl (cells_at_new wr (Lib.byteCells [34]) 5 _ rfl) (byte_ones _) (by unfold maxLen; omega) (by omega) (by simp; omega) ?_; intro v' w' hown' hg' hnil'
         have HD := (hB.alloc hBz _).grown hg' (by simp; omega) (fun q hq => (hown.lt q hq).1)
         have hback := back_row w' _ v' (acc ++ [34]) (own_bytes hown' rfl rfl) (by simp)
         rw [HQ2.out] at hback
         obtain ⟨p, cap, rfl⟩ := row_shape hown'
         clear hg' hnil'))
     go_ret2
     exact ⟨rfl, HD⟩
end Go.Proofs.Jt
