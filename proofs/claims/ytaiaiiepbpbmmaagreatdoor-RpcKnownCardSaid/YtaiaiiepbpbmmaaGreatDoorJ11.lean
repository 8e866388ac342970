/- What Quote says is one string: the plain law; Quote as one contract. -/
import Derived.Test.YtaiaiiepbpbmmaaGreatDoorJ10
namespace Go.Proofs.Jt
open Go.RowKit Go.Proofs Go.Lib Go.Proofs.Utf

theorem esc_simple (c : UInt8) (t : List UInt8) (x : Nat) (h : simple c = some x) : escR (c :: t) = ((x : Int), 1) := by
  unfold escR
  simp only [List.getElem?_cons_zero, Option.bind_some, h]
theorem hex_ctl : ∀ c : UInt8, c.toNat < 32 → hexV (hexD (c.toNat / 16)) = ((c.toNat / 16 : Nat) : Int) ∧ hexV (hexD (c.toNat % 16)) = ((c.toNat % 16 : Nat) : Int) := forall_u8 (by decide +kernel)
theorem esc_ctl (c : UInt8) (h : c.toNat < 32) (t : List UInt8) : escR (117 :: 48 :: 48 :: hexD (c.toNat / 16) :: hexD (c.toNat % 16) :: t) = ((c.toNat : Int), 5) := by
  obtain ⟨e1, e2⟩ := hex_ctl c h
  have hu : unitL (117 :: 48 :: 48 :: hexD (c.toNat / 16) :: hexD (c.toNat % 16) :: t) = (c.toNat : Int) := by
    rw [unitL_cons, e1, e2, show hexV 48 = 0 from rfl]
    rw [if_pos (by refine ⟨rfl, ?_, ?_, ?_, ?_⟩ <;> omega)]
    omega
  unfold escR
  have : simple 117 = none := by decide
  simp only [List.getElem?_cons_zero, Option.bind_some, this, hu]
  rw [if_neg (by omega), if_pos (by omega)]
theorem enc_byte (c : UInt8) (h : c.toNat < 128) : encodeRune (c.toNat : Int) = [c] := by
  rw [enc1 _ ⟨by omega, by omega⟩]
  simp
theorem q_cases : ∀ c : UInt8, (∃ x : UInt8, qByte c = [92, x] ∧ simple x = some c.toNat ∧ c.toNat < 128) ∨ (c.toNat < 32 ∧ qByte c = [92, 117, 48, 48, hexD (c.toNat / 16), hexD (c.toNat % 16)]) ∨ (qByte c = [c] ∧ c ≠ 34 ∧ ¬ c.toNat < 32 ∧ c ≠ 92) := by
  intro c
  unfold qByte
  by_cases h1 : c = 34 ∨ c = 92
  · rw [if_pos h1]
    refine .inl ⟨c, rfl, ?_⟩
    rcases h1 with rfl | rfl <;> decide
  rw [if_neg h1]
  by_cases h2 : c = 8
  · rw [if_pos h2]; subst h2; exact .inl ⟨98, rfl, by decide, by decide⟩
  rw [if_neg h2]
  by_cases h3 : c = 9
  · rw [if_pos h3]; subst h3; exact .inl ⟨116, rfl, by decide, by decide⟩
  rw [if_neg h3]
  by_cases h4 : c = 10
  · rw [if_pos h4]; subst h4; exact .inl ⟨110, rfl, by decide, by decide⟩
  rw [if_neg h4]
  by_cases h5 : c = 12
  · rw [if_pos h5]; subst h5; exact .inl ⟨102, rfl, by decide, by decide⟩
  rw [if_neg h5]
  by_cases h6 : c = 13
  · rw [if_pos h6]; subst h6; exact .inl ⟨114, rfl, by decide, by decide⟩
  rw [if_neg h6]
  by_cases h7 : c.toNat < 32
  · rw [if_pos h7]; exact .inr (.inl ⟨h7, rfl⟩)
  · rw [if_neg h7]; exact .inr (.inr ⟨rfl, fun e => h1 (.inl e), h7, fun e => h1 (.inr e)⟩)
theorem qq_q (c : UInt8) (t : List UInt8) : qq (qByte c ++ t) = (qq t).map fun r => (c :: r.1, r.2 + (qByte c).length) := by
  rcases q_cases c with ⟨x, hq, hs, hc⟩ | ⟨hc, hq⟩ | ⟨hq, h1, h2, h3⟩
  · rw [hq]
    show qq (92 :: x :: t) = _
    rw [qq_esc, esc_simple x t _ hs, if_neg (by simp), enc_byte c hc]
    simp
  · rw [hq]
    show qq (92 :: 117 :: 48 :: 48 :: hexD (c.toNat / 16) :: hexD (c.toNat % 16) :: t) = _
    rw [qq_esc, esc_ctl c hc t, if_neg (by simp), enc_byte c (by omega)]
    simp
  · rw [hq]
    show qq (c :: t) = _
    rw [qq_byte c t h1 h2 h3]
    simp
theorem qq_back : ∀ (l t : List UInt8), qq (l.flatMap qByte ++ 34 :: t) = some (l, (l.flatMap qByte).length + 1)
  | [], t => by rw [List.flatMap_nil, List.nil_append, qq_end]; rfl
  | c :: l, t => by
    rw [List.flatMap_cons, List.append_assoc, qq_q, qq_back l t]
    simp
    omega
theorem ascii_valid : ∀ (l : List UInt8), (∀ b ∈ l, b.toNat < 128) → validD l = true
  | [], _ => rfl
  | b :: t, h => by
    have hb := h b List.mem_cons_self
    rw [validD_step _ (by simp), decodeL_ascii b t hb]
    simp only [List.drop_succ_cons, List.drop_zero]
    rw [ascii_valid t fun x hx => h x (List.mem_cons_of_mem _ hx), if_neg (by simp; omega)]
theorem back_ascii {r k : Int} (h : backLook r = some k) : k.toNat.toUInt8.toNat < 128 := by
  have := back_low h
  simp
  omega
theorem hexD_low (n : Nat) (h : n < 16) : (hexD n).toNat < 128 := by
  revert n; decide
theorem qRune_valid (r : Nat) (h : IsPoint r) : validD (qRune r) = true := by
  unfold qRune
  cases hb : backLook r with
  | some k =>
    refine ascii_valid _ fun b hb' => ?_
    simp at hb'
    rcases hb' with rfl | rfl
    · decide
    · have := back_ascii hb; simpa using this
  | none =>
    simp only
    split
    · refine ascii_valid _ fun b hb' => ?_
      have a1 := hexD_low (r / 16) (by omega)
      have a2 := hexD_low (r % 16) (by omega)
      simp at hb'
      rcases hb' with rfl | rfl | rfl | rfl | rfl
      · decide
      · decide
      · decide
      · exact a1
      · exact a2
    · exact enc_valid _ h
theorem flat_valid : ∀ (k : Nat) (l m : List UInt8), l.length ≤ k → validD l = true → validD (l.flatMap qByte ++ m) = validD m
  | _, [], m, _, _ => rfl
  | 0, c :: t, m, h, _ => by simp at h
  | k + 1, c :: t, m, hk, hv => by
    have hne : c :: t ≠ [] := by simp
    obtain ⟨hp, hv2⟩ := valid_step _ hne hv
    have hw := headW_pos (c :: t)
    have hpt : IsPoint ((decodeL (c :: t)).1 : Int) := by
      rcases dec_point _ hne with h | h
      · unfold IsPoint; omega
      · exact h
    have hs := q_seg _ hne hp
    have e : (c :: t).flatMap qByte = qRune (decodeL (c :: t)).1 ++ ((c :: t).drop (headW (c :: t))).flatMap qByte := by
      rw [← hs, ← List.flatMap_append]
      show _ = List.flatMap qByte (List.take (headW (c :: t)) (c :: t) ++ _)
      rw [List.take_append_drop]
    rw [e, List.append_assoc, valid_append _ _ _ (Nat.le_refl _) (qRune_valid _ hpt)]
    refine flat_valid k _ m ?_ hv2
    simp only [List.length_cons] at hk
    rw [List.length_drop, List.length_cons]
    omega
theorem quote_valid (l : List UInt8) (h : validD l = true) : validD (quoteL l) = true := by
  unfold quoteL
  rw [show (34 : UInt8) :: (l.flatMap qByte ++ [34]) = [34] ++ (l.flatMap qByte ++ [34]) from rfl, valid_append 1 [34] _ (Nat.le_refl _) (by decide), flat_valid _ l _ (Nat.le_refl _) h]
  decide
theorem qByte_len (c : UInt8) : (qByte c).length ≤ 6 := by
  rcases q_cases c with ⟨x, hq, _⟩ | ⟨_, hq⟩ | ⟨hq, _⟩ <;> rw [hq] <;> simp
theorem flat_len : ∀ l : List UInt8, (l.flatMap qByte).length ≤ 6 * l.length
  | [] => by simp
  | c :: l => by
    have := flat_len l
    have := qByte_len c
    rw [List.flatMap_cons, List.length_append, List.length_cons]
    omega
theorem quote_len (l : List UInt8) : (quoteL l).length ≤ 6 * l.length + 2 := by
  have := flat_len l
  unfold quoteL
  rw [List.length_cons, List.length_append, List.length_singleton]
  omega
set_option maxRecDepth 100000 in
theorem quote_broken (s : ByteArray) (w : World) (hT : Tabs w) (hs : s.size ≤ 16777216) (hv : validD s.data.toList = false) :
    Calls Tryz.prog 128 #[.string s] w fun e w' => e = .returned (.tuple #[.string ⟨#[]⟩, .int .i64 8]) ∧ Below w.heap.size w w' := by
  have hval := Tryz.utf8_ValidString s w (by omega) hT.1
  rw [hv] at hval
  go_enter Tryz.func128, Tryz.ntmps128
  go_wp2_with (first
    | (go_at_call 156; refine hval.mono ?_; rintro e w1 ⟨rfl, hb1⟩))
  go_ret2
  exact ⟨rfl, hb1⟩
/-- what Quote answers -/
theorem quote_any (s : ByteArray) (w : World) (hT : Tabs w) (hs : s.size ≤ 16777216) :
    Calls Tryz.prog 128 #[.string s] w fun e w' => e = .returned (.tuple #[.string ⟨(if validD s.data.toList then quoteL s.data.toList else []).toArray⟩, .int .i64 (if validD s.data.toList then 0 else 8)]) ∧ Below w.heap.size w w' := by
  cases hv : validD s.data.toList with
  | true => exact quote_walk s w hT hs hv
  | false => exact quote_broken s w hT hs hv
end Go.Proofs.Jt
