/- What a string says, step by step. No program in sight. -/
import Derived.Test.YtphiceebhncflaaDoorJq
namespace Go.Proofs.Jt
open Go.Lib Go.Proofs.Utf

theorem qL_fuel : ∀ (n m : Nat) (l : List UInt8), l.length ≤ n → l.length ≤ m → qL n l = qL m l
  | _, _, [], _, _ => by simp [qL]
  | 0, _, c :: t, h, _ => by simp at h
  | _, 0, c :: t, _, h => by simp at h
  | n + 1, m + 1, c :: t, h1, h2 => by
    simp only [List.length_cons] at h1 h2
    have ih := qL_fuel n m t (by omega) (by omega)
    have ih2 := qL_fuel n m (t.drop (escR t).2) (by rw [List.length_drop]; omega) (by rw [List.length_drop]; omega)
    simp only [qL, ih, ih2]
/-- what a string says from behind its first mark on -/
def qq (l : List UInt8) : Option (List UInt8 × Nat) := qL l.length l
theorem qq_nil : qq [] = none := rfl
theorem qq_end (t : List UInt8) : qq (34 :: t) = some ([], 1) := by simp [qq, qL]
theorem qq_ctl (c : UInt8) (t : List UInt8) (h : c.toNat < 32) : qq (c :: t) = none := by
  have : c ≠ 34 := by rintro rfl; revert h; decide
  simp [qq, qL, this, h]
theorem qq_esc (t : List UInt8) : qq (92 :: t) = if (escR t).2 = 0 then none else (qq (t.drop (escR t).2)).map fun r => (encodeRune (escR t).1 ++ r.1, r.2 + 1 + (escR t).2) := by
  unfold qq
  simp only [List.length_cons, qL]
  rw [if_neg (by decide), if_neg (by decide), if_pos trivial, qL_fuel t.length (t.drop (escR t).2).length _ (by rw [List.length_drop]; omega) (Nat.le_refl _)]
theorem qq_byte (c : UInt8) (t : List UInt8) (h1 : c ≠ 34) (h2 : ¬ c.toNat < 32) (h3 : c ≠ 92) : qq (c :: t) = (qq t).map fun r => (c :: r.1, r.2 + 1) := by
  unfold qq
  simp only [List.length_cons, qL]
  rw [if_neg h1, if_neg h2, if_neg h3]
theorem qq_high : ∀ (p t : List UInt8), (∀ b ∈ p, 128 ≤ b.toNat) → qq (p ++ t) = (qq t).map fun r => (p ++ r.1, r.2 + p.length)
  | [], t, _ => by cases h : qq t <;> simp [h]
  | c :: p, t, h => by
    have hc := h c List.mem_cons_self
    rw [List.cons_append, qq_byte c _ (by rintro rfl; revert hc; decide) (by omega) (by rintro rfl; revert hc; decide), qq_high p t (fun b hb => h b (List.mem_cons_of_mem _ hb))]
    cases qq t with
    | none => rfl
    | some r => simp; omega
theorem take_high (l : List UInt8) (k : Nat) (hl : k ≤ l.length) (h : ∀ j, j < k → 128 ≤ (l.getD j 0).toNat) : ∀ b ∈ l.take k, 128 ≤ b.toNat := by
  intro b hb
  obtain ⟨j, hj, e⟩ := List.mem_iff_getElem.1 hb
  rw [List.length_take] at hj
  have := h j (by omega)
  rw [List.getElem_take] at e
  rw [List.getD_eq_getElem?_getD, List.getElem?_eq_getElem (by omega), Option.getD_some, e] at this
  exact this
theorem dec_point_bytes (l : List UInt8) (hne : l ≠ []) (hp : isPt l = true) : encodeRune (decodeL l).1 = l.take (decodeL l).2 ∧ (decodeL l).2 ≤ l.length ∧ 1 ≤ (decodeL l).2 := by
  obtain ⟨k, h1, h4, hl, hh⟩ := pt_hit l hne hp
  rw [found l k h1 h4 hl hh]
  exact ⟨hh.2, hl, h1⟩
theorem dec_big_bytes (l : List UInt8) (hne : l ≠ []) (hp : isPt l = true) (hb : 128 ≤ (l.getD 0 0).toNat) : ∀ j, j < (decodeL l).2 → 128 ≤ (l.getD j 0).toNat := by
  obtain ⟨k, h1, h4, hl, hh⟩ := pt_hit l hne hp
  rw [found l k h1 h4 hl hh]
  rcases (show k = 1 ∨ k = 2 ∨ k = 3 ∨ k = 4 by omega) with rfl | rfl | rfl | rfl
  · have := (Hit1 l hl).1 hh
    omega
  · have h2 := (Hit2 l hl).1 hh
    intro j hj
    rcases (show j = 0 ∨ j = 1 by omega) with rfl | rfl <;> omega
  · have h2 := (Hit3 l hl).1 hh
    intro j hj
    rcases (show j = 0 ∨ j = 1 ∨ j = 2 by omega) with rfl | rfl | rfl <;> omega
  · have h2 := (Hit4 l hl).1 hh
    intro j hj
    rcases (show j = 0 ∨ j = 1 ∨ j = 2 ∨ j = 3 by omega) with rfl | rfl | rfl | rfl <;> omega
/-- a point that is no mark, no backslash, and not below 32 stands for itself -/
theorem qq_point (l : List UInt8) (hne : l ≠ []) (hp : isPt l = true) (h1 : (decodeL l).1 ≠ 34) (h2 : ¬ (decodeL l).1 < 32) (h3 : (decodeL l).1 ≠ 92) :
    qq l = (qq (l.drop (decodeL l).2)).map fun r => (encodeRune (decodeL l).1 ++ r.1, r.2 + (decodeL l).2) := by
  obtain ⟨e1, e2, e3⟩ := dec_point_bytes l hne hp
  obtain ⟨b, t, rfl⟩ := List.exists_cons_of_ne_nil hne
  by_cases hb : b.toNat < 128
  · rw [decodeL_ascii b t hb] at *
    simp only at *
    rw [e1, qq_byte b t (by rintro rfl; exact h1 rfl) h2 (by rintro rfl; exact h3 rfl)]
    simp
  · have hh := dec_big_bytes (b :: t) hne hp (by simp; omega)
    have := qq_high ((b :: t).take (decodeL (b :: t)).2) ((b :: t).drop (decodeL (b :: t)).2) (take_high _ _ e2 hh)
    rw [List.take_append_drop] at this
    rw [this, e1, List.length_take, Nat.min_eq_left e2]
theorem dec_first (b : UInt8) (t : List UInt8) (n : Nat) (hn : n < 128) : (decodeL (b :: t)).1 = n ↔ b.toNat = n := by
  by_cases hb : b.toNat < 128
  · rw [decodeL_ascii b t hb]
  · have := dec_high b t (by omega)
    omega
theorem valid_ascii (b : UInt8) (t : List UInt8) (hb : b.toNat < 128) (h : validD (b :: t) = true) : validD t = true := by
  have := (valid_step (b :: t) (by simp) h).2
  unfold headW at this
  rw [decodeL_ascii b t hb] at this
  simpa using this
theorem valid_drop_ascii : ∀ (k : Nat) (l : List UInt8), (∀ j, j < k → ∃ b, l[j]? = some b ∧ b.toNat < 128) → validD l = true → validD (l.drop k) = true
  | 0, l, _, h => by simpa using h
  | k + 1, l, hk, h => by
    obtain ⟨b, hb, hb2⟩ := hk 0 (by omega)
    match l, hb with
    | c :: t, hb =>
      obtain rfl : c = b := by simpa using hb
      rw [List.drop_succ_cons]
      exact valid_drop_ascii k t (fun j hj => by
        obtain ⟨d, hd, hd2⟩ := hk (j + 1) (by omega)
        exact ⟨d, by simpa using hd, hd2⟩) (valid_ascii c t hb2 h)
theorem hexV_low {c : UInt8} (h : 0 ≤ hexV c) : c.toNat < 128 := by
  unfold hexV at h
  by_cases hc : c.toNat < 128
  · exact hc
  · rw [if_neg (by omega), if_neg (by omega), if_neg (by omega)] at h; omega
theorem unit_ascii {l : List UInt8} (h : 0 ≤ unitL l) : ∀ j, j < 5 → ∃ b, l[j]? = some b ∧ b.toNat < 128 := by
  by_cases h5 : 4 < l.length
  · obtain ⟨u, a, b, c, d, t, rfl⟩ := five h5
    rw [unitL_cons] at h
    split at h
    · rename_i hh
      obtain ⟨rfl, ha, hb, hc, hd⟩ := hh
      intro j hj
      rcases (show j = 0 ∨ j = 1 ∨ j = 2 ∨ j = 3 ∨ j = 4 by omega) with rfl | rfl | rfl | rfl | rfl
      · exact ⟨117, rfl, by decide⟩
      · exact ⟨a, rfl, hexV_low ha⟩
      · exact ⟨b, rfl, hexV_low hb⟩
      · exact ⟨c, rfl, hexV_low hc⟩
      · exact ⟨d, rfl, hexV_low hd⟩
    · omega
  · rw [unit_short (by omega)] at h; omega
theorem simple_low : ∀ b : UInt8, (simple b).isSome = true → b.toNat < 128 := forall_u8 (by decide +kernel)
theorem simple_val : ∀ b : UInt8, ∀ x, simple b = some x → x < 128 := fun b x h => by
  have : ∀ b : UInt8, ((simple b).getD 0) < 128 := forall_u8 (by decide +kernel)
  have := this b
  rw [h] at this
  exact this
/-- the bytes of an escape are below 128; what it stands for is a point -/
theorem esc_ascii (l : List UInt8) : (∀ j, j < (escR l).2 → ∃ b, l[j]? = some b ∧ b.toNat < 128) ∧ ((escR l).2 ≠ 0 → IsPoint (escR l).1) ∧ (escR l).2 ≤ 11 := by
  unfold escR
  cases hs : l[0]?.bind simple with
  | some x =>
    simp only
    obtain ⟨b, hb, hx⟩ := Option.bind_eq_some_iff.1 hs
    have hxl := simple_val b x hx
    refine ⟨fun j hj => ?_, fun _ => by unfold IsPoint; omega, by omega⟩
    obtain rfl : j = 0 := by omega
    exact ⟨b, hb, simple_low b (by rw [hx]; rfl)⟩
  | none =>
    simp only
    have hr := unitL_range l
    have hr6 := unitL_range (l.drop 6)
    split
    · exact ⟨fun j hj => by omega, fun h => by omega, by omega⟩
    · rename_i h0
      have ha := unit_ascii (l := l) (by omega)
      split
      · exact ⟨ha, fun _ => by unfold IsPoint; omega, by omega⟩
      · split
        · rename_i h1
          obtain ⟨h2, h3, h4, h5⟩ := h1
          have hb := unit_ascii (l := l.drop 6) (by omega)
          refine ⟨fun j hj => ?_, fun _ => by unfold IsPoint; omega, by omega⟩
          by_cases hj5 : j < 5
          · exact ha j hj5
          · by_cases hj6 : j = 5
            · subst hj6; exact ⟨92, h3, by decide⟩
            · obtain ⟨b, hb1, hb2⟩ := hb (j - 6) (by omega)
              rw [List.getElem?_drop, show 6 + (j - 6) = j by omega] at hb1
              exact ⟨b, hb1, hb2⟩
        · exact ⟨fun j hj => by omega, fun h => by omega, by omega⟩
theorem esc_le (l : List UInt8) : (escR l).2 ≤ l.length := by
  by_cases h : (escR l).2 = 0
  · omega
  · obtain ⟨b, hb, _⟩ := (esc_ascii l).1 ((escR l).2 - 1) (by omega)
    have := (List.getElem?_eq_some_iff.1 hb).1
    omega
theorem enc_len4 (n : Int) (h : IsPoint n) : (encodeRune n).length ≤ 4 := by
  rcases len_cases n h with h | h | h | h <;> omega
/-- where a string ends it has not more bytes than there are -/
theorem qq_le : ∀ (k : Nat) (l : List UInt8), l.length ≤ k → ∀ r, qq l = some r → r.2 ≤ l.length ∧ 1 ≤ r.2
  | _, [], _, r, h => by rw [qq_nil] at h; cases h
  | 0, c :: t, hk, r, h => by simp at hk
  | k + 1, c :: t, hk, r, h => by
    simp only [List.length_cons] at hk
    by_cases h1 : c = 34
    · subst h1
      rw [qq_end] at h
      cases h
      simp
    by_cases h2 : c.toNat < 32
    · rw [qq_ctl c t h2] at h; cases h
    by_cases h3 : c = 92
    · subst h3
      rw [qq_esc] at h
      split at h
      · cases h
      · obtain ⟨q, hq, rfl⟩ := Option.map_eq_some_iff.1 h
        have := qq_le k _ (by rw [List.length_drop]; omega) q hq
        rw [List.length_drop] at this
        have := esc_le t
        simp only [List.length_cons]
        omega
    · rw [qq_byte c t h1 h2 h3] at h
      obtain ⟨q, hq, rfl⟩ := Option.map_eq_some_iff.1 h
      have := qq_le k t (by omega) q hq
      simp only [List.length_cons]
      omega
end Go.Proofs.Jt
