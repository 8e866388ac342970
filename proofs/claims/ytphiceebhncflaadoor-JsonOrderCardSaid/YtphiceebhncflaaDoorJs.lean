/- Tokens, step by step; where a text is broken. No program in sight. -/
import Derived.Test.YtphiceebhncflaaDoorJr
namespace Go.Proofs.Jt
open Go.Lib Go.Proofs.Utf

theorem brokenL_fuel : ∀ (n m : Nat) (l : List UInt8) (at_ : Nat), l.length ≤ n → l.length ≤ m → brokenL n l at_ = brokenL m l at_
  | 0, 0, _, _, _, _ => rfl
  | 0, m + 1, l, at_, h, _ => by
    have : l = [] := List.length_eq_zero_iff.1 (by omega)
    simp [brokenL, this]
  | n + 1, 0, l, at_, _, h => by
    have : l = [] := List.length_eq_zero_iff.1 (by omega)
    simp [brokenL, this]
  | n + 1, m + 1, l, at_, h1, h2 => by
    simp only [brokenL]
    split
    · rfl
    · have hw := headW_pos l
      rw [brokenL_fuel n m (l.drop (headW l)) _ (by rw [List.length_drop]; omega) (by rw [List.length_drop]; omega)]
def br (l : List UInt8) (at_ : Nat) : Nat := brokenL l.length l at_
theorem br_nil (at_ : Nat) : br [] at_ = at_ := rfl
theorem br_step (l : List UInt8) (at_ : Nat) (hne : l ≠ []) : br l at_ = if isPt l then br (l.drop (headW l)) (at_ + headW l) else at_ := by
  unfold br
  obtain ⟨b, t, rfl⟩ := List.exists_cons_of_ne_nil hne
  have hw := headW_pos (b :: t)
  simp only [List.length_cons]
  rw [brokenL, if_neg hne, brokenL_fuel t.length ((b :: t).drop (headW (b :: t))).length _ _ (by rw [List.length_drop, List.length_cons]; omega) (Nat.le_refl _)]
theorem fffd_prefix (l : List UInt8) (hne : l ≠ []) (h : (decodeL l).1 = 65533) : hasPrefix l [239, 191, 189] = isPt l := by
  cases hp : isPt l with
  | true =>
    obtain ⟨e1, e2, e3⟩ := dec_point_bytes l hne hp
    rw [h] at e1
    have e4 : encodeRune 65533 = [239, 191, 189] := by decide
    have e5 : l = [239, 191, 189] ++ l.drop (decodeL l).2 := by
      rw [show ([239, 191, 189] : List UInt8) = l.take (decodeL l).2 from e4.symm.trans e1, List.take_append_drop]
    unfold hasPrefix
    rw [e5]
    simp
  | false =>
    cases hx : hasPrefix l [239, 191, 189] with
    | false => rfl
    | true =>
      obtain ⟨t, ht⟩ := List.isPrefixOf_iff_prefix.1 hx
      have hh := enc_head 65533 (by unfold IsPoint; decide) t
      rw [show encodeRune 65533 = [239, 191, 189] by decide, ht] at hh
      have := isPt_no l hp
      omega
/-- the word at the head -/
theorem nextL_cons (c : UInt8) (t : List UInt8) : nextL (c :: t) = if isMarkB c then some (1, [c], 1) else if c = 34 then (qq t).map (fun r => (4, r.1, r.2 + 1)) else if 0 < wordN (c :: t) then some (2, (c :: t).take (wordN (c :: t)), wordN (c :: t)) else if 0 < numN (c :: t) then some (3, (c :: t).take (numN (c :: t)), numN (c :: t)) else none := rfl
theorem nextL_le (l : List UInt8) (r : Nat × List UInt8 × Nat) (h : nextL l = some r) : 1 ≤ r.2.2 ∧ r.2.2 ≤ l.length := by
  cases l with
  | nil => cases h
  | cons c t =>
    rw [nextL_cons] at h
    split at h
    · cases h; simp
    · split at h
      · obtain ⟨q, hq, rfl⟩ := Option.map_eq_some_iff.1 h
        have := qq_le _ t (Nat.le_refl _) q hq
        simp only [List.length_cons]
        omega
      · split at h
        · rename_i hw
          cases h
          exact ⟨hw, wordN_le _⟩
        · split at h
          · rename_i hw
            cases h
            exact ⟨hw, numN_le _⟩
          · cases h
theorem tokL_fuel : ∀ (n m : Nat) (l : List UInt8) (at_ : Nat) (acc : List Tok), l.length ≤ n → l.length ≤ m → tokL n l at_ acc = tokL m l at_ acc
  | _, _, [], _, _, _, _ => by simp [tokL]
  | 0, _, c :: t, _, _, h, _ => by simp at h
  | _, 0, c :: t, _, _, _, h => by simp at h
  | n + 1, m + 1, c :: t, at_, acc, h1, h2 => by
    simp only [List.length_cons] at h1 h2
    simp only [tokL]
    split
    · exact tokL_fuel n m t _ _ (by omega) (by omega)
    · cases hx : nextL (c :: t) with
      | none => rfl
      | some r =>
        obtain ⟨k, x, q⟩ := r
        have := nextL_le _ _ hx
        simp only at this ⊢
        exact tokL_fuel n m _ _ _ (by rw [List.length_drop, List.length_cons]; omega) (by rw [List.length_drop, List.length_cons]; omega)
def tt (l : List UInt8) (at_ : Nat) (acc : List Tok) : List Tok × Nat × Nat := tokL l.length l at_ acc
theorem tt_nil (at_ : Nat) (acc : List Tok) : tt [] at_ acc = (acc, 0, 0) := by simp [tt, tokL]
theorem tt_blank (c : UInt8) (t : List UInt8) (at_ : Nat) (acc : List Tok) (h : isBlankB c = true) : tt (c :: t) at_ acc = tt t (at_ + 1) acc := by
  unfold tt
  simp [tokL, h]
theorem tt_none (c : UInt8) (t : List UInt8) (at_ : Nat) (acc : List Tok) (h : isBlankB c = false) (hn : nextL (c :: t) = none) : tt (c :: t) at_ acc = ([], at_, 4) := by
  unfold tt
  simp [tokL, h, hn]
theorem tt_some (c : UInt8) (t : List UInt8) (at_ : Nat) (acc : List Tok) (h : isBlankB c = false) {k : Nat} {x : List UInt8} {m : Nat} (hn : nextL (c :: t) = some (k, x, m)) :
    tt (c :: t) at_ acc = tt ((c :: t).drop m) (at_ + m) (acc ++ [⟨k, x, at_, at_ + m⟩]) := by
  have := nextL_le _ _ hn
  simp only [List.length_cons] at this
  unfold tt
  simp only [List.length_cons, tokL, h, hn, Bool.false_eq_true, if_false]
  exact tokL_fuel _ _ _ _ _ (by rw [List.length_drop, List.length_cons]; omega) (Nat.le_refl _)
/-- behind a word a valid text goes on valid -/
theorem run_ascii (p : UInt8 → Bool) (hp : ∀ c, p c = true → c.toNat < 128) (l : List UInt8) : ∀ j, j < run p l → ∃ b, l[j]? = some b ∧ b.toNat < 128 := by
  intro j hj
  have h1 : j < (l.takeWhile p).length := hj
  have h2 := List.takeWhile_prefix p (l := l)
  have h3 : l[j]? = (l.takeWhile p)[j]? := by
    obtain ⟨t, ht⟩ := h2
    conv => lhs; rw [← ht]
    rw [List.getElem?_append_left h1]
  rw [List.getElem?_eq_getElem h1] at h3
  refine ⟨_, h3, hp _ ?_⟩
  exact List.all_eq_true.1 (List.all_takeWhile (l := l) (p := p)) _ (List.getElem_mem h1)
theorem isDig_low : ∀ c : UInt8, isDig c = true → c.toNat < 128 := forall_u8 (by decide +kernel)
theorem isLow_low : ∀ c : UInt8, isLow c = true → c.toNat < 128 := forall_u8 (by decide +kernel)
def Asc (l : List UInt8) (n : Nat) : Prop := ∀ j, j < n → ∃ b, l[j]? = some b ∧ b.toNat < 128
theorem Asc.add {l : List UInt8} {n m : Nat} (h : Asc l n) (h2 : Asc (l.drop n) m) : Asc l (n + m) := by
  intro j hj
  by_cases hn : j < n
  · exact h j hn
  · obtain ⟨b, hb, hb2⟩ := h2 (j - n) (by omega)
    rw [List.getElem?_drop, show n + (j - n) = j by omega] at hb
    exact ⟨b, hb, hb2⟩
theorem Asc.one {l : List UInt8} {n : Nat} (h : Asc l n) {c : UInt8} (hc : l[n]? = some c) (hl : c.toNat < 128) : Asc l (n + 1) := by
  intro j hj
  by_cases hn : j < n
  · exact h j hn
  · obtain rfl : j = n := by omega
    exact ⟨c, hc, hl⟩
theorem asc_run (l : List UInt8) (n : Nat) (h : Asc l n) : Asc l (n + run isDig (l.drop n)) := h.add (run_ascii isDig isDig_low _)
theorem asc_num (l : List UInt8) : Asc l (numN l) := by
  have h0 : Asc l 0 := fun j hj => by omega
  have h1 : Asc l (negN l) := by
    unfold negN
    split
    · rename_i h; exact h0.one h (by decide)
    · exact h0
  have h2 : Asc l (intN l (negN l)) := by
    unfold intN
    split
    · rename_i h; exact h1.one h (by decide)
    · exact asc_run l _ h1
  have h3 : ∀ n, Asc l n → Asc l (dotN l n) := fun n hn => by
    unfold dotN
    split
    · rename_i h; exact asc_run l _ (hn.one h.1 (by decide))
    · exact hn
  have h4 : ∀ n, Asc l n → Asc l (signN l n) := fun n hn => by
    unfold signN
    split
    · rename_i h
      rcases h with h | h
      · exact hn.one h (by decide)
      · exact hn.one h (by decide)
    · exact hn
  have h5 : ∀ n, Asc l n → Asc l (expN l n) := fun n hn => by
    unfold expN
    split
    · rename_i h
      rcases h.1 with h | h
      · exact asc_run l _ (h4 _ (hn.one h (by decide)))
      · exact asc_run l _ (h4 _ (hn.one h (by decide)))
    · exact hn
  unfold numN
  split
  · exact h0
  · exact h5 _ (h3 _ h2)
theorem asc_word (l : List UInt8) : Asc l (wordN l) := by
  unfold wordN
  split
  · exact run_ascii isLow isLow_low l
  · exact fun j hj => by omega
theorem valid_asc (l : List UInt8) (n : Nat) (h : Asc l n) (hv : validD l = true) : validD (l.drop n) = true := valid_drop_ascii n l h hv
/-- behind a string a valid text goes on valid -/
theorem valid_qq : ∀ (k : Nat) (l : List UInt8), l.length ≤ k → validD l = true → ∀ r, qq l = some r → validD (l.drop r.2) = true
  | _, [], _, _, r, h => by rw [qq_nil] at h; cases h
  | 0, c :: t, hk, _, r, h => by simp at hk
  | k + 1, c :: t, hk, hv, r, h => by
    simp only [List.length_cons] at hk
    obtain ⟨hp, hv2⟩ := valid_step (c :: t) (by simp) hv
    obtain ⟨e1, e2, e3⟩ := dec_point_bytes (c :: t) (by simp) hp
    unfold headW at hv2
    have f34 := dec_first c t 34 (by omega)
    have f92 := dec_first c t 92 (by omega)
    by_cases h34 : (decodeL (c :: t)).1 = 34
    · obtain rfl : c = 34 := UInt8.toNat_inj.1 (f34.1 h34)
      rw [qq_end] at h
      cases h
      exact valid_ascii 34 t (by decide) hv
    by_cases h92 : (decodeL (c :: t)).1 = 92
    · obtain rfl : c = 92 := UInt8.toNat_inj.1 (f92.1 h92)
      rw [qq_esc] at h
      split at h
      · cases h
      · obtain ⟨q, hq, rfl⟩ := Option.map_eq_some_iff.1 h
        have hvt := valid_asc t _ (esc_ascii t).1 (valid_ascii 92 t (by decide) hv)
        have := valid_qq k _ (by rw [List.length_drop]; omega) hvt q hq
        rw [List.drop_drop] at this
        rw [show q.2 + 1 + (escR t).2 = ((escR t).2 + q.2) + 1 by omega, List.drop_succ_cons]
        exact this
    by_cases h32 : (decodeL (c :: t)).1 < 32
    · have hc : c.toNat < 32 := by
        by_cases hb : c.toNat < 128
        · rw [decodeL_ascii c t hb] at h32; exact h32
        · have := dec_high c t (by omega); omega
      rw [qq_ctl c t hc] at h
      cases h
    · rw [qq_point (c :: t) (by simp) hp h34 h32 h92] at h
      obtain ⟨q, hq, rfl⟩ := Option.map_eq_some_iff.1 h
      simp only [List.length_cons] at e2
      have := valid_qq k _ (by rw [List.length_drop, List.length_cons]; omega) hv2 q hq
      rw [List.drop_drop] at this
      rw [show q.2 + (decodeL (c :: t)).2 = (decodeL (c :: t)).2 + q.2 by omega]
      exact this
theorem mark_low : ∀ c : UInt8, isMarkB c = true → c.toNat < 128 := forall_u8 (by decide +kernel)
theorem valid_next (l : List UInt8) (hv : validD l = true) (r : Nat × List UInt8 × Nat) (h : nextL l = some r) : validD (l.drop r.2.2) = true := by
  cases l with
  | nil => cases h
  | cons c t =>
    rw [nextL_cons] at h
    split at h
    · rename_i hm
      cases h
      exact valid_ascii c t (mark_low c hm) hv
    · split at h
      · rename_i h34
        subst h34
        obtain ⟨q, hq, rfl⟩ := Option.map_eq_some_iff.1 h
        simp only [List.drop_succ_cons]
        exact valid_qq _ t (Nat.le_refl _) (valid_ascii 34 t (by decide) hv) q hq
      · split at h
        · cases h; exact valid_asc _ _ (asc_word _) hv
        · split at h
          · cases h; exact valid_asc _ _ (asc_num _) hv
          · cases h
end Go.Proofs.Jt
