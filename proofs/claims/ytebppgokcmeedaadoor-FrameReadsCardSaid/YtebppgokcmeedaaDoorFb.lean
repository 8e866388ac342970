/- Frames: what Put has made, Next takes out again, however the bytes come in. No program in sight. -/
import Derived.Test.YtebppgokcmeedaaDoorFq
namespace Go.Proofs.Fr
open Go.Lib

theorem decDigits_dig (u : Nat) : ∀ c ∈ decDigits u, 48 ≤ c.toNat ∧ c.toNat ≤ 57 := by
  induction u using Nat.strongRecOn with
  | _ u ih =>
    have one : ∀ k, k < 10 → 48 ≤ (UInt8.ofNat (48 + k)).toNat ∧ (UInt8.ofNat (48 + k)).toNat ≤ 57 := fun k hk => by
      rw [UInt8.toNat_ofNat']; omega
    rw [decDigits]
    split
    · rename_i h
      intro c hc
      rw [List.mem_singleton] at hc
      subst hc
      exact one u h
    · rename_i h
      intro c hc
      rcases List.mem_append.1 hc with h1 | h1
      · exact ih (u / 10) (by omega) c h1
      · rw [List.mem_singleton] at h1
        subst h1
        exact one _ (by omega)
theorem decV_append (l r : List UInt8) (n : Nat) : decV (l ++ r) n = decV r (decV l n) := by
  induction l generalizing n with
  | nil => rfl
  | cons c t ih => exact ih _
theorem decV_digits (u : Nat) : decV (decDigits u) 0 = u := by
  induction u using Nat.strongRecOn with
  | _ u ih =>
    have one : ∀ k, k < 10 → (UInt8.ofNat (48 + k)).toNat = 48 + k := fun k hk => by
      rw [UInt8.toNat_ofNat']; omega
    rw [decDigits]
    split
    · rename_i h
      show 10 * 0 + ((UInt8.ofNat (48 + u)).toNat - 48) = u
      rw [one u h]; omega
    · rename_i h
      rw [decV_append, ih (u / 10) (by omega)]
      show 10 * (u / 10) + ((UInt8.ofNat (48 + u % 10)).toNat - 48) = u
      rw [one _ (by omega)]; omega
theorem itoa_nat (n : Nat) : itoa (n : Int) = decDigits n := by
  unfold itoa
  rw [if_neg (by omega)]; rfl
def headPut (n : Nat) : List UInt8 := [67, 111, 110, 116, 101, 110, 116, 45, 76, 101, 110, 103, 116, 104, 58, 32] ++ decDigits n
theorem putL_eq (b : List UInt8) : putL b = headPut b.length ++ (end4 ++ b) := by
  unfold putL headPut
  rw [itoa_nat]
  simp [List.append_assoc]
theorem nDigits_le {n : Nat} (h : n < 1000000) : nDigits n ≤ 6 := by
  by_cases h6 : nDigits n ≤ 6
  · exact h6
  · exfalso
    have key : ∀ (k u : Nat), u < 10 ^ (k + 1) → nDigits u ≤ k + 1 := by
      intro k
      induction k with
      | zero => intro u hu; rw [nDigits_small (by simpa using hu)]; exact Nat.le_refl _
      | succ k ih =>
        intro u hu
        by_cases h : u < 10
        · rw [nDigits_small h]; omega
        · rw [nDigits_big h]
          have := ih (u / 10) (by rw [Nat.pow_succ] at hu; omega)
          omega
    exact h6 (key 5 n (by omega))
theorem headPut_len (n : Nat) : (headPut n).length = 16 + nDigits n := by
  unfold headPut
  rw [List.length_append, decDigits_length]; rfl
theorem headPut_no13 (n : Nat) : ∀ c ∈ headPut n, c ≠ 13 := by
  intro c hc e
  subst e
  rcases List.mem_append.1 hc with h | h
  · revert h; decide
  · have := (decDigits_dig n 13 h).1
    revert this; decide
theorem index_no13 {l sub : List UInt8} (h : ∀ c ∈ l, c ≠ 13) : index l (13 :: sub) = -1 := by
  rcases index_spec l (13 :: sub) with ⟨h1, _⟩ | ⟨i, _, _, h3, _⟩
  · exact h1
  · exfalso
    have := (occ_at.1 h3).1
    have e := congrArg (·[0]?) this
    rw [List.getElem?_take_of_lt (by simp), List.getElem?_drop, Nat.add_zero] at e
    exact h 13 (List.mem_of_getElem? e) rfl
theorem head_put (n : Nat) (hn : n < 1000000) : headL (headPut n) = n := by
  have h1 : lns (headPut n) = [headPut n] := lns_none (index_no13 (headPut_no13 n))
  have hne : decDigits n ≠ [] := fun e => by
    have := decDigits_length n
    rw [e] at this
    have := nDigits_pos n
    simp at *
    omega
  have h2 : named (headPut n) nameLen = some (32 :: decDigits n) := by
    unfold named headPut
    rw [if_pos]
    · rfl
    · exact ⟨rfl, rfl⟩
  have hsk : skip (32 :: decDigits n) = decDigits n := by
    unfold skip
    rw [List.dropWhile_cons, if_pos (by decide)]
    cases hd : decDigits n with
    | nil => rfl
    | cons c t =>
      have := decDigits_dig n c (by rw [hd]; exact List.mem_cons_self)
      rw [List.dropWhile_cons, if_neg]
      intro e
      rw [beq_iff_eq] at e
      subst e
      revert this; decide
  have hnum : numV (32 :: decDigits n) = n := by
    unfold numV
    rw [hsk, decV_digits, if_neg]
    rintro (h | h | h)
    · exact hne h
    · rw [decDigits_length] at h
      have := nDigits_le hn
      omega
    · rw [← Bool.not_eq_true, List.all_eq_true] at h
      exact h fun c hc => decide_eq_true (decDigits_dig n c hc)
  unfold headL
  rw [h1]
  unfold headGo
  rw [h2]
  simp only
  rw [hnum, if_pos ⟨trivial, by omega⟩]
  rfl
theorem next_putL (b : List UInt8) (hb : b.length ≤ 262144) : nextV (putL b) = ⟨b, true, 0, []⟩ := by
  have hd := nDigits_le (n := b.length) (by omega)
  have hl := headPut_len b.length
  have he : endAt (putL b) = ((headPut b.length).length : Nat) := by
    rw [putL_eq]
    refine end_some (by omega) (by simp [end4]) (by rw [List.drop_left]; rfl) fun j hj h => ?_
    have e := congrArg (·[0]?) h
    rw [List.getElem?_take_of_lt (by decide), List.getElem?_drop, Nat.add_zero, List.getElem?_append_left hj] at e
    exact headPut_no13 _ 13 (List.mem_of_getElem? e) rfl
  have ht : (putL b).take (headPut b.length).length = headPut b.length := by rw [putL_eq, List.take_left]
  have hz : (putL b).length = (headPut b.length).length + 4 + b.length := by
    rw [putL_eq, List.length_append, List.length_append]; simp [end4]; omega
  have hdr : (putL b).drop ((headPut b.length).length + 4) = b := by
    rw [putL_eq, ← List.append_assoc]
    have : (headPut b.length).length + 4 = (headPut b.length ++ end4).length := by rw [List.length_append]; rfl
    rw [this, List.drop_left]
  unfold nextV
  rw [he]
  simp only [Int.toNat_natCast]
  rw [ht, head_put b.length (by omega), if_neg (by omega), if_neg (by omega), if_neg (by omega)]
  simp only [Int.toNat_natCast]
  rw [if_neg (by omega), hdr, List.take_of_length_le (Nat.le_refl _), List.drop_of_length_le (by omega)]
theorem next_put (b t : List UInt8) (hb : b.length ≤ 262144) : nextV (putL b ++ t) = ⟨b, true, 0, t⟩ := by
  have h := next_putL b hb
  rw [next_more _ t (.inl (by rw [h])), h]
  rfl
def flat (l : List (List UInt8)) : List UInt8 := (l.map putL).flatten
theorem flat_cons (b : List UInt8) (l : List (List UInt8)) : flat (b :: l) = putL b ++ flat l := rfl
theorem flat_snoc (l : List (List UInt8)) (b : List UInt8) : flat (l ++ [b]) = flat l ++ putL b := by
  unfold flat
  rw [List.map_append, List.flatten_append]
  simp
/-- a part of a frame alone says nothing yet -/
theorem next_part (b g t : List UInt8) (hb : b.length ≤ 262144) (h : g ++ t = putL b) (ht : t ≠ []) : (nextV g).ok = false ∧ (nextV g).err = 0 := by
  by_cases hd : (nextV g).ok = true ∨ (nextV g).err ≠ 0
  · have := next_more g t hd
    rw [h, next_putL b hb] at this
    have e := congrArg Nxt.held this
    exact absurd (List.append_eq_nil_iff.1 e.symm).2 ht
  · refine ⟨?_, ?_⟩
    · cases ho : (nextV g).ok with
      | false => rfl
      | true => exact absurd (.inl ho) hd
    · exact Classical.byContradiction fun h => hd (.inr h)
/-- all that comes out of the beginning g of what was put -/
theorem dr_flat : ∀ (rs : List (List UInt8)) (g t : List UInt8), (∀ b ∈ rs, b.length ≤ 262144) → g ++ t = flat rs →
    ∃ m h', m ≤ rs.length ∧ Dr g (rs.take m) 0 h' ∧ h' ++ t = flat (rs.drop m)
  | [], g, t, _, h => by
    obtain ⟨rfl, rfl⟩ := List.append_eq_nil_iff.1 h
    exact ⟨0, [], Nat.le_refl _, .stop (by decide +kernel) (by decide +kernel), rfl⟩
  | b :: rs, g, t, hb, h => by
    have hb0 := hb b List.mem_cons_self
    rw [flat_cons] at h
    by_cases hg : (putL b).length ≤ g.length
    · obtain ⟨g', hg'⟩ : ∃ g', g = putL b ++ g' := by
        have e := congrArg (List.take (putL b).length) h
        rw [List.take_left, List.take_append_of_le_length hg] at e
        exact ⟨g.drop (putL b).length, by conv => lhs; rw [← List.take_append_drop (putL b).length g, e]⟩
      subst hg'
      rw [List.append_assoc, List.append_cancel_left_eq] at h
      obtain ⟨m, h', hm, hd, hf⟩ := dr_flat rs g' t (fun x hx => hb x (List.mem_cons_of_mem _ hx)) h
      have hn := next_put b g' hb0
      have := Dr.step (h := putL b ++ g') (h' := h') (bs := rs.take m) (e := 0) (by rw [hn]) (by rw [hn]; exact hd)
      rw [hn] at this
      exact ⟨m + 1, h', by simp; omega, this, hf⟩
    · obtain ⟨t', ht', hne⟩ : ∃ t', g ++ t' = putL b ∧ t' ≠ [] := by
        have e := congrArg (List.take g.length) h
        rw [List.take_left, List.take_append_of_le_length (by omega)] at e
        refine ⟨(putL b).drop g.length, ?_, fun hh => ?_⟩
        · conv => rhs; rw [← List.take_append_drop g.length (putL b), ← e]
        · have := congrArg List.length hh
          rw [List.length_drop] at this
          simp at this
          omega
      obtain ⟨h1, h2⟩ := next_part b g t' hb0 ht' hne
      exact ⟨0, g, Nat.zero_le _, .stop h1 h2, h⟩
theorem put_pos (b : List UInt8) : 0 < (putL b).length := by rw [putL_eq, List.length_append, headPut_len]; omega
/-- where all has come in, all has come out -/
theorem flat_end {rs : List (List UInt8)} {h' : List UInt8} (hb : ∀ b ∈ rs, b.length ≤ 262144) (h : h' = flat rs) (hk : (nextV h').ok = false) : rs = [] ∧ h' = [] := by
  cases rs with
  | nil => exact ⟨rfl, h⟩
  | cons b t =>
    rw [h, flat_cons, next_put b _ (hb b List.mem_cons_self)] at hk
    cases hk
theorem flat_len : ∀ (rs : List (List UInt8)), (∀ b ∈ rs, b.length ≤ 3000) → (flat rs).length ≤ 3026 * rs.length
  | [], _ => by simp [flat]
  | b :: t, h => by
    have := flat_len t (fun x hx => h x (List.mem_cons_of_mem _ hx))
    have hb := h b List.mem_cons_self
    have hd := nDigits_le (n := b.length) (by omega)
    rw [flat_cons, List.length_append, putL_eq, List.length_append, List.length_append, headPut_len, List.length_cons]
    simp only [end4, List.length_cons, List.length_nil]
    omega
end Go.Proofs.Fr
