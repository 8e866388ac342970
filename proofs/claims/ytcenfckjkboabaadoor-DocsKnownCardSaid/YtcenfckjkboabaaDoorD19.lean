/- A change of a valid text by a valid text leaves a valid text. No program in sight. -/
import Derived.Test.YtcenfckjkboabaaDoorPlain3
import Derived.Test.YtcenfckjkboabaaDoorDr
import Derived.Test.YtcenfckjkboabaaDoorD3
namespace Go.Proofs.Dc
open Go.Lib Go.Proofs.Utf

theorem valid_app (l m : List UInt8) (h : validD l = true) : validD (l ++ m) = validD m := valid_append _ l m (Nat.le_refl _) h
theorem valid_ascii (b : UInt8) (h : b.toNat < 128) : validD [b] = true := by
  have h1 : Hit [b] 1 := (Hit1 [b] (by simp)).2 (by simpa using h)
  have hf := found [b] 1 (by decide) (by decide) (by simp) h1
  rw [validD_step [b] (by simp), hf]
  have hc := cand_ne [b] 1 (by decide) (by decide) (by simp) h1
  rw [if_neg hc]
  rfl
theorem valid_head (l : List UInt8) (hne : l ≠ []) (h : validD l = true) : validD (l.take (headW l)) = true := by
  obtain ⟨hp, _⟩ := valid_step l hne h
  obtain ⟨k, h1, h4, hk, hh⟩ := pt_hit l hne hp
  have hw : headW l = k := by unfold headW; rw [found l k h1 h4 hk hh]
  rw [hw, ← hh.2]
  exact enc_valid _ hh.1
theorem high_tail (l : List UInt8) (k i : Nat) (h1 : 1 ≤ k) (h4 : k ≤ 4) (hk : k ≤ l.length) (hh : Hit l k) (hi : 0 < i) (hik : i < k) : 128 ≤ (l.getD i 0).toNat := by
  rcases (show k = 1 ∨ k = 2 ∨ k = 3 ∨ k = 4 by omega) with rfl | rfl | rfl | rfl
  · omega
  · obtain rfl : i = 1 := by omega
    have := ((Hit2 l hk).1 hh).2.1
    omega
  · have h3 := (Hit3 l hk).1 hh
    have := h3.2.1
    have := h3.2.2.1
    rcases (show i = 1 ∨ i = 2 by omega) with rfl | rfl <;> omega
  · have h3 := (Hit4 l hk).1 hh
    have := h3.2.1
    have := h3.2.2.1
    have := h3.2.2.2.1
    rcases (show i = 1 ∨ i = 2 ∨ i = 3 by omega) with rfl | rfl | rfl <;> omega
/-- what stands ahead of an ASCII byte in a valid text is valid -/
theorem valid_ahead : ∀ (n : Nat) (l r : List UInt8) (b : UInt8), l.length ≤ n → b.toNat < 128 → validD (l ++ b :: r) = true → validD l = true
  | 0, l, r, b, h, _, _ => by
    have : l = [] := List.eq_nil_of_length_eq_zero (by omega)
    subst this; rfl
  | n + 1, l, r, b, h, hb, hv => by
    by_cases hne : l = []
    · subst hne; rfl
    · have hl : 0 < l.length := List.length_pos_iff.2 hne
      have hne2 : l ++ b :: r ≠ [] := by simp
      obtain ⟨hp, hv2⟩ := valid_step _ hne2 hv
      obtain ⟨k, h1, h4, hk, hh⟩ := pt_hit _ hne2 hp
      have hw : headW (l ++ b :: r) = k := by unfold headW; rw [found _ k h1 h4 hk hh]
      have hkl : k ≤ l.length := by
        rcases Nat.lt_or_ge l.length k with hlt | hge
        · have := high_tail _ k l.length h1 h4 hk hh hl hlt
          rw [List.getD_eq_getElem?_getD, List.getElem?_append_right (Nat.le_refl _), Nat.sub_self] at this
          simp at this
          omega
        · exact hge
      have hd : (l ++ b :: r).drop k = l.drop k ++ b :: r := List.drop_append_of_le_length hkl
      rw [hw, hd] at hv2
      have ih := valid_ahead n (l.drop k) r b (by rw [List.length_drop]; omega) hb hv2
      have ht : l.take k = (l ++ b :: r).take k := (List.take_append_of_le_length hkl).symm
      have hvt : validD (l.take k) = true := by
        rw [ht, ← hw]
        exact valid_head _ hne2 hv
      rw [← List.take_append_drop k l, valid_app _ _ hvt]
      exact ih
def brk (b : UInt8) : Prop := b = 10 ∨ b = 13
/-- where lines begin and end -/
theorem lines_brk : ∀ (l : List UInt8) (cr : Bool) (f a : Nat), ∀ x ∈ linesP l cr f a,
    (x.1 = f ∨ ∃ j c, x.1 = a + j + 1 ∧ l[j]? = some c ∧ brk c) ∧ (x.2 = a + l.length ∨ ∃ j c, x.2 = a + j ∧ l[j]? = some c ∧ brk c)
  | [], cr, f, a, x, hx => by
    simp [linesP] at hx
    subst hx
    exact ⟨.inl rfl, .inl (by simp)⟩
  | b :: r, cr, f, a, x, hx => by
    have up1 : (∃ j c, x.1 = a + 1 + j + 1 ∧ r[j]? = some c ∧ brk c) → ∃ j c, x.1 = a + j + 1 ∧ (b :: r)[j]? = some c ∧ brk c := fun ⟨j, c, h1, h2, h3⟩ => ⟨j + 1, c, by omega, by simpa using h2, h3⟩
    have up2 : (x.2 = a + 1 + r.length ∨ ∃ j c, x.2 = a + 1 + j ∧ r[j]? = some c ∧ brk c) → x.2 = a + (b :: r).length ∨ ∃ j c, x.2 = a + j ∧ (b :: r)[j]? = some c ∧ brk c := fun h => by
      rcases h with h | ⟨j, c, h1, h2, h3⟩
      · exact .inl (by simp; omega)
      · exact .inr ⟨j + 1, c, by omega, by simpa using h2, h3⟩
    simp only [linesP] at hx
    split at hx
    · rename_i hc
      have hb : brk b := .inl (by simpa using (Bool.and_eq_true_iff.1 hc).2)
      obtain ⟨g1, g2⟩ := lines_brk r false (a + 1) (a + 1) x hx
      refine ⟨?_, up2 g2⟩
      rcases g1 with g1 | g1
      · exact .inr ⟨0, b, by omega, rfl, hb⟩
      · exact .inr (up1 g1)
    · split at hx
      · rename_i hc
        have hb : brk b := by
          rcases Bool.or_eq_true_iff.1 hc with h | h
          · exact .inl (by simpa using h)
          · exact .inr (by simpa using h)
        rcases List.mem_cons.1 hx with rfl | hx
        · exact ⟨.inl rfl, .inr ⟨0, b, rfl, rfl, hb⟩⟩
        · obtain ⟨g1, g2⟩ := lines_brk r _ (a + 1) (a + 1) x hx
          refine ⟨?_, up2 g2⟩
          rcases g1 with g1 | g1
          · exact .inr ⟨0, b, by omega, rfl, hb⟩
          · exact .inr (up1 g1)
      · obtain ⟨g1, g2⟩ := lines_brk r false f (a + 1) x hx
        refine ⟨?_, up2 g2⟩
        rcases g1 with g1 | g1
        · exact .inl g1
        · exact .inr (up1 g1)
theorem brk_ascii {b : UInt8} (h : brk b) : b.toNat < 128 := by rcases h with rfl | rfl <;> decide
theorem take_at {l : List UInt8} {j : Nat} {c : UInt8} (h : l[j]? = some c) : l = l.take j ++ c :: l.drop (j + 1) := by
  obtain ⟨hl, he⟩ := List.getElem?_eq_some_iff.1 h
  conv => lhs; rw [← List.take_append_drop j l, List.drop_eq_getElem_cons hl, he]
theorem valid_take_at {l : List UInt8} (hv : validD l = true) {j : Nat} {c : UInt8} (h : l[j]? = some c) (hc : brk c) : validD (l.take j) = true ∧ validD (l.take (j + 1)) = true := by
  have e := take_at h
  have h1 : validD (l.take j) = true := by
    rw [e] at hv
    exact valid_ahead _ _ _ c (Nat.le_refl _) (brk_ascii hc) hv
  refine ⟨h1, ?_⟩
  obtain ⟨hl, he⟩ := List.getElem?_eq_some_iff.1 h
  rw [List.take_succ_eq_append_getElem hl, valid_app _ _ h1, he]
  exact valid_ascii c (brk_ascii hc)
theorem line_bounds {l : List UInt8} (hv : validD l = true) {x : Nat × Nat} (hx : x ∈ linesL l) : validD (l.take x.1) = true ∧ validD (l.take x.2) = true := by
  obtain ⟨h1, h2⟩ := lines_brk l false 0 0 x hx
  constructor
  · rcases h1 with h1 | ⟨j, c, h1, hj, hc⟩
    · rw [h1]; rfl
    · rw [h1, Nat.zero_add]; exact (valid_take_at hv hj hc).2
  · rcases h2 with h2 | ⟨j, c, h2, hj, hc⟩
    · rw [h2, Nat.zero_add, List.take_of_length_le (Nat.le_refl _)]; exact hv
    · rw [h2, Nat.zero_add]; exact (valid_take_at hv hj hc).1
/-- the byte of a unit is a boundary -/
theorem byte_bound : ∀ (n : Nat) (l : List UInt8) (pos acc : Nat) (want : Int), l.length ≤ n → validD l = true → ∃ k, byteP (pieces l) pos acc want = pos + k ∧ k ≤ l.length ∧ validD (l.take k) = true
  | 0, l, pos, acc, want, h, hv => by
    have : l = [] := List.eq_nil_of_length_eq_zero (by omega)
    subst this
    exact ⟨0, rfl, Nat.le_refl _, rfl⟩
  | n + 1, l, pos, acc, want, h, hv => by
    by_cases hne : l = []
    · subst hne
      exact ⟨0, rfl, Nat.le_refl _, rfl⟩
    · rw [pieces_step l hne, byteP]
      split
      · exact ⟨0, rfl, Nat.zero_le _, rfl⟩
      · obtain ⟨_, hv2⟩ := valid_step l hne hv
        have hw := headW_pos l
        have hle := headW_le l (List.length_pos_iff.2 hne)
        obtain ⟨k, h1, h2, h3⟩ := byte_bound n (l.drop (headW l)) (pos + headW l) (acc + wt (decodeL l).1) want (by rw [List.length_drop]; omega) hv2
        refine ⟨headW l + k, by rw [h1]; omega, by rw [List.length_drop] at h2; omega, ?_⟩
        rw [List.take_add, valid_app _ _ (valid_head l hne hv)]
        exact h3
open YtcenfckjkboabaaDoor in
/-- a place is a boundary -/
theorem off_bound {s : ByteArray} (hv : validD s.data.toList = true) (a b : Int) : ∃ k : Nat, (offP s a b).1 = k ∧ k ≤ s.size ∧ validD (s.data.toList.take k) = true := by
  unfold offP
  split
  · exact ⟨0, rfl, Nat.zero_le _, rfl⟩
  · split
    · exact ⟨s.size, rfl, Nat.le_refl _, by rw [Lib.size_eq, List.take_of_length_le (Nat.le_refl _)]; exact hv⟩
    · rename_i x hl
      have hx := lineAt_in hl
      have hmem : x ∈ linesL s.data.toList := by
        unfold lineAt at hl
        split at hl
        · exact List.mem_of_getElem? hl
        · cases hl
      obtain ⟨h1, h2⟩ := line_bounds hv hmem
      have hline : (lineB s x).data.toList = (s.data.toList.drop x.1).take (x.2 - x.1) := ext_list _ _ _
      have e2 : s.data.toList.take x.2 = s.data.toList.take x.1 ++ (s.data.toList.drop x.1).take (x.2 - x.1) := by
        rw [← List.take_add, show x.1 + (x.2 - x.1) = x.2 by omega]
      rw [e2, valid_app _ _ h1, ← hline] at h2
      obtain ⟨k, k1, k2, k3⟩ := byte_bound _ (lineB s x).data.toList 0 0 b (Nat.le_refl _) h2
      refine ⟨x.1 + k, ?_, ?_, ?_⟩
      · simp only
        rw [k1]
        omega
      · rw [hline, List.length_take, List.length_drop, ← Lib.size_eq] at k2
        omega
      · rw [List.take_add, valid_app _ _ h1]
        rw [hline, List.take_take] at k3
        have hk : k ≤ x.2 - x.1 := by
          rw [hline, List.length_take] at k2
          omega
        rw [Nat.min_eq_left hk] at k3
        exact k3
theorem valid_drop {l : List UInt8} (hv : validD l = true) {k : Nat} (h : validD (l.take k) = true) : validD (l.drop k) = true := by
  rw [← List.take_append_drop k l, valid_app _ _ h] at hv
  exact hv
theorem step_valid {s t : ByteArray} {x : Chg} (hv : validD s.data.toList = true) (h : stepV s x = (t, 0)) : validD t.data.toList = true := by
  have hx : validD x.text.data.toList = true := by
    cases hb : validD x.text.data.toList with
    | true => rfl
    | false => rw [stepV_bad hb] at h; cases h
  have hpl : ∃ f g : Nat, (x.places s).1 = f ∧ (x.places s).2.1 = g ∧ validD (s.data.toList.take f) = true ∧ validD (s.data.toList.take g) = true ∧ g ≤ s.size := by
    unfold Chg.places
    split
    · exact ⟨0, s.size, rfl, rfl, rfl, by rw [Lib.size_eq, List.take_of_length_le (Nat.le_refl _)]; exact hv, Nat.le_refl _⟩
    · unfold YtcenfckjkboabaaDoor.cutP
      obtain ⟨f, f1, f2, f3⟩ := off_bound hv x.a x.b
      obtain ⟨g, g1, g2, g3⟩ := off_bound hv x.c x.d
      split
      · exact ⟨0, 0, rfl, rfl, rfl, rfl, Nat.zero_le _⟩
      · exact ⟨f, g, f1, g1, f3, g3, g2⟩
  obtain ⟨f, g, hf, hg, v1, v2, hgs⟩ := hpl
  unfold stepV at h
  rw [if_neg (by rw [hx]; decide)] at h
  split at h
  · rename_i hh; exact absurd (congrArg Prod.snd h) hh
  · split at h
    · cases h
    · cases h
      rw [hf, hg]
      simp only [Int.toNat_natCast, ByteArray.data_append, Array.toList_append]
      rw [ext_list, List.drop_zero, Nat.sub_zero, Lib.extract_to_end, List.append_assoc, valid_app _ _ v1, valid_app _ _ hx]
      exact valid_drop hv v2
theorem after_valid {s : ByteArray} {cs : List Chg} (hv : validD s.data.toList = true) (h : (afterV s cs).2 = 0) : validD (afterV s cs).1.data.toList = true := by
  induction cs generalizing s with
  | nil => exact hv
  | cons x r ih =>
    rw [afterV] at h ⊢
    by_cases h0 : (stepV s x).2 = 0
    · rw [if_pos h0] at h ⊢
      exact ih (step_valid hv (t := (stepV s x).1) (by rw [← h0])) h
    · rw [if_neg h0] at h
      exact absurd h h0
end Go.Proofs.Dc
