/- Values of JSON, plain: a value's text has the value's words; words of a text are what they must be. No program in sight. -/
import Derived.Test.YtphiceebhncflaaDoorV3
import Derived.Test.YtphiceebhncflaaDoorJw2
namespace Go.Proofs.Jt
open Go.Lib Go.Proofs.Utf

theorem next_blank (c : UInt8) (t : List UInt8) (h : isBlankB c = true) : nextL (c :: t) = none := by
  have key : ∀ c : UInt8, isBlankB c = true → isMarkB c = false ∧ c ≠ 34 ∧ isLow c = false ∧ isDig c = false ∧ c ≠ 45 := forall_u8 (by decide +kernel)
  obtain ⟨h1, h2, h3, h4, h5⟩ := key c h
  rw [nextL_cons, h1, if_neg (by simp), if_neg h2, word_first c t h3, num_first c t h4 h5]
  rfl
theorem agree_take (l : List UInt8) (m : Nat) : Agree l (l.take m) m := fun j hj => by rw [List.getElem?_take_of_lt hj]
theorem agree_app (s l : List UInt8) : Agree s (s ++ l) s.length := fun j hj => by rw [List.getElem?_append_left hj]
/-- what a valid text's strings say is valid -/
theorem valid_qtext : ∀ (k : Nat) (l : List UInt8), l.length ≤ k → validD l = true → ∀ r, qq l = some r → validD r.1 = true
  | _, [], _, _, r, h => by rw [qq_nil] at h; cases h
  | 0, c :: t, hk, _, r, h => by simp at hk
  | k + 1, c :: t, hk, hv, r, h => by
    simp only [List.length_cons] at hk
    obtain ⟨hp, hv2⟩ := valid_step (c :: t) (by simp) hv
    obtain ⟨e1, e2, e3⟩ := dec_point_bytes (c :: t) (by simp) hp
    unfold headW at hv2
    have f34 := dec_first c t 34 (by omega)
    have f92 := dec_first c t 92 (by omega)
    by_cases h34 : (decodeL (c :: t)).1 = 34
    · obtain rfl : c = 34 := UInt8.toNat_inj.1 (f34.1 h34)
      rw [qq_end] at h
      cases h
      rfl
    by_cases h92 : (decodeL (c :: t)).1 = 92
    · obtain rfl : c = 92 := UInt8.toNat_inj.1 (f92.1 h92)
      rw [qq_esc] at h
      split at h
      · cases h
      · rename_i h0
        obtain ⟨q, hq, rfl⟩ := Option.map_eq_some_iff.1 h
        have hvt := valid_asc t _ (esc_ascii t).1 (valid_ascii 92 t (by decide) hv)
        have := valid_qtext k _ (by rw [List.length_drop]; omega) hvt q hq
        simp only
        rw [valid_append _ _ _ (Nat.le_refl _) (enc_valid _ ((esc_ascii t).2.1 h0))]
        exact this
    by_cases h32 : (decodeL (c :: t)).1 < 32
    · have hc : c.toNat < 32 := by
        by_cases hb : c.toNat < 128
        · rw [decodeL_ascii c t hb] at h32; exact h32
        · have := dec_high c t (by omega); omega
      rw [qq_ctl c t hc] at h
      cases h
    · rw [qq_point (c :: t) (by simp) hp h34 h32 h92] at h
      obtain ⟨q, hq, rfl⟩ := Option.map_eq_some_iff.1 h
      simp only [List.length_cons] at e2
      have := valid_qtext k _ (by rw [List.length_drop, List.length_cons]; omega) hv2 q hq
      simp only
      rw [valid_append _ _ _ (Nat.le_refl _) (by
        rw [e1]
        exact valid_take _ _ _ (Nat.le_refl _) (by simpa using e2) hv hv2)]
      exact this
theorem next_good {l : List UInt8} {k : Nat} {x : List UInt8} {m : Nat} (h : nextL l = some (k, x, m)) (hv : validD l = true) (hh : l[m]? ≠ some 46 ∧ l[m]? ≠ some 101 ∧ l[m]? ≠ some 69) : (k = 3 → numB x = true) ∧ (k = 4 → validD x = true) := by
  have hm := nextL_le l _ h
  simp only at hm
  refine ⟨fun hk => ?_, fun hk => ?_⟩
  · subst hk
    have hx := next_text l 3 x m h (by decide)
    subst hx
    unfold numB
    refine decide_eq_true ?_
    have hlen : (l.take m).length = m := by rw [List.length_take]; omega
    rw [hlen]
    refine next_same h (agree_take l m) ⟨fun c hc => ?_, hh⟩
    rw [List.getElem?_eq_none (by omega)] at hc
    cases hc
  · subst hk
    cases l with
    | nil => cases h
    | cons c t =>
      rw [nextL_cons] at h
      split at h
      · cases h
      · split at h
        · rename_i h34
          subst h34
          obtain ⟨q, hq, e⟩ := Option.map_eq_some_iff.1 h
          cases e
          exact valid_qtext _ t (Nat.le_refl _) (valid_ascii 34 t (by decide) hv) q hq
        · split at h
          · cases h
          · split at h
            · cases h
            · cases h
theorem Lx.good {l : List UInt8} {a : Nat} {T : List Tok} (h : Lx l a T) : validD l = true → goodK (kt T) := by
  induction h with
  | nil a => exact fun _ x hx => by cases hx
  | blank h _ ih => exact fun hv => ih (valid_ascii _ _ (blank_low _ h) hv)
  | @tok c t a T k x m h h1 h2 ih =>
    intro hv y hy
    have hm := nextL_le _ _ h1
    simp only at hm
    unfold kt at hy
    rw [List.map_cons, List.mem_cons] at hy
    rcases hy with rfl | hy
    · have hd := h2.head
      rw [List.getElem?_drop, Nat.add_zero] at hd
      exact next_good h1 hv hd
    · exact ih (valid_next _ hv _ h1) y hy
/-- a text of these words, wherever it stands -/
def LK (l : List UInt8) (K : List KT) : Prop := ∀ a, ∃ T, Lx l a T ∧ kt T = K
theorem LK.nil : LK [] [] := fun a => ⟨[], .nil a, rfl⟩
theorem LK.blanks {l : List UInt8} {K : List KT} (bs : List UInt8) (hb : ∀ b ∈ bs, isBlankB b = true) (h : LK l K) : LK (bs ++ l) K := fun a => by
  obtain ⟨T, h1, h2⟩ := h (a + bs.length)
  exact ⟨T, h1.blanks bs a hb, h2⟩
theorem LK.tok {l : List UInt8} {K : List KT} {s : List UInt8} {k : Nat} {x : List UInt8} (hn : nextL (s ++ l) = some (k, x, s.length)) (h : LK l K) : LK (s ++ l) ((k, x) :: K) := fun a => by
  obtain ⟨T, h1, h2⟩ := h (a + s.length)
  have hm := nextL_le _ _ hn
  cases s with
  | nil => simp at hm
  | cons c t =>
    have hb : isBlankB c = false := by
      cases hb : isBlankB c with
      | false => rfl
      | true => rw [List.cons_append, next_blank c _ hb] at hn; cases hn
    refine ⟨⟨k, x, a, a + (c :: t).length⟩ :: T, .tok hb hn ?_, ?_⟩
    · show Lx (List.drop (c :: t).length ((c :: t) ++ l)) _ T
      rw [List.drop_left]
      exact h1
    · unfold kt at h2 ⊢
      rw [List.map_cons, h2]
theorem LK.mark {l : List UInt8} {K : List KT} (c : UInt8) (hc : isMarkB c = true) (h : LK l K) : LK (c :: l) ((1, [c]) :: K) :=
  LK.tok (s := [c]) (by rw [List.singleton_append, nextL_cons, if_pos hc]; rfl) h
theorem LK.quote {l : List UInt8} {K : List KT} (s : List UInt8) (h : LK l K) : LK (quoteL s ++ l) ((4, s) :: K) :=
  LK.tok (s := quoteL s) (by
    unfold quoteL
    rw [List.cons_append, nextL_cons, if_neg (by decide), if_pos rfl, List.append_assoc, List.singleton_append, qq_back s l]
    simp) h
theorem LK.word {l : List UInt8} {K : List KT} {s : List UInt8} {k : Nat} {x : List UInt8} (hn : nextL s = some (k, x, s.length)) (h : LK l K) (hl : ∀ c, l[0]? = some c → softB c = true) : LK (s ++ l) ((k, x) :: K) :=
  LK.tok (next_same hn (agree_app s l) ⟨fun c hc => by
    rw [List.getElem?_append_right (Nat.le_refl _), Nat.sub_self] at hc
    exact .inr (hl c hc), by rw [List.getElem?_eq_none (Nat.le_refl _)]; simp⟩) h
theorem numB_next {s : List UInt8} (h : numB s = true) : nextL s = some (3, s, s.length) := of_decide_eq_true h
theorem endK_soft (o : Bool) (l : List UInt8) : ∀ c, (endK o ++ l)[0]? = some c → softB c = true := fun c h => by
  unfold endK at h
  split at h <;> (cases h; decide)
mutual
/-- a value's text has the value's words -/
theorem text_LK : ∀ (v : JV), v.fnd = 0 → ∀ (l : List UInt8) (K : List KT), LK l K → (∀ c, l[0]? = some c → softB c = true) → LK (v.text ++ l) (v.kts ++ K)
  | .mk k s ks it, h, l, K, hl, hs => by
    obtain ⟨hsh, _, hL⟩ := fnd_zero h
    rcases shaped_cases hsh with ⟨hk, rfl, rfl, rfl⟩ | ⟨rfl, rfl, rfl, hn⟩ | ⟨rfl, rfl, rfl⟩ | ⟨rfl, rfl, rfl⟩ | ⟨rfl, rfl, hlen⟩
    · rcases hk with rfl | rfl | rfl
      · simpa [JV.text, JV.kts] using LK.word (s := wNull) (k := 2) (x := wNull) (by decide) hl hs
      · simpa [JV.text, JV.kts] using LK.word (s := wFalse) (k := 2) (x := wFalse) (by decide) hl hs
      · simpa [JV.text, JV.kts] using LK.word (s := wTrue) (k := 2) (x := wTrue) (by decide) hl hs
    · simpa [JV.text, JV.kts] using LK.word (numB_next hn) hl hs
    · simpa [JV.text, JV.kts] using LK.quote s hl
    · have := txtL_LK false it [] [] hL ((93 : UInt8) :: l) ((1, [93]) :: K) (hl.mark 93 (by decide)) (endK_soft false l)
      simpa [JV.text, JV.kts] using this.mark 91 (by decide)
    · have := txtL_LK true it ks [] hL ((125 : UInt8) :: l) ((1, [125]) :: K) (hl.mark 125 (by decide)) (endK_soft true l)
      simpa [JV.text, JV.kts] using this.mark 123 (by decide)
theorem txtL_LK (o : Bool) : ∀ (it : List JV) (ks met : List (List UInt8)), fndL o it ks met = 0 → ∀ (l : List UInt8) (K : List KT), LK l K → (∀ c, l[0]? = some c → softB c = true) → LK (txtL o it ks true ++ l) (ktL o it ks true ++ K)
  | [], _, _, _, l, K, hl, _ => by simpa [txtL, ktL] using hl
  | x :: t, ks, met, hf, l, K, hl, hs => by
    obtain ⟨_, hx, ht⟩ := fndL_cons hf
    have h1 := txtL_LK o t ks.tail _ ht l K hl hs
    have h2 : LK (txtL o t ks.tail false ++ l) (ktL o t ks.tail false ++ K) ∧ ∀ c, (txtL o t ks.tail false ++ l)[0]? = some c → softB c = true := by
      cases t with
      | nil => exact ⟨by simpa [txtL, ktL] using hl, by simpa [txtL] using hs⟩
      | cons y u =>
        have h3 := h1.mark 44 (by decide)
        refine ⟨by simpa [txtL, ktL] using h3, fun c hc => ?_⟩
        simp [txtL] at hc
        subst hc
        decide
    have h4 := text_LK x hx _ _ h2.1 h2.2
    rw [txtL, ktL]
    cases o with
    | false => simpa using h4
    | true =>
      have h5 := LK.quote (ks.headD []) (h4.mark 58 (by decide))
      simpa using h5
end
theorem LK.toks {l : List UInt8} {K : List KT} (h : LK l K) (hv : validD l = true) : ∃ T, toksL l = (T, 0, 0) ∧ kt T = K := by
  obtain ⟨T, h1, h2⟩ := h 0
  refine ⟨T, ?_, h2⟩
  unfold toksL
  rw [if_pos hv]
  exact h1.to_tt []
/-- a number's bytes are ASCII -/
theorem num_valid {s : List UInt8} (h : numB s = true) : validD s = true := by
  have hn := numB_next h
  cases s with
  | nil => rfl
  | cons c t =>
    have hm : numN (c :: t) = (c :: t).length := by
      rw [nextL_cons] at hn
      split at hn
      · cases hn
      · split at hn
        · obtain ⟨q, hq, e⟩ := Option.map_eq_some_iff.1 hn
          cases e
        · split at hn
          · cases hn
          · split at hn
            · simp only [Option.some.injEq, Prod.mk.injEq] at hn
              exact hn.2.2
            · cases hn
    have ha := asc_num (c :: t)
    rw [hm] at ha
    refine ascii_valid _ fun b hb => ?_
    obtain ⟨j, hj, e⟩ := List.getElem_of_mem hb
    obtain ⟨d, hd, h128⟩ := ha j hj
    rw [List.getElem?_eq_getElem hj, e] at hd
    obtain rfl := Option.some.inj hd
    exact h128
mutual
theorem text_valid : ∀ (v : JV), v.fnd = 0 → validD v.text = true
  | .mk k s ks it, h => by
    obtain ⟨hsh, hs4, hL⟩ := fnd_zero h
    rcases shaped_cases hsh with ⟨hk, rfl, rfl, rfl⟩ | ⟨rfl, rfl, rfl, hn⟩ | ⟨rfl, rfl, rfl⟩ | ⟨rfl, rfl, rfl⟩ | ⟨rfl, rfl, hlen⟩
    · rcases hk with rfl | rfl | rfl <;> (simp [JV.text]; decide)
    · simp only [JV.text]
      simp
      exact num_valid hn
    · simp only [JV.text]
      simp
      exact quote_valid s (hs4 rfl)
    · have := txtL_valid false it [] [] true hL
      simp only [JV.text]
      simp
      rw [valid_cons _ _ (by decide), valid_append _ _ _ (Nat.le_refl _) this]
      decide
    · have := txtL_valid true it ks [] true hL
      simp only [JV.text]
      simp
      rw [valid_cons _ _ (by decide), valid_append _ _ _ (Nat.le_refl _) this]
      decide
theorem txtL_valid (o : Bool) : ∀ (it : List JV) (ks met : List (List UInt8)) (first : Bool), fndL o it ks met = 0 → validD (txtL o it ks first) = true
  | [], _, _, _, _ => by rw [txtL]; rfl
  | x :: t, ks, met, first, hf => by
    obtain ⟨hk, hx, ht⟩ := fndL_cons hf
    have h1 := text_valid x hx
    have h2 := txtL_valid o t ks.tail _ false ht
    have h3 : validD (x.text ++ txtL o t ks.tail false) = true := by rw [valid_append _ _ _ (Nat.le_refl _) h1]; exact h2
    have h4 : validD ((if o = true then quoteL (ks.headD []) ++ [58] else []) ++ (x.text ++ txtL o t ks.tail false)) = true := by
      cases o with
      | false => simpa using h3
      | true =>
        simp only [if_true, List.append_assoc, List.singleton_append]
        rw [valid_append _ _ _ (Nat.le_refl _) (quote_valid _ (hk rfl).1), valid_cons _ _ (by decide)]
        exact h3
    rw [txtL]
    cases first with
    | true => simpa using h4
    | false =>
      simp only [Bool.false_eq_true, if_false, List.singleton_append]
      rw [valid_cons _ _ (by decide)]
      exact h4
end
end Go.Proofs.Jt
