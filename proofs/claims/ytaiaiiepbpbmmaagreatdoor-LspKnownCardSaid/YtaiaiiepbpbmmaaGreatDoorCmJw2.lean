/- What stands behind a token matters only through its head; blanks more between tokens. No program in sight. -/
import Derived.Test.YtaiaiiepbpbmmaaGreatDoorCmKJ
import Derived.Test.YtaiaiiepbpbmmaaGreatDoorCmJZ
namespace Go.Proofs.Jt
open Go.Lib Go.Proofs.Utf

def Agree (l l2 : List UInt8) (m : Nat) : Prop := ∀ j, j < m → l2[j]? = l[j]?
theorem run_stop (p : UInt8 → Bool) (l : List UInt8) : ∀ (k n : Nat), run p (l.drop n) = k → ∀ c, l[n + k]? = some c → p c = false
 | 0, n, h, c, hc => by
  have hc' : l[n]? = some c := by simpa using hc
  rw [run_at, hc'] at h
  cases hp : p c with
  | false => rfl
  | true => simp [hp] at h
 | k + 1, n, h, c, hc => by
  rw [run_at] at h
  cases hn : l[n]? with
  | none => simp [hn] at h
  | some d =>
   rw [hn] at h
   cases hp : p d with
   | false => simp [hp] at h
   | true =>
    simp only [hp, if_true] at h
    exact run_stop p l k (n + 1) (by omega) c (by rw [show n + 1 + k = n + (k + 1) by omega]; exact hc)
theorem run_eq (p : UInt8 → Bool) (l l2 : List UInt8) (m : Nat) (ha : Agree l l2 m) : ∀ (k n : Nat), run p (l.drop n) = k → n + k ≤ m → (n + k = m → ∀ c, l2[m]? = some c → p c = false) → run p (l2.drop n) = k
 | 0, n, h, hm, hb => by
  rw [run_at]
  cases hn : l2[n]? with
  | none => rfl
  | some d =>
   have : p d = false := by
    by_cases e : n = m
    · subst e; exact hb (by omega) d hn
    · rw [ha n (by omega)] at hn
      exact run_stop p l 0 n h d (by simpa using hn)
   simp [this]
 | k + 1, n, h, hm, hb => by
  rw [run_at] at h
  cases hn : l[n]? with
  | none => simp [hn] at h
  | some d =>
   rw [hn] at h
   cases hp : p d with
   | false => simp [hp] at h
   | true =>
    simp only [hp, if_true] at h
    have h2 := run_eq p l l2 m ha k (n + 1) (by omega) (by omega) (fun e => hb (by omega))
    rw [run_at, ha n (by omega), hn]
    simp [hp, h2]
theorem take_agree {l l2 : List UInt8} {m : Nat} (ha : Agree l l2 m) : l2.take m = l.take m := by
 apply List.ext_getElem?
 intro j
 rw [List.getElem?_take, List.getElem?_take]
 split
 · rename_i h; exact ha j h
 · rfl
theorem Agree.less {l l2 : List UInt8} {m n : Nat} (ha : Agree l l2 m) (h : n ≤ m) : Agree l l2 n := fun j hj => ha j (by omega)
theorem Agree.drop {l l2 : List UInt8} {m : Nat} (ha : Agree l l2 m) (k : Nat) : Agree (l.drop k) (l2.drop k) (m - k) := fun j hj => by
 rw [List.getElem?_drop, List.getElem?_drop]
 exact ha (k + j) (by omega)
def softB (c : UInt8) : Bool := isBlankB c || [44, 58, 93, 125].contains c
theorem soft_blank {c : UInt8} (h : isBlankB c = true) : softB c = true := by unfold softB; rw [h]; rfl
/-- what may stand behind -/
def Border (l l2 : List UInt8) (m : Nat) : Prop := (∀ c, l2[m]? = some c → l[m]? = some c ∨ softB c = true) ∧ l[m]? ≠ some 46 ∧ l[m]? ≠ some 101 ∧ l[m]? ≠ some 69
theorem blank_not : ∀ c : UInt8, softB c = true → isDig c = false ∧ isLow c = false ∧ c ≠ 46 ∧ c ≠ 101 ∧ c ≠ 69 := forall_u8 (by decide +kernel)
theorem Border.not {l l2 : List UInt8} {m : Nat} (hb : Border l l2 m) : l2[m]? ≠ some 46 ∧ l2[m]? ≠ some 101 ∧ l2[m]? ≠ some 69 := by
 refine ⟨fun h => ?_, fun h => ?_, fun h => ?_⟩
 · rcases hb.1 _ h with h1 | h1
   · exact hb.2.1 h1
   · exact (blank_not _ h1).2.2.1 rfl
 · rcases hb.1 _ h with h1 | h1
   · exact hb.2.2.1 h1
   · exact (blank_not _ h1).2.2.2.1 rfl
 · rcases hb.1 _ h with h1 | h1
   · exact hb.2.2.2 h1
   · exact (blank_not _ h1).2.2.2.2 rfl
theorem run_border {l l2 : List UInt8} {m : Nat} (ha : Agree l l2 m) (hb : Border l l2 m) (n : Nat) (h : n + run isDig (l.drop n) ≤ m) : run isDig (l2.drop n) = run isDig (l.drop n) :=
 run_eq isDig l l2 m ha _ n rfl h fun e c hc => by
  rcases hb.1 c hc with h1 | h1
  · exact run_stop isDig l _ n rfl c (by rw [e]; exact h1)
  · exact (blank_not c h1).1
theorem pos_run (p : UInt8 → Bool) (l : List UInt8) (n : Nat) : 0 < run p (l.drop n) ↔ ∃ c, l[n]? = some c ∧ p c = true := by
 rw [run_at]
 cases h : l[n]? with
 | none => simp
 | some c => cases hp : p c <;> simp [hp]
theorem num_same {l l2 : List UInt8} {m : Nat} (ha : Agree l l2 m) (hb : Border l l2 m) (h : numN l = m) (hm : 0 < m) : numN l2 = m := by
 have hb2 := hb.not
 have hneg : negN l2 = negN l := by unfold negN; rw [ha 0 hm]
 unfold numN at h
 split at h
 · omega
 rename_i hrun
 have e1 := fun n hn => intN_le l n hn
 have hr0 := run_drop_le isDig l (negN l)
 have hi := intN_le l (negN l) (by omega)
 have hd := dotN_le l _ hi.1
 have he := expN_le l _ hd.1
 obtain ⟨c, hc, hcd⟩ := (pos_run isDig l (negN l)).1 (by omega)
 -- the digits
 have hlow : negN l + 1 ≤ intN l (negN l) := by unfold intN; split <;> omega
 have hint : intN l2 (negN l) = intN l (negN l) := by
  unfold intN
  rw [ha (negN l) (by omega)]
  split
  · rfl
  · rename_i hz
    rw [run_border ha hb]
    unfold intN at hd he h
    rw [if_neg hz] at hd he h
    omega
 obtain ⟨i, hie⟩ : ∃ i, intN l (negN l) = i := ⟨_, rfl⟩
 rw [hie] at hint hlow hi hd he h
 have hdot : dotN l2 i = dotN l i ∧ (dotN l i = m → True) := by
  refine ⟨?_, fun _ => trivial⟩
  unfold dotN
  by_cases him : i = m
  · subst him
    rw [if_neg (fun x => hb2.1 x.1), if_neg (fun x => hb.2.1 x.1)]
  · rw [ha i (by omega)]
    by_cases h46 : l[i]? = some 46
    · by_cases hp : 0 < run isDig (l.drop (i + 1))
      · have hdv : dotN l i = i + 1 + run isDig (l.drop (i + 1)) := by unfold dotN; rw [if_pos ⟨h46, hp⟩]
        rw [run_border ha hb (i + 1) (by omega)]
      · have hdv : dotN l i = i := by unfold dotN; rw [if_neg (fun x => hp x.2)]
        rw [hdv] at h
        have : expN l i = i := by
         unfold expN
         rw [if_neg]
         rintro ⟨x, _⟩
         rw [h46] at x
         rcases x with x | x <;> exact absurd x (by decide)
        omega
    · rw [if_neg (fun x => h46 x.1), if_neg (fun x => h46 x.1)]
 obtain ⟨j, hje⟩ : ∃ j, dotN l i = j := ⟨_, rfl⟩
 rw [hje] at hdot h hd he
 have hexp : expN l2 j = expN l j := by
  by_cases hjm : j = m
  · subst hjm
    unfold expN
    rw [if_neg (fun x => x.1.elim hb2.2.1 hb2.2.2), if_neg (fun x => x.1.elim hb.2.2.1 hb.2.2.2)]
  · have hp : (l[j]? = some 101 ∨ l[j]? = some 69) ∧ 0 < run isDig (l.drop (signN l (j + 1))) := by
     by_cases hp : (l[j]? = some 101 ∨ l[j]? = some 69) ∧ 0 < run isDig (l.drop (signN l (j + 1)))
     · exact hp
     · unfold expN at h
       rw [if_neg hp] at h
       omega
    have hev : expN l j = signN l (j + 1) + run isDig (l.drop (signN l (j + 1))) := by unfold expN; rw [if_pos hp]
    have hs := signN_le l (j + 1)
    have hs2 : signN l2 (j + 1) = signN l (j + 1) := by unfold signN; rw [ha (j + 1) (by omega)]
    unfold expN
    rw [ha j (by omega), hs2, run_border ha hb _ (by omega)]
 unfold numN
 have hnz : run isDig (l2.drop (negN l)) ≠ 0 := by
  have : 0 < run isDig (l2.drop (negN l)) := (pos_run isDig l2 (negN l)).2 ⟨c, by rw [ha (negN l) (by omega)]; exact hc, hcd⟩
  omega
 rw [hneg, if_neg hnz, hint, hdot.1, hexp]
 exact h
theorem word_same {l l2 : List UInt8} {m : Nat} (ha : Agree l l2 m) (hb : Border l l2 m) (h : wordN l = m) (hm : 0 < m) : wordN l2 = m := by
 unfold wordN at h
 split at h
 · rename_i hw
   rw [h] at hw
   have hr : run isLow l2 = m := by
    have := run_eq isLow l l2 m ha m 0 (by rw [List.drop_zero]; exact h) (by omega) (fun _ c hc => by
     rcases hb.1 c hc with h1 | h1
     · exact run_stop isLow l m 0 (by rw [List.drop_zero]; exact h) c (by rw [Nat.zero_add]; exact h1)
     · exact (blank_not c h1).2.1)
    rwa [List.drop_zero] at this
   unfold wordN
   rw [hr, take_agree ha, if_pos hw]
 · omega
theorem unit_same {l l2 : List UInt8} (ha : Agree l l2 5) (h : 0 ≤ unitL l) : unitL l2 = unitL l := by
 have h5 : 4 < l.length := by
  by_cases h5 : 4 < l.length
  · exact h5
  · rw [unit_short (by omega)] at h; omega
 obtain ⟨u, a, b, c, d, t, rfl⟩ := five h5
 have h52 : 4 < l2.length := by
  have := ha 4 (by omega)
  simp only [List.getElem?_cons_succ, List.getElem?_cons_zero] at this
  exact (List.getElem?_eq_some_iff.1 this).1
 obtain ⟨u2, a2, b2, c2, d2, t2, rfl⟩ := five h52
 have e0 := ha 0 (by omega)
 have e1 := ha 1 (by omega)
 have e2 := ha 2 (by omega)
 have e3 := ha 3 (by omega)
 have e4 := ha 4 (by omega)
 simp only [List.getElem?_cons_succ, List.getElem?_cons_zero, Option.some.injEq] at e0 e1 e2 e3 e4
 subst e0 e1 e2 e3 e4
 rw [unitL_cons, unitL_cons]
theorem esc_same {l l2 : List UInt8} {x : Int} {k : Nat} (h : escR l = (x, k)) (hk : k ≠ 0) (ha : Agree l l2 k) : escR l2 = (x, k) := by
 unfold escR at h
 cases hs : l[0]?.bind simple with
 | some y =>
  rw [hs] at h
  cases h
  unfold escR
  rw [ha 0 (by omega), hs]
 | none =>
  rw [hs] at h
  simp only at h
  unfold escR
  rw [ha 0 (by omega), hs]
  simp only
  split at h
  · cases h; exact absurd rfl hk
  rename_i h0
  split at h
  · rename_i h1
    cases h
    rw [unit_same ha (by omega), if_neg h0, if_pos h1]
  rename_i h1
  split at h
  · rename_i h2
    cases h
    rw [unit_same (ha.less (by omega)) (by omega), if_neg h0, if_neg h1, ha 5 (by omega), unit_same ((ha.drop 6).less (by omega)) (by omega), if_pos h2]
  · cases h; exact absurd rfl hk
theorem agree_cons {c : UInt8} {t l2 : List UInt8} {k : Nat} (ha : Agree (c :: t) l2 (k + 1)) : ∃ t2, l2 = c :: t2 ∧ Agree t t2 k := by
 have h0 := ha 0 (by omega)
 cases l2 with
 | nil => simp at h0
 | cons d t2 =>
  obtain rfl : d = c := by simpa using h0
  exact ⟨t2, rfl, fun j hj => by simpa using ha (j + 1) (by omega)⟩
theorem qq_same : ∀ (n : Nat) (l : List UInt8), l.length ≤ n → ∀ (l2 x : List UInt8) (k : Nat), qq l = some (x, k) → Agree l l2 k → qq l2 = some (x, k)
 | _, [], _, _, _, _, h, _ => by rw [qq_nil] at h; cases h
 | 0, c :: t, hn, _, _, _, _, _ => by simp at hn
 | n + 1, c :: t, hn, l2, x, k, h, ha => by
  simp only [List.length_cons] at hn
  have hk := qq_le _ (c :: t) (Nat.le_refl _) _ h
  simp only at hk
  obtain ⟨k, rfl⟩ : ∃ j, k = j + 1 := ⟨k - 1, by omega⟩
  obtain ⟨t2, rfl, ha2⟩ := agree_cons ha
  by_cases h1 : c = 34
  · subst h1
    rw [qq_end] at h ⊢
    exact h
  by_cases h2 : c.toNat < 32
  · rw [qq_ctl c t h2] at h; cases h
  by_cases h3 : c = 92
  · subst h3
    rw [qq_esc] at h ⊢
    obtain ⟨y, m, hy⟩ : ∃ y m, escR t = (y, m) := ⟨_, _, rfl⟩
    rw [hy] at h
    simp only at h
    split at h
    · cases h
    · rename_i hm
      obtain ⟨q, hq, e⟩ := Option.map_eq_some_iff.1 h
      simp only [Prod.mk.injEq] at e
      rw [esc_same hy hm (ha2.less (by omega))]
      simp only
      rw [if_neg hm, qq_same n _ (by rw [List.length_drop]; omega) (t2.drop m) q.1 q.2 hq ((ha2.drop m).less (by omega))]
      simp only [Option.map_some, Option.some.injEq, Prod.mk.injEq]
      exact e
  · rw [qq_byte c t h1 h2 h3] at h
    obtain ⟨q, hq, e⟩ := Option.map_eq_some_iff.1 h
    simp only [Prod.mk.injEq] at e
    rw [qq_byte c t2 h1 h2 h3, qq_same n t (by omega) t2 q.1 q.2 hq (ha2.less (by omega))]
    simp only [Option.map_some, Option.some.injEq, Prod.mk.injEq]
    exact e
theorem num_head {c : UInt8} {t : List UInt8} (h : 0 < numN (c :: t)) : isLow c = false := by
 have key : ∀ c : UInt8, isLow c = true → isDig c = false ∧ c ≠ 45 := forall_u8 (by decide +kernel)
 cases hl : isLow c with
 | false => rfl
 | true =>
  have := key c hl
  rw [num_first c t this.1 this.2] at h
  omega
theorem next_same {l l2 : List UInt8} {k : Nat} {x : List UInt8} {m : Nat} (h : nextL l = some (k, x, m)) (ha : Agree l l2 m) (hb : Border l l2 m) : nextL l2 = some (k, x, m) := by
 have hm := nextL_le l _ h
 simp only at hm
 cases l with
 | nil => cases h
 | cons c t =>
  obtain ⟨n, rfl⟩ : ∃ j, m = j + 1 := ⟨m - 1, by omega⟩
  obtain ⟨t2, rfl, ha2⟩ := agree_cons ha
  rw [nextL_cons] at h ⊢
  split at h
  · rename_i h1
    rw [if_pos h1]
    exact h
  rename_i h1
  rw [if_neg h1]
  split at h
  · rename_i h2
    rw [if_pos h2]
    obtain ⟨q, hq, e⟩ := Option.map_eq_some_iff.1 h
    simp only [Prod.mk.injEq] at e
    rw [qq_same _ t (Nat.le_refl _) t2 q.1 q.2 hq (ha2.less (by omega))]
    simp only [Option.map_some, Option.some.injEq, Prod.mk.injEq]
    exact e
  rename_i h2
  rw [if_neg h2]
  split at h
  · rename_i h3
    simp only [Option.some.injEq, Prod.mk.injEq] at h
    obtain ⟨rfl, rfl, h5⟩ := h
    have hw := word_same ha hb h5 (by omega)
    rw [hw, h5, if_pos (by omega), take_agree ha]
  rename_i h3
  split at h
  · rename_i h4
    simp only [Option.some.injEq, Prod.mk.injEq] at h
    obtain ⟨rfl, rfl, h5⟩ := h
    have hw := num_same ha hb h5 (by omega)
    rw [if_neg (by rw [word_first c t2 (num_head h4)]; omega), hw, h5, if_pos (by omega), take_agree ha]
  · cases h
theorem next_odd (c : UInt8) (t : List UInt8) (hc : c = 46 ∨ c = 101 ∨ c = 69) : nextL (c :: t) = none := by
 have hn : numN (c :: t) = 0 := num_first c t (by rcases hc with rfl | rfl | rfl <;> decide) (by rcases hc with rfl | rfl | rfl <;> decide)
 have hw : wordN (c :: t) = 0 := by
  rcases hc with rfl | rfl | rfl
  · exact word_first _ t (by decide)
  · unfold wordN
    rw [if_neg]
    intro h
    unfold isWord at h
    have h := of_decide_eq_true h
    revert h
    cases run isLow (101 :: t) with
    | zero => simp [wTrue, wFalse, wNull]
    | succ n => simp [wTrue, wFalse, wNull]
  · exact word_first _ t (by decide)
 rw [nextL_cons, hn, hw, if_neg (by rcases hc with rfl | rfl | rfl <;> decide), if_neg (by rcases hc with rfl | rfl | rfl <;> decide), if_neg (by omega), if_neg (by omega)]
/-- a text's words, from a place on -/
inductive Lx : List UInt8 → Nat → List Tok → Prop
 | nil (a : Nat) : Lx [] a []
 | blank {c : UInt8} {t : List UInt8} {a : Nat} {T : List Tok} (h : isBlankB c = true) (h2 : Lx t (a + 1) T) : Lx (c :: t) a T
 | tok {c : UInt8} {t : List UInt8} {a : Nat} {T : List Tok} {k : Nat} {x : List UInt8} {m : Nat} (h : isBlankB c = false) (h1 : nextL (c :: t) = some (k, x, m)) (h2 : Lx ((c :: t).drop m) (a + m) T) : Lx (c :: t) a (⟨k, x, a, a + m⟩ :: T)
theorem Lx.to_tt {l : List UInt8} {a : Nat} {T : List Tok} (h : Lx l a T) : ∀ acc, tt l a acc = (acc ++ T, 0, 0) := by
 induction h with
 | nil a => intro acc; rw [tt_nil, List.append_nil]
 | blank h _ ih => intro acc; rw [tt_blank _ _ _ _ h, ih]
 | tok h h1 _ ih => intro acc; rw [tt_some _ _ _ _ h h1, ih, List.append_assoc]; rfl
theorem Lx.of_tt : ∀ (n : Nat) (l : List UInt8) (a : Nat) (acc R : List Tok) (p : Nat), l.length ≤ n → tt l a acc = (R, p, 0) → p = 0 ∧ ∃ T, R = acc ++ T ∧ Lx l a T
 | _, [], a, acc, R, p, _, h => by
  rw [tt_nil] at h
  cases h
  exact ⟨rfl, [], by simp, .nil a⟩
 | 0, c :: t, _, _, _, _, hn, _ => by simp at hn
 | n + 1, c :: t, a, acc, R, p, hn, h => by
  simp only [List.length_cons] at hn
  cases hb : isBlankB c with
  | true =>
   rw [tt_blank _ _ _ _ hb] at h
   obtain ⟨hp, T, hT, hl⟩ := Lx.of_tt n t _ _ _ _ (by omega) h
   exact ⟨hp, T, hT, .blank hb hl⟩
  | false =>
   cases hx : nextL (c :: t) with
   | none =>
    rw [tt_none _ _ _ _ hb hx] at h
    cases h
   | some r =>
    obtain ⟨k, x, m⟩ := r
    have hm := nextL_le _ _ hx
    simp only [List.length_cons] at hm
    rw [tt_some _ _ _ _ hb hx] at h
    obtain ⟨hp, T, hT, hl⟩ := Lx.of_tt n _ _ _ _ _ (by rw [List.length_drop, List.length_cons]; omega) h
    exact ⟨hp, _ :: T, by rw [hT, List.append_assoc]; rfl, .tok hb hx hl⟩
theorem Lx.blanks {l : List UInt8} {T : List Tok} : ∀ (bs : List UInt8) (a : Nat), (∀ b ∈ bs, isBlankB b = true) → Lx l (a + bs.length) T → Lx (bs ++ l) a T
 | [], a, _, h => h
 | b :: bs, a, hb, h => .blank (hb b List.mem_cons_self) (Lx.blanks bs (a + 1) (fun x hx => hb x (List.mem_cons_of_mem _ hx)) (by rw [show a + 1 + bs.length = a + (b :: bs).length by simp; omega]; exact h))
theorem Lx.few {l : List UInt8} {a : Nat} {T : List Tok} (h : Lx l a T) : T.length ≤ l.length := by
 induction h with
 | nil a => simp
 | blank h _ ih => simp only [List.length_cons]; omega
 | tok h h1 _ ih =>
  have := nextL_le _ _ h1
  rw [List.length_drop] at ih
  simp only [List.length_cons] at *
  omega
theorem Lx.cons {l : List UInt8} {a : Nat} {t : Tok} {T : List Tok} (h : Lx l a (t :: T)) : a ≤ t.fr ∧ t.fr < t.to_ ∧ t.to_ ≤ a + l.length ∧ Lx (l.drop (t.to_ - a)) t.to_ T := by
 generalize hU : t :: T = U at h
 induction h with
 | nil a => cases hU
 | @blank c t' a T' h _ ih =>
  obtain ⟨h1, h2, h3, h4⟩ := ih hU
  refine ⟨by omega, h2, by simp only [List.length_cons]; omega, ?_⟩
  rw [show t.to_ - a = (t.to_ - (a + 1)) + 1 by omega, List.drop_succ_cons]
  exact h4
 | @tok c t' a T' k x m h h1 h2 ih =>
  cases hU
  have := nextL_le _ _ h1
  simp only at this ⊢
  refine ⟨by omega, by omega, by omega, ?_⟩
  rw [show a + m - a = m by omega]
  exact h2
theorem Lx.head {l : List UInt8} {a : Nat} {T : List Tok} (h : Lx l a T) : l[0]? ≠ some 46 ∧ l[0]? ≠ some 101 ∧ l[0]? ≠ some 69 := by
 cases h with
 | nil a => simp
 | blank h _ =>
  have := blank_not _ (soft_blank h)
  simpa using this.2.2
 | tok h h1 _ =>
  simp only [List.getElem?_cons_zero, ne_eq, Option.some.injEq]
  refine ⟨fun e => ?_, fun e => ?_, fun e => ?_⟩
  · rw [next_odd _ _ (.inl e)] at h1; cases h1
  · rw [next_odd _ _ (.inr (.inl e))] at h1; cases h1
  · rw [next_odd _ _ (.inr (.inr e))] at h1; cases h1
def kt (T : List Tok) : List (Nat × List UInt8) := T.map fun t => (t.kind, t.text)
/-- with more blanks ahead of each word but the first -/
def loose (g : Nat → List UInt8) : List UInt8 → Nat → Nat → List Tok → List UInt8
 | l, _, _, [] => l
 | l, a, i, t :: T => l.take (t.to_ - a) ++ (g (i + 1) ++ loose g (l.drop (t.to_ - a)) t.to_ (i + 1) T)
theorem loose_blank (g : Nat → List UInt8) (c : UInt8) {l : List UInt8} {a : Nat} {T : List Tok} (h : Lx l (a + 1) T) (i : Nat) : loose g (c :: l) a i T = c :: loose g l (a + 1) i T := by
 cases T with
 | nil => rfl
 | cons t T =>
  have := h.cons
  unfold loose
  rw [show t.to_ - a = (t.to_ - (a + 1)) + 1 by omega, List.take_succ_cons, List.drop_succ_cons, List.cons_append]
theorem loose_head (g : Nat → List UInt8) {l : List UInt8} {a : Nat} {T : List Tok} (h : Lx l a T) (i : Nat) : (loose g l a i T)[0]? = l[0]? := by
 cases T with
 | nil => rfl
 | cons t T =>
  have := h.cons
  unfold loose
  rw [List.getElem?_append_left (by rw [List.length_take]; omega), List.getElem?_take_of_lt (by omega)]
theorem Lx.loose {g : Nat → List UInt8} (hg : ∀ i, ∀ b ∈ g i, isBlankB b = true) {l : List UInt8} {a : Nat} {T : List Tok} (h : Lx l a T) : ∀ (i a2 : Nat), ∃ T2, Lx (loose g l a i T) a2 T2 ∧ kt T2 = kt T := by
 induction h with
 | nil a => exact fun i a2 => ⟨[], .nil a2, rfl⟩
 | blank h h2 ih =>
  intro i a2
  rw [loose_blank g _ h2]
  obtain ⟨T2, h3, h4⟩ := ih i (a2 + 1)
  exact ⟨T2, .blank h h3, h4⟩
 | tok h h1 h2 ih =>
  intro i a2
  rename_i c t a T k x m
  have hm := nextL_le _ _ h1
  simp only at hm
  obtain ⟨T2, h3, h4⟩ := ih (i + 1) (a2 + m + (g (i + 1)).length)
  have h5 := Lx.blanks (g (i + 1)) (a2 + m) (hg (i + 1)) h3
  have hl := loose_head g h2 (i + 1)
  unfold Jt.loose
  simp only
  rw [show a + m - a = m by omega]
  obtain ⟨W, hW⟩ : ∃ W, g (i + 1) ++ Jt.loose g ((c :: t).drop m) (a + m) (i + 1) T = W := ⟨_, rfl⟩
  have hW0 : ∀ b, W[0]? = some b → ((c :: t).drop m)[0]? = some b ∨ isBlankB b = true := by
   intro b hb
   rw [← hW] at hb
   cases hgi : g (i + 1) with
   | nil =>
    rw [hgi, List.nil_append, hl] at hb
    exact .inl hb
   | cons d ds =>
    rw [hgi] at hb
    obtain rfl : d = b := by simpa using hb
    exact .inr (hg (i + 1) d (by rw [hgi]; exact List.mem_cons_self))
  rw [hW] at h5 ⊢
  have hlen : ((c :: t).take m).length = m := by rw [List.length_take]; omega
  have ha : Agree (c :: t) ((c :: t).take m ++ W) m := fun j hj => by
   rw [List.getElem?_append_left (by omega), List.getElem?_take_of_lt hj]
  have hhd := h2.head
  have hb : Border (c :: t) ((c :: t).take m ++ W) m := by
   unfold Border
   rw [List.getElem?_append_right (by omega), hlen, Nat.sub_self]
   rw [List.getElem?_drop, Nat.add_zero] at hhd
   exact ⟨fun b hb => by have := hW0 b hb; rw [List.getElem?_drop, Nat.add_zero] at this; exact this.imp id soft_blank, hhd⟩
  have hn := next_same h1 ha hb
  obtain ⟨n, rfl⟩ : ∃ j, m = j + 1 := ⟨m - 1, by omega⟩
  rw [List.take_succ_cons, List.cons_append] at hn ⊢
  refine ⟨⟨k, x, a2, a2 + (n + 1)⟩ :: T2, .tok h hn ?_, ?_⟩
  · rw [List.drop_succ_cons, List.drop_left' (by simpa using hlen)]
    exact h5
  · unfold kt at h4 ⊢
    simp only [List.map_cons, h4]
theorem valid_cont (c : UInt8) (t : List UInt8) (h : c.toNat / 64 = 2) : isPt (c :: t) = false := by
 cases hp : isPt (c :: t) with
 | false => rfl
 | true =>
  obtain ⟨k, h1, h4, hk, hh⟩ := pt_hit (c :: t) (by simp) hp
  have e0 : ((c :: t).getD 0 0) = c := rfl
  rcases (show k = 1 ∨ k = 2 ∨ k = 3 ∨ k = 4 by omega) with rfl | rfl | rfl | rfl
  · have := (Hit1 _ hk).1 hh; rw [e0] at this; omega
  · have := (Hit2 _ hk).1 hh; rw [e0] at this; omega
  · have := (Hit3 _ hk).1 hh; rw [e0] at this; omega
  · have := (Hit4 _ hk).1 hh; rw [e0] at this; omega
theorem pt_conts (l : List UInt8) (hne : l ≠ []) (hp : isPt l = true) : ∀ j, 1 ≤ j → j < headW l → (l.getD j 0).toNat / 64 = 2 := by
 obtain ⟨k, h1, h4, hk, hh⟩ := pt_hit l hne hp
 intro j j1 j2
 unfold headW at j2
 rw [found l k h1 h4 hk hh] at j2
 simp only at j2
 rcases (show k = 1 ∨ k = 2 ∨ k = 3 ∨ k = 4 by omega) with rfl | rfl | rfl | rfl
 · omega
 · have := (Hit2 _ hk).1 hh
   obtain rfl : j = 1 := by omega
   exact this.2.1
 · have := (Hit3 _ hk).1 hh
   rcases (show j = 1 ∨ j = 2 by omega) with rfl | rfl
   · exact this.2.1
   · exact this.2.2.1
 · have := (Hit4 _ hk).1 hh
   rcases (show j = 1 ∨ j = 2 ∨ j = 3 by omega) with rfl | rfl | rfl
   · exact this.2.1
   · exact this.2.2.1
   · exact this.2.2.2.1
theorem valid_take : ∀ (n : Nat) (l : List UInt8) (m : Nat), l.length ≤ n → m ≤ l.length → validD l = true → validD (l.drop m) = true → validD (l.take m) = true
 | 0, l, m, hn, hm, _, _ => by
  have : l = [] := List.eq_nil_of_length_eq_zero (by omega)
  subst this
  simpa using (by rfl : validD [] = true)
 | n + 1, l, m, hn, hm, hv, hd => by
  by_cases h0 : m = 0
  · subst h0; rw [List.take_zero]; rfl
  have hne : l ≠ [] := by rintro rfl; simp at hm; omega
  obtain ⟨hp, hv2⟩ := valid_step l hne hv
  have hw := headW_pos l
  have hl : 0 < l.length := List.length_pos_iff.2 hne
  have hw2 := headW_le l hl
  by_cases hmw : m < headW l
  · exfalso
    have hc := pt_conts l hne hp m (by omega) hmw
    have hlt : m < l.length := by omega
    have e : l.drop m = l[m] :: l.drop (m + 1) := List.drop_eq_getElem_cons hlt
    rw [List.getD_eq_getElem?_getD, List.getElem?_eq_getElem hlt, Option.getD_some] at hc
    rw [e] at hd
    have := (valid_step _ (List.cons_ne_nil _ _) hd).1
    rw [valid_cont _ _ hc] at this
    cases this
  · have ih := valid_take n (l.drop (headW l)) (m - headW l) (by rw [List.length_drop]; omega) (by rw [List.length_drop]; omega) hv2 (by rw [List.drop_drop, show headW l + (m - headW l) = m by omega]; exact hd)
    have hhd : decodeL (l.take m) = decodeL l := by
     obtain ⟨k, h1, h4, hk, hh⟩ := pt_hit l hne hp
     have hkw : headW l = k := by unfold headW; rw [found l k h1 h4 hk hh]
     have hh2 : Hit (l.take m) k := by
      unfold Hit at hh ⊢
      have hc : candL (l.take m) k = candL l k := by
       conv => rhs; rw [← List.take_append_drop m l]
       exact (cand_take _ _ k h1 h4 (by rw [List.length_take]; omega)).symm
      rw [hc, List.take_take, show min k m = k by omega]
      exact hh
     rw [found l k h1 h4 hk hh, found (l.take m) k h1 h4 (by rw [List.length_take]; omega) hh2]
     unfold Hit at hh hh2
     have hc : candL (l.take m) k = candL l k := by
      conv => rhs; rw [← List.take_append_drop m l]
      exact (cand_take _ _ k h1 h4 (by rw [List.length_take]; omega)).symm
     rw [hc]
    have hnt : l.take m ≠ [] := by
     intro e
     have := congrArg List.length e
     rw [List.length_take, List.length_nil] at this
     omega
    rw [validD_step (l.take m) hnt, hhd]
    have hh : ¬ ((decodeL l).1 = 65533 ∧ (decodeL l).2 = 1) := of_decide_eq_true hp
    rw [if_neg hh, List.drop_take]
    exact ih
theorem valid_cons (c : UInt8) (t : List UInt8) (hc : c.toNat < 128) : validD (c :: t) = validD t :=
 valid_append 1 [c] t (by simp) (ascii_valid [c] (by simpa using hc))
theorem blank_low : ∀ c : UInt8, isBlankB c = true → c.toNat < 128 := forall_u8 (by decide +kernel)
theorem Lx.valid {g : Nat → List UInt8} (hg : ∀ i, ∀ b ∈ g i, isBlankB b = true) {l : List UInt8} {a : Nat} {T : List Tok} (h : Lx l a T) : ∀ (i : Nat), validD l = true → validD (Jt.loose g l a i T) = true := by
 induction h with
 | nil a => exact fun i h => h
 | blank h h2 ih =>
  intro i hv
  rw [loose_blank g _ h2, valid_cons _ _ (blank_low _ h)]
  rw [valid_cons _ _ (blank_low _ h)] at hv
  exact ih i hv
 | tok h h1 h2 ih =>
  intro i hv
  rename_i c t a T k x m
  have hm := nextL_le _ _ h1
  simp only at hm
  have hvd := valid_next _ hv _ h1
  simp only at hvd
  have hvt := valid_take _ _ m (Nat.le_refl _) hm.2 hv hvd
  unfold Jt.loose
  simp only
  rw [show a + m - a = m by omega, valid_append _ _ _ (Nat.le_refl _) hvt, valid_append _ (g (i + 1)) _ (Nat.le_refl _) (ascii_valid _ fun b hb => blank_low b (hg _ b hb))]
  exact ih (i + 1) hvd
end Go.Proofs.Jt
