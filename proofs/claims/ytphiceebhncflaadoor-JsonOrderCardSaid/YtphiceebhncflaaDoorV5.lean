/- Values of JSON, plain: Parse and Put undo each other; sizes. No program in sight. -/
import Derived.Test.YtphiceebhncflaaDoorV4
namespace Go.Proofs.Jt
open Go.Lib Go.Proofs.Utf

mutual
theorem fnd_ok : ∀ (v : JV), v.fnd = 0 → v.ok = true
  | .mk k s ks it, h => by
    obtain ⟨h1, h2, h3⟩ := fnd_zero h
    have hl : k = 6 → ks.length = it.length := fun e => by
      rcases shaped_cases h1 with ⟨e, _⟩ | ⟨e, _⟩ | ⟨e, _⟩ | ⟨e, _⟩ | ⟨_, _, e⟩
      all_goals omega
    have h4 := fndL_ok _ it ks [] h3
    rw [JV.ok]
    simp only [Bool.and_eq_true, Bool.or_eq_true, decide_eq_true_eq, List.all_eq_true]
    refine ⟨⟨⟨h1, ?_⟩, ?_⟩, h4.1⟩
    · by_cases hk : k = 4
      · exact .inr (h2 hk)
      · exact .inl hk
    · by_cases hk : k = 6
      · exact .inr (h4.2 (decide_eq_true hk) (hl hk))
      · exact .inl hk
theorem fndL_ok (o : Bool) : ∀ (it : List JV) (ks met : List (List UInt8)), fndL o it ks met = 0 → okL it = true ∧ (o = true → ks.length = it.length → ∀ x ∈ ks, validD x = true)
  | [], ks, _, _ => ⟨rfl, fun _ hl x hx => by
    obtain rfl : ks = [] := List.length_eq_zero_iff.1 hl
    cases hx⟩
  | x :: t, ks, met, h => by
    obtain ⟨h1, h2, h3⟩ := fndL_cons h
    have h4 := fndL_ok o t ks.tail _ h3
    refine ⟨by rw [okL, fnd_ok x h2, h4.1]; rfl, fun ho hl y hy => ?_⟩
    cases ks with
    | nil => cases hy
    | cons k r =>
      rcases List.mem_cons.1 hy with rfl | hy
      · exact (h1 ho).1
      · exact h4.2 ho (by simpa using hl) y hy
end
theorem fnd_dup (v : JV) (h : v.fnd = 0) : v.dup = false := by
  have := ok_fnd v (fnd_ok v h)
  rw [h] at this
  cases hd : v.dup with
  | false => rfl
  | true => rw [hd] at this; cases this
/-- what words say, as Parse tells it -/
def parK (K : List KT) : JV × Nat :=
  if 64 < openN K 0 0 then (jn 0, 3)
  else match valP (2 * K.length + 1) K with
    | some (v, []) => if v.dup then (jn 0, 13) else (v, 0)
    | _ => (jn 0, 4)
theorem par_K {l : List UInt8} {K : List KT} (h : LK l K) (hv : validD l = true) : parV l = parK K := by
  obtain ⟨T, h1, h2⟩ := h.toks hv
  unfold parV parK
  rw [h1]
  simp only
  rw [if_neg (by simp), h2, show T.length = K.length by rw [← h2, kt, List.length_map]]
  rfl
theorem open_kts (v : JV) (h : v.fnd = 0) : openN v.kts 0 0 = v.dep := by
  have h1 := val_kts v h _ [] (Nat.le_refl _)
  rw [List.append_nil] at h1
  have h2 := (val_open _).1 _ _ _ h1 0 0 (Nat.le_refl _)
  rw [h2, openN]
  omega
theorem parK_kts (v : JV) (h : v.fnd = 0) : parK v.kts = if 64 < v.dep then (jn 0, 3) else (v, 0) := by
  unfold parK
  rw [open_kts v h]
  have h1 := val_kts v h _ [] (Nat.le_refl _)
  rw [List.append_nil] at h1
  rw [h1]
  simp only
  rw [fnd_dup v h]
  rfl
theorem chk_zero {v : JV} (h : v.chk = 0) : v.dep ≤ 64 ∧ v.fnd = 0 := by
  unfold JV.chk at h
  split at h
  · cases h
  · exact ⟨by omega, h⟩
/-- a value's text says the value -/
theorem par_text (v : JV) (h : v.chk = 0) : parV v.text = (v, 0) := by
  obtain ⟨h1, h2⟩ := chk_zero h
  have h3 := text_LK v h2 [] [] LK.nil (fun c hc => by cases hc)
  rw [List.append_nil, List.append_nil] at h3
  rw [par_K h3 (text_valid v h2), parK_kts v h2, if_neg (by omega)]
theorem toks_lx {l : List UInt8} (h : (toksL l).2.2 = 0) : validD l = true ∧ Lx l 0 (toksL l).1 := by
  unfold toksL at h ⊢
  cases hv : validD l with
  | false => rw [hv] at h; cases h
  | true =>
    rw [hv, if_pos rfl] at h
    rw [if_pos rfl]
    obtain ⟨R, p, e, hR⟩ : ∃ R p e, tt l 0 [] = (R, p, e) := ⟨_, _, _, rfl⟩
    have he : e = 0 := by
      have : (tt l 0 []).2.2 = 0 := h
      rw [hR] at this
      exact this
    subst he
    have h1 := Lx.of_tt _ l 0 [] R p (Nat.le_refl _) hR
    obtain ⟨_, T, h2, h3⟩ := h1
    refine ⟨rfl, ?_⟩
    show Lx l 0 (tt l 0 []).1
    rw [hR, h2]
    exact h3
/-- what a text says may be -/
theorem par_ok {l : List UInt8} {v : JV} (h : parV l = (v, 0)) : v.chk = 0 := by
  unfold parV at h
  split at h
  · rename_i h1
    simp only [Prod.mk.injEq] at h
    exact absurd h.2 h1
  · rename_i h1
    obtain ⟨hv, hx⟩ := toks_lx (Classical.not_not.1 h1)
    split at h
    · cases h
    · rename_i h2
      split at h
      · rename_i w hw
        split at h
        · cases h
        · rename_i h3
          cases h
          have h4 := (val_ok _).1 _ _ _ (hx.good hv) hw
          have h5 := ok_fnd v h4.1
          rw [if_neg h3] at h5
          have h6 := (val_open _).1 _ _ _ hw 0 0 (Nat.le_refl _)
          rw [openN] at h6
          unfold JV.chk
          rw [if_neg (by omega), h5]
      · cases h
theorem par_err {l : List UInt8} {v : JV} {e : Nat} (h : parV l = (v, e)) (he : e ≠ 0) : v = jn 0 := by
  unfold parV at h
  split at h
  · cases h; rfl
  · split at h
    · cases h; rfl
    · split at h
      · split at h
        · cases h; rfl
        · cases h; exact absurd rfl he
      · cases h; rfl
/-- sizes -/
def kw : List KT → Nat
  | [] => 0
  | (_, x) :: t => 1 + x.length + kw t
theorem kw_append (a b : List KT) : kw (a ++ b) = kw a + kw b := by
  induction a with
  | nil => simp [kw]
  | cons x t ih => obtain ⟨k, x⟩ := x; simp only [List.cons_append, kw, ih]; omega
theorem keysW_append (a b : List (List UInt8)) : keysW (a ++ b) = keysW a + keysW b := by
  induction a with
  | nil => simp [keysW]
  | cons x t ih => simp only [List.cons_append, keysW, ih]; omega
theorem wtL_append (a b : List JV) : wtL (a ++ b) = wtL a + wtL b := by
  induction a with
  | nil => simp [wtL]
  | cons x t ih => simp only [List.cons_append, wtL, ih]; omega
theorem esc_len (t : List UInt8) (h : (escR t).2 ≠ 0) : (encodeRune (escR t).1).length ≤ (escR t).2 := by
  have h4 := enc_len4 _ ((esc_ascii t).2.1 h)
  unfold escR at h h4 ⊢
  cases hs : t[0]?.bind simple with
  | some y =>
    cases hc : t[0]? with
    | none => rw [hc] at hs; cases hs
    | some b =>
      rw [hc] at hs
      have := simple_val b y hs
      simp only
      rw [enc1 _ ⟨by omega, by omega⟩]
      simp
  | none =>
    rw [hs] at h h4
    simp only at h h4 ⊢
    split at h
    · exact absurd rfl h
    · rename_i h0
      rw [if_neg h0] at h4 ⊢
      split at h
      · rename_i h1
        rw [if_pos h1] at h4 ⊢
        simp only at h4 ⊢
        omega
      · rename_i h1
        rw [if_neg h1] at h4 ⊢
        split at h
        · rename_i h2
          rw [if_pos h2] at h4 ⊢
          simp only at h4 ⊢
          omega
        · exact absurd rfl h
theorem qq_len : ∀ (k : Nat) (l : List UInt8), l.length ≤ k → ∀ r, qq l = some r → r.1.length + 1 ≤ r.2
  | _, [], _, r, h => by rw [qq_nil] at h; cases h
  | 0, c :: t, hk, r, h => by simp at hk
  | k + 1, c :: t, hk, r, h => by
    simp only [List.length_cons] at hk
    by_cases h34 : c = 34
    · subst h34
      rw [qq_end] at h
      cases h
      simp
    by_cases h2 : c.toNat < 32
    · rw [qq_ctl c t h2] at h; cases h
    by_cases h3 : c = 92
    · subst h3
      rw [qq_esc] at h
      split at h
      · cases h
      · rename_i h0
        obtain ⟨q, hq, rfl⟩ := Option.map_eq_some_iff.1 h
        have := qq_len k _ (by rw [List.length_drop]; omega) q hq
        have he := esc_len t h0
        simp only [List.length_append]
        omega
    · rw [qq_byte c t h34 h2 h3] at h
      obtain ⟨q, hq, rfl⟩ := Option.map_eq_some_iff.1 h
      have := qq_len k t (by omega) q hq
      simp only [List.length_cons]
      omega
theorem next_len {l : List UInt8} {k : Nat} {x : List UInt8} {m : Nat} (h : nextL l = some (k, x, m)) : x.length ≤ m := by
  by_cases hk : k = 4
  · subst hk
    cases l with
    | nil => cases h
    | cons c t =>
      rw [nextL_cons] at h
      split at h
      · cases h
      · split at h
        · obtain ⟨q, hq, e⟩ := Option.map_eq_some_iff.1 h
          cases e
          have := qq_len _ t (Nat.le_refl _) q hq
          omega
        · split at h
          · cases h
          · split at h
            · cases h
            · cases h
  · rw [next_text l k x m h hk, List.length_take]
    omega
theorem Lx.kw_le {l : List UInt8} {a : Nat} {T : List Tok} (h : Lx l a T) : kw (kt T) ≤ 2 * l.length := by
  induction h with
  | nil a => simp [kt, kw]
  | blank h _ ih => simp only [List.length_cons]; omega
  | @tok c t a T k x m h h1 h2 ih =>
    have hm := nextL_le _ _ h1
    have hx := next_len h1
    simp only at hm
    rw [List.length_drop] at ih
    unfold kt at ih ⊢
    simp only [List.map_cons, kw]
    omega
theorem val_wt : ∀ n : Nat, (∀ (l : List KT) (v : JV) (r : List KT), valP n l = some (v, r) → v.wt + kw r ≤ kw l) ∧
    (∀ (o : Bool) (l : List KT) (ks : List (List UInt8)) (it : List JV) (v : JV) (r : List KT), itmP n o l ks it = some (v, r) → v.wt + kw r ≤ kw l + 1 + (if o then keysW ks else 0) + wtL it)
  | 0 => ⟨fun l v r h => (by rw [valP] at h; cases h), fun o l ks it v r h => by rw [itmP] at h; cases h⟩
  | n + 1 => by
    obtain ⟨ih1, ih2⟩ := val_wt n
    refine ⟨fun l v r h => ?_, fun o l ks it v r h => ?_⟩
    · cases l with
      | nil => rw [valP] at h; cases h
      | cons t l =>
        obtain ⟨k, x⟩ := t
        rw [valP_cons] at h
        rw [kw]
        have hend : ∀ (e : List UInt8) (w : JV) (b : Bool), w.wt = 1 → (if l.head? = some (1, e) then some (w, l.tail) else itmP n b l [] []) = some (v, r) → v.wt + kw r ≤ 1 + kw l := fun e w b hw h => by
          split at h
          · rename_i hh
            cases h
            cases l with
            | nil => cases hh
            | cons y l => obtain ⟨k, x⟩ := y; simp only [List.tail_cons, kw]; omega
          · have := ih2 b l [] [] v r h
            simp only [wtL, keysW] at this
            split at this <;> omega
        split at h
        · split at h
          · cases h; simp [jn, JV.wt, keysW, wtL]
          · split at h
            · cases h; simp [jn, JV.wt, keysW, wtL]
            · split at h
              · cases h; simp [jn, JV.wt, keysW, wtL]
              · cases h
        · split at h
          · cases h; simp [JV.wt, keysW, wtL]
          · split at h
            · cases h; simp [JV.wt, keysW, wtL]
            · split at h
              · have := hend _ _ _ rfl h; omega
              · split at h
                · have := hend _ _ _ rfl h; omega
                · cases h
    · rw [itmP] at h
      split at h
      · cases h
      · rename_i key r2 hkey
        have hl2 : (if o then 1 + key.length else 0) + kw r2 ≤ kw l := by
          rcases keyP_some hkey with ⟨ho, e⟩ | ⟨ho, _, e⟩
          · rw [e, kw, kw, if_pos ho]; omega
          · rw [e, if_neg (by rw [ho]; simp)]; omega
        split at h
        · cases h
        · rename_i w r3 hv
          have h1 := ih1 r2 w r3 hv
          split at h
          · rename_i hh
            cases h
            cases r3 with
            | nil => cases hh
            | cons y r3 =>
              obtain ⟨k, x⟩ := y
              simp only [List.tail_cons, kw] at h1 ⊢
              rw [JV.wt, wtL_append]
              simp only [wtL, List.length_nil]
              cases o with
              | false => simp [keysW] at hl2 ⊢; omega
              | true => simp only [if_true, keysW_append, keysW] at hl2 ⊢; omega
          · split at h
            · rename_i hh
              cases r3 with
              | nil => cases hh
              | cons y r3 =>
                obtain ⟨k, x⟩ := y
                rw [List.tail_cons] at h
                have h9 := ih2 o r3 _ _ v r h
                rw [wtL_append, keysW_append] at h9
                simp only [wtL, keysW, kw] at h9 h1
                cases o with
                | false => simp at hl2 h9 ⊢; omega
                | true => simp only [if_true] at hl2 h9 ⊢; omega
            · cases h
theorem par_wt {l : List UInt8} {v : JV} (h : parV l = (v, 0)) : v.wt ≤ 2 * l.length := by
  unfold parV at h
  split at h
  · rename_i h1
    simp only [Prod.mk.injEq] at h
    exact absurd h.2 h1
  · rename_i h1
    obtain ⟨hv, hx⟩ := toks_lx (Classical.not_not.1 h1)
    split at h
    · cases h
    · split at h
      · rename_i w hw
        split at h
        · cases h
        · cases h
          have h4 := (val_wt _).1 _ _ _ hw
          have h5 := hx.kw_le
          omega
      · cases h
mutual
theorem text_len : ∀ (v : JV), v.text.length + 4 ≤ 9 * v.wt
  | .mk k s ks it => by
    have hq := quote_len s
    have h1 := txtL_len true it ks true
    have h2 := txtL_len false it ks true
    simp only [if_true, Bool.false_eq_true, if_false] at h1 h2
    rw [JV.text, JV.wt]
    repeat' split
    all_goals (simp [wNull, wFalse, wTrue]; try omega)
theorem txtL_len (o : Bool) : ∀ (it : List JV) (ks : List (List UInt8)) (first : Bool), (txtL o it ks first).length ≤ 9 * (wtL it + (if o then keysW ks else 0))
  | [], _, _ => by rw [txtL]; simp
  | x :: t, ks, first => by
    have h1 := text_len x
    have h2 := txtL_len o t ks.tail false
    rw [txtL, wtL]
    cases o with
    | false => cases first <;> (simp at h2 ⊢; omega)
    | true =>
      have h3 := quote_len (ks.headD [])
      simp only [if_true] at h2 ⊢
      cases ks with
      | nil =>
        rw [List.headD_nil] at h3
        cases first <;> (simp [keysW] at h2 h3 ⊢; omega)
      | cons k r =>
        rw [List.headD_cons] at h3
        rw [List.tail_cons] at h2
        cases first <;> (simp [keysW] at h2 ⊢; omega)
end
end Go.Proofs.Jt
