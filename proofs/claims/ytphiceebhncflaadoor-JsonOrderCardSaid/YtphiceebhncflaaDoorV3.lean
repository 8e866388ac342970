/- Values of JSON, plain: what words say may be, but for keys that stand twice; how deep it is. No program in sight. -/
import Derived.Test.YtphiceebhncflaaDoorV2
namespace Go.Proofs.Jt
open Go.Lib Go.Proofs.Utf

mutual
/-- a value that may be, but for keys that stand twice -/
def JV.ok : JV → Bool | .mk k s ks it => (JV.mk k s ks it).shaped && (decide (k ≠ 4) || validD s) && (decide (k ≠ 6) || ks.all validD) && okL it
def okL : List JV → Bool
  | [] => true
  | x :: t => x.ok && okL t
end
theorem okL_append (a b : List JV) : okL (a ++ b) = (okL a && okL b) := by
  induction a with
  | nil => simp [okL]
  | cons x t ih => simp [okL, ih, Bool.and_assoc]
theorem ok_parts {k : Int} {s : List UInt8} {ks : List (List UInt8)} {it : List JV} (h : (JV.mk k s ks it).ok = true) : (JV.mk k s ks it).shaped = true ∧ (k = 4 → validD s = true) ∧ (k = 6 → ∀ x ∈ ks, validD x = true) ∧ okL it = true := by
  rw [JV.ok] at h
  simp only [Bool.and_eq_true, Bool.or_eq_true, decide_eq_true_eq, List.all_eq_true] at h
  obtain ⟨⟨⟨h1, h2⟩, h3⟩, h4⟩ := h
  exact ⟨h1, fun e => h2.resolve_left (fun g => g e), fun e => h3.resolve_left (fun g => g e), h4⟩
mutual
theorem ok_fnd : ∀ (v : JV), v.ok = true → v.fnd = if v.dup then 13 else 0
  | .mk k s ks it, h => by
    obtain ⟨h1, h2, h3, h4⟩ := ok_parts h
    rw [JV.fnd, JV.dup, h1, if_neg (by simp), if_neg (fun e => by rw [h2 e.1] at e; cases e.2)]
    by_cases hk : k = 6
    · have hl : it.length ≤ ks.length := by
        rcases shaped_cases h1 with ⟨e, _⟩ | ⟨e, _⟩ | ⟨e, _⟩ | ⟨e, _⟩ | ⟨_, _, e⟩
        all_goals omega
      exact ok_fndL _ it ks [] h4 (fun _ => ⟨hl, h3 hk⟩)
    · exact ok_fndL _ it ks [] h4 (fun e => absurd (of_decide_eq_true e) hk)
theorem ok_fndL (o : Bool) : ∀ (it : List JV) (ks met : List (List UInt8)), okL it = true → (o = true → it.length ≤ ks.length ∧ ∀ x ∈ ks, validD x = true) → fndL o it ks met = if dupL o it ks met then 13 else 0
  | [], _, _, _, _ => by simp [fndL, dupL]
  | x :: t, ks, met, h, hk => by
    rw [okL, Bool.and_eq_true] at h
    have h1 := ok_fnd x h.1
    have h2 := ok_fndL o t ks.tail (ks.headD [] :: met) h.2 (fun e => by
      have := hk e
      refine ⟨by simp at this ⊢; omega, fun y hy => this.2 y (List.mem_of_mem_tail hy)⟩)
    have h3 : o = true → validD (ks.headD []) = true := fun e => by
      have := hk e
      cases ks with
      | nil => simp at this
      | cons k r => exact this.2 k List.mem_cons_self
    rw [fndL, dupL, if_neg (fun e => by rw [h3 e.1] at e; cases e.2), h1, h2]
    cases o with
    | false => cases x.dup <;> simp
    | true =>
      clear h1 h2 h3 hk
      generalize ks.headD [] = key
      by_cases hm : key ∈ met
      · simp [hm]
      · simp [hm]
        cases x.dup <;> simp
end
/-- words that are what they must be -/
def goodK (l : List KT) : Prop := ∀ x ∈ l, (x.1 = 3 → numB x.2 = true) ∧ (x.1 = 4 → validD x.2 = true)
theorem goodK.tail {l : List KT} (h : goodK l) : goodK l.tail := fun x hx => h x (List.mem_of_mem_tail hx)
theorem keyP_some {o : Bool} {r r2 : List KT} {key : List UInt8} (h : keyP o r = some (key, r2)) : (o = true ∧ r = (4, key) :: (1, [58]) :: r2) ∨ (o = false ∧ key = [] ∧ r2 = r) := by
  unfold keyP at h
  split at h
  · rename_i ho
    split at h
    · cases h
      exact .inl ⟨ho, rfl⟩
    · cases h
  · rename_i ho
    cases h
    exact .inr ⟨by simpa using ho, rfl, rfl⟩
theorem valP_cons (n : Nat) (k : Nat) (x : List UInt8) (r : List KT) : valP (n + 1) ((k, x) :: r) =
    if k = 2 then (if x = wNull then some (jn 0, r) else if x = wFalse then some (jn 1, r) else if x = wTrue then some (jn 2, r) else none)
    else if k = 3 then some (.mk 3 x [] [], r)
    else if k = 4 then some (.mk 4 x [] [], r)
    else if k = 1 ∧ x = [91] then (if r.head? = some (1, [93]) then some (jn 5, r.tail) else itmP n false r [] [])
    else if k = 1 ∧ x = [123] then (if r.head? = some (1, [125]) then some (jn 6, r.tail) else itmP n true r [] [])
    else none := by rw [valP]
theorem jn_ok (k : Int) (h : k = 0 ∨ k = 1 ∨ k = 2 ∨ k = 5 ∨ k = 6) : (jn k).ok = true := by
  rcases h with rfl | rfl | rfl | rfl | rfl <;> rfl
theorem val_ok : ∀ n : Nat, (∀ (l : List KT) (v : JV) (r : List KT), goodK l → valP n l = some (v, r) → v.ok = true ∧ ∃ a, l = a ++ r) ∧
    (∀ (o : Bool) (l : List KT) (ks : List (List UInt8)) (it : List JV) (v : JV) (r : List KT), goodK l → okL it = true → (o = true → ks.length = it.length ∧ ∀ x ∈ ks, validD x = true) → itmP n o l ks it = some (v, r) → v.ok = true ∧ ∃ a, l = a ++ r)
  | 0 => ⟨fun l v r _ h => (by rw [valP] at h; cases h), fun o l ks it v r _ _ _ h => by rw [itmP] at h; cases h⟩
  | n + 1 => by
    obtain ⟨ih1, ih2⟩ := val_ok n
    refine ⟨fun l v r hg h => ?_, fun o l ks it v r hg hit hks h => ?_⟩
    · cases l with
      | nil => rw [valP] at h; cases h
      | cons t l =>
        obtain ⟨k, x⟩ := t
        have hx := hg (k, x) List.mem_cons_self
        have hgl : goodK l := hg.tail
        rw [valP_cons] at h
        split at h
        · split at h
          · cases h; exact ⟨rfl, [_], rfl⟩
          · split at h
            · cases h; exact ⟨rfl, [_], rfl⟩
            · split at h
              · cases h; exact ⟨rfl, [_], rfl⟩
              · cases h
        · split at h
          · rename_i hk
            cases h
            refine ⟨?_, [_], rfl⟩
            simp [JV.ok, JV.shaped, okL, hx.1 hk]
          · split at h
            · rename_i hk
              cases h
              refine ⟨?_, [_], rfl⟩
              simp [JV.ok, JV.shaped, okL, hx.2 hk]
            · have hend : ∀ (e : List UInt8) (w : JV) (m : Bool), w.ok = true → (if l.head? = some (1, e) then some (w, l.tail) else itmP n m l [] []) = some (v, r) → v.ok = true ∧ ∃ a, (k, x) :: l = a ++ r := fun e w m hw h => by
                split at h
                · rename_i hh
                  cases h
                  cases l with
                  | nil => cases hh
                  | cons y l => exact ⟨hw, [_, y], rfl⟩
                · obtain ⟨h1, a, h2⟩ := ih2 m l [] [] v r hgl rfl (fun _ => ⟨rfl, fun x hx => by cases hx⟩) h
                  exact ⟨h1, (k, x) :: a, by rw [h2]; rfl⟩
              split at h
              · exact hend _ _ _ rfl h
              · split at h
                · exact hend _ _ _ rfl h
                · cases h
    · rw [itmP] at h
      split at h
      · cases h
      · rename_i key r2 hkey
        have hl2 : ∃ b, l = b ++ r2 ∧ (o = true → validD key = true) := by
          rcases keyP_some hkey with ⟨_, e⟩ | ⟨ho, _, e⟩
          · refine ⟨[_, _], e, fun _ => ?_⟩
            have := hg (4, key) (by rw [e]; exact List.mem_cons_self)
            exact this.2 rfl
          · exact ⟨[], by rw [e]; rfl, fun h => by rw [ho] at h; cases h⟩
        obtain ⟨b, hb, hvk⟩ := hl2
        have hg2 : goodK r2 := fun y hy => hg y (by rw [hb]; exact List.mem_append_right _ hy)
        split at h
        · cases h
        · rename_i w r3 hv
          obtain ⟨h1, c, hc⟩ := ih1 r2 w r3 hg2 hv
          have hg3 : goodK r3 := fun y hy => hg2 y (by rw [hc]; exact List.mem_append_right _ hy)
          have hit2 : okL (it ++ [w]) = true := by rw [okL_append, hit]; simp [okL, h1]
          have hks2 : o = true → (ks ++ [key]).length = (it ++ [w]).length ∧ ∀ x ∈ ks ++ [key], validD x = true := fun ho => by
            have := hks ho
            refine ⟨by simp [this.1], fun y hy => ?_⟩
            rcases List.mem_append.1 hy with hy | hy
            · exact this.2 y hy
            · rw [List.mem_singleton.1 hy]; exact hvk ho
          split at h
          · rename_i hh
            cases h
            cases r3 with
            | nil => cases hh
            | cons y r3 =>
              refine ⟨?_, b ++ (c ++ [y]), by rw [hb, hc]; simp⟩
              cases o with
              | false => simp [JV.ok, JV.shaped, hit2]
              | true =>
                have := hks2 rfl
                simp only [JV.ok, JV.shaped, hit2]
                simp [this.1]
                have h4 := (hks rfl)
                exact ⟨fun y hy => h4.2 y hy, hvk rfl⟩
          · split at h
            · rename_i hh
              cases r3 with
              | nil => cases hh
              | cons y r3 =>
                obtain ⟨h5, d, hd⟩ := ih2 o r3 _ _ v r hg3.tail hit2 hks2 h
                exact ⟨h5, b ++ (c ++ (y :: d)), by rw [hb, hc, hd]; simp⟩
            · cases h
/-- how deep what words say is -/
theorem openN_cons (k : Nat) (x : List UInt8) (r : List KT) (n h : Nat) : openN ((k, x) :: r) n h = openN r (if k = 1 ∧ (x = [91] ∨ x = [123]) then n + 1 else if k = 1 ∧ (x = [93] ∨ x = [125]) then n - 1 else n) (max (if k = 1 ∧ (x = [91] ∨ x = [123]) then n + 1 else if k = 1 ∧ (x = [93] ∨ x = [125]) then n - 1 else n) h) := rfl
theorem depL_snoc (a : List JV) (w : JV) : depL (a ++ [w]) = max (depL a) w.dep := by
  induction a with
  | nil => simp [depL]
  | cons x t ih => simp only [List.cons_append, depL, ih]; omega
theorem openN_le : ∀ (l : List KT) (n h : Nat), h ≤ openN l n h
  | [], _, _ => Nat.le_refl _
  | (k, x) :: r, n, h => by
    rw [openN_cons]
    exact Nat.le_trans (Nat.le_max_right _ _) (openN_le r _ _)
/-- an object or an array is deeper than its items -/
theorem itm_dep2 : ∀ (n : Nat) (o : Bool) (l : List KT) (ks : List (List UInt8)) (it : List JV) (v : JV) (r : List KT), itmP n o l ks it = some (v, r) → depL it + 1 ≤ v.dep
  | 0, o, l, ks, it, v, r, h => by rw [itmP] at h; cases h
  | n + 1, o, l, ks, it, v, r, h => by
    rw [itmP] at h
    split at h
    · cases h
    · split at h
      · cases h
      · rename_i w r3 hv
        split at h
        · cases h
          cases o <;> simp [JV.dep, depL_snoc] <;> omega
        · split at h
          · have := itm_dep2 n _ _ _ _ _ _ h
            rw [depL_snoc] at this
            omega
          · cases h
theorem itm_dep (n : Nat) (o : Bool) (l : List KT) (ks : List (List UInt8)) (it : List JV) (v : JV) (r : List KT) (h : itmP n o l ks it = some (v, r)) (h0 : v.dep = 0) : False := by
  have := itm_dep2 n o l ks it v r h
  omega
theorem val_open : ∀ n : Nat, (∀ (l : List KT) (v : JV) (r : List KT), valP n l = some (v, r) → ∀ m h : Nat, m ≤ h → openN l m h = openN r m (max h (m + v.dep))) ∧
    (∀ (o : Bool) (l : List KT) (ks : List (List UInt8)) (it : List JV) (v : JV) (r : List KT), itmP n o l ks it = some (v, r) → ∀ m h : Nat, m + depL it + 1 ≤ h → openN l (m + 1) h = openN r m (max h (m + v.dep)))
  | 0 => ⟨fun l v r h => (by rw [valP] at h; cases h), fun o l ks it v r h => by rw [itmP] at h; cases h⟩
  | n + 1 => by
    obtain ⟨ih1, ih2⟩ := val_open n
    refine ⟨fun l v r h m hi hm => ?_, fun o l ks it v r h m hi hm => ?_⟩
    · cases l with
      | nil => rw [valP] at h; cases h
      | cons t l =>
        obtain ⟨k, x⟩ := t
        rw [valP_cons] at h
        rw [openN_cons]
        split at h
        · rename_i hk
          rw [if_neg (by omega), if_neg (by omega)]
          split at h
          · cases h; simp [jn, JV.dep]; congr 1; omega
          · split at h
            · cases h; simp [jn, JV.dep]; congr 1; omega
            · split at h
              · cases h; simp [jn, JV.dep]; congr 1; omega
              · cases h
        · split at h
          · rename_i hk
            rw [if_neg (by omega), if_neg (by omega)]
            cases h; simp [JV.dep]; congr 1; omega
          · split at h
            · rename_i hk
              rw [if_neg (by omega), if_neg (by omega)]
              cases h; simp [JV.dep]; congr 1; omega
            · have hend : ∀ (e : List UInt8) (w : JV) (b : Bool), w.dep = 1 → (e = [93] ∨ e = [125]) → (if l.head? = some (1, e) then some (w, l.tail) else itmP n b l [] []) = some (v, r) → openN l (m + 1) (max (m + 1) hi) = openN r m (max hi (m + v.dep)) := fun e w b hw he h => by
                split at h
                · rename_i hh
                  cases h
                  cases l with
                  | nil => cases hh
                  | cons y l =>
                    obtain rfl := Option.some.inj hh
                    rw [openN_cons, if_neg (by rcases he with rfl | rfl <;> simp), if_pos ⟨rfl, he⟩, hw]
                    simp only [Nat.add_sub_cancel, List.tail_cons]
                    congr 1
                    omega
                · rw [ih2 b l [] [] v r h m _ (by simp only [depL]; omega)]
                  cases v with
                  | mk k s ks it =>
                    congr 1
                    have : 1 ≤ (JV.mk k s ks it).dep ∨ (JV.mk k s ks it).dep = 0 := by omega
                    rcases this with h1 | h1
                    · omega
                    · exfalso
                      exact itm_dep n b l [] [] _ r h h1
              split at h
              · rename_i hk
                rw [if_pos ⟨hk.1, .inl hk.2⟩]
                exact hend _ _ _ rfl (.inl rfl) h
              · split at h
                · rename_i hk
                  rw [if_pos ⟨hk.1, .inr hk.2⟩]
                  exact hend _ _ _ rfl (.inr rfl) h
                · cases h
    · rw [itmP] at h
      split at h
      · cases h
      · rename_i key r2 hkey
        have hl2 : openN l (m + 1) hi = openN r2 (m + 1) hi := by
          rcases keyP_some hkey with ⟨_, e⟩ | ⟨ho, _, e⟩
          · rw [e, openN_cons, openN_cons]
            simp
            congr 1
            omega
          · rw [e]
        rw [hl2]
        split at h
        · cases h
        · rename_i w r3 hv
          rw [ih1 r2 w r3 hv (m + 1) hi (by omega)]
          split at h
          · rename_i hh
            cases h
            cases r3 with
            | nil => cases hh
            | cons y r3 =>
              obtain rfl := Option.some.inj hh
              rw [openN_cons, if_neg (by unfold endK; split <;> simp), if_pos ⟨rfl, by unfold endK; split <;> simp⟩]
              simp only [Nat.add_sub_cancel, List.tail_cons]
              congr 1
              cases o <;> simp [JV.dep, depL_snoc] <;> omega
          · split at h
            · rename_i hh
              cases r3 with
              | nil => cases hh
              | cons y r3 =>
                obtain rfl := Option.some.inj hh
                rw [openN_cons, if_neg (by simp), if_neg (by simp)]
                rw [List.tail_cons] at h
                have h9 := ih2 o r3 _ _ v r h m (max (m + 1) (max hi (m + 1 + w.dep))) (by rw [depL_snoc]; omega)
                rw [h9]
                have h10 := itm_dep2 n o r3 _ _ v r h
                rw [depL_snoc] at h10
                congr 1
                omega
            · cases h
end Go.Proofs.Jt
