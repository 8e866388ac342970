/- Values of JSON, plain: a value's words say the value; what words say. No program in sight. -/
import Derived.Test.YtphiceebhncflaaDoorV1
namespace Go.Proofs.Jt
open Go.Lib Go.Proofs.Utf

theorem fnd_zero {k : Int} {s : List UInt8} {ks : List (List UInt8)} {it : List JV} (h : (JV.mk k s ks it).fnd = 0) : (JV.mk k s ks it).shaped = true ∧ (k = 4 → validD s = true) ∧ fndL (decide (k = 6)) it ks [] = 0 := by
  rw [JV.fnd] at h
  split at h
  · cases h
  · rename_i h1
    split at h
    · cases h
    · rename_i h2
      refine ⟨by simpa using h1, fun hk => ?_, h⟩
      cases hv : validD s with
      | true => rfl
      | false => exact absurd ⟨hk, hv⟩ h2
theorem fndL_cons {o : Bool} {x : JV} {t : List JV} {ks met : List (List UInt8)} (h : fndL o (x :: t) ks met = 0) : (o = true → validD (ks.headD []) = true ∧ ks.headD [] ∉ met) ∧ x.fnd = 0 ∧ fndL o t ks.tail (ks.headD [] :: met) = 0 := by
  rw [fndL] at h
  split at h
  · cases h
  · rename_i h1
    split at h
    · cases h
    · rename_i h2
      split at h
      · rename_i h3
        refine ⟨fun ho => ⟨?_, fun hm => h2 ⟨ho, hm⟩⟩, h3, h⟩
        cases hv : validD (ks.headD []) with
        | true => rfl
        | false => exact absurd ⟨ho, hv⟩ h1
      · rename_i h3
        exact absurd h h3
/-- which shapes there are -/
theorem shaped_cases {k : Int} {s : List UInt8} {ks : List (List UInt8)} {it : List JV} (h : (JV.mk k s ks it).shaped = true) :
    ((k = 0 ∨ k = 1 ∨ k = 2) ∧ s = [] ∧ ks = [] ∧ it = []) ∨ (k = 3 ∧ ks = [] ∧ it = [] ∧ numB s = true) ∨ (k = 4 ∧ ks = [] ∧ it = []) ∨ (k = 5 ∧ s = [] ∧ ks = []) ∨ (k = 6 ∧ s = [] ∧ ks.length = it.length) := by
  rw [JV.shaped] at h
  split at h
  · rename_i h1
    simp at h
    exact .inl ⟨h1, h.1.1, h.1.2, h.2⟩
  · split at h
    · rename_i h1
      simp at h
      exact .inr (.inl ⟨h1, h.1.1, h.1.2, h.2⟩)
    · split at h
      · rename_i h1
        simp at h
        exact .inr (.inr (.inl ⟨h1, h.1, h.2⟩))
      · split at h
        · rename_i h1
          simp at h
          exact .inr (.inr (.inr (.inl ⟨h1, h.1, h.2⟩)))
        · split at h
          · rename_i h1
            simp at h
            exact .inr (.inr (.inr (.inr ⟨h1, h.1, h.2⟩)))
          · cases h
theorem ktL_false (o : Bool) (y : JV) (u : List JV) (ks : List (List UInt8)) : ktL o (y :: u) ks false = (1, [44]) :: ktL o (y :: u) ks true := by
  simp [ktL]
theorem ktL_true (o : Bool) (x : JV) (t : List JV) (ks : List (List UInt8)) : ktL o (x :: t) ks true = (if o then [(4, ks.headD []), (1, [58])] else []) ++ (x.kts ++ ktL o t ks.tail false) := by
  simp [ktL]
theorem kts_ne (v : JV) : 1 ≤ v.kts.length := by
  cases v
  rw [JV.kts]
  repeat' split
  all_goals simp
theorem kts_head (v : JV) (o : Bool) (r : List KT) : (v.kts ++ r).head? ≠ some (1, endK o) := by
  cases v
  rw [JV.kts]
  unfold endK
  repeat' split
  all_goals simp
theorem ktL_head (o : Bool) (x : JV) (t : List JV) (ks : List (List UInt8)) (r : List KT) : (ktL o (x :: t) ks true ++ r).head? ≠ some (1, endK o) := by
  rw [ktL_true]
  cases o with
  | true => simp
  | false =>
    have := kts_head x false (ktL false t ks.tail false ++ r)
    simpa using this
mutual
/-- a value's words say the value -/
theorem val_kts : ∀ (v : JV), v.fnd = 0 → ∀ (n : Nat) (r : List KT), 2 * v.kts.length + 1 ≤ n → valP n (v.kts ++ r) = some (v, r)
  | .mk k s ks it, h, n, r, hn => by
    obtain ⟨n, rfl⟩ : ∃ m, n = m + 1 := ⟨n - 1, by omega⟩
    obtain ⟨hs, _, hL⟩ := fnd_zero h
    rcases shaped_cases hs with ⟨hk, rfl, rfl, rfl⟩ | ⟨rfl, rfl, rfl, _⟩ | ⟨rfl, rfl, rfl⟩ | ⟨rfl, rfl, rfl⟩ | ⟨rfl, rfl, hl⟩
    · rcases hk with rfl | rfl | rfl <;> simp [JV.kts, valP, jn, wNull, wFalse, wTrue]
    · simp [JV.kts, valP]
    · simp [JV.kts, valP]
    · have ht := itm_kts false it [] hL rfl
      cases it with
      | nil => simp [JV.kts, ktL, valP, jn]
      | cons x t =>
        have hd := ktL_head false x t [] ((1, [93]) :: r)
        have hlen : 2 * (ktL false (x :: t) [] true).length + 4 ≤ n := by
          rw [JV.kts] at hn
          simp at hn
          omega
        have := ht (by simp) n r [] [] (by omega)
        simp only [endK] at hd this
        simp only [JV.kts, valP]
        simp
        rw [if_neg (by simpa using hd)]
        simpa using this
    · have ht := itm_kts true it ks hL hl
      cases it with
      | nil =>
        obtain rfl : ks = [] := List.length_eq_zero_iff.1 hl
        simp [JV.kts, ktL, valP, jn]
      | cons x t =>
        have hd := ktL_head true x t ks ((1, [125]) :: r)
        have hlen : 2 * (ktL true (x :: t) ks true).length + 4 ≤ n := by
          rw [JV.kts] at hn
          simp at hn
          omega
        have := ht (by simp) n r [] [] (by omega)
        simp only [endK] at hd this
        simp only [JV.kts, valP]
        simp
        rw [if_neg (by simpa using hd)]
        simpa using this
theorem itm_kts (o : Bool) : ∀ (it : List JV) (ks : List (List UInt8)) {met : List (List UInt8)}, fndL o it ks met = 0 → ks.length = (if o then it.length else 0) → it ≠ [] → ∀ (n : Nat) (r : List KT) (ks0 : List (List UInt8)) (it0 : List JV), 2 * (ktL o it ks true).length + 4 ≤ n →
    itmP n o (ktL o it ks true ++ (1, endK o) :: r) ks0 it0 = some (.mk (if o then 6 else 5) [] (if o then ks0 ++ ks else []) (it0 ++ it), r)
  | [], _, _, _, _, h, _, _, _, _, _ => absurd rfl h
  | x :: t, ks, met, hf, hl, _, n, r, ks0, it0, hn => by
    obtain ⟨n, rfl⟩ : ∃ m, n = m + 1 := ⟨n - 1, by omega⟩
    obtain ⟨_, hx, ht⟩ := fndL_cons hf
    have hv := val_kts x hx
    have hi := itm_kts o t ks.tail ht (by cases o <;> simp_all)
    rw [ktL_true] at hn ⊢
    have hkey : keyP o ((if o = true then [(4, ks.headD []), (1, [58])] else []) ++ (x.kts ++ ktL o t ks.tail false) ++ (1, endK o) :: r) = some (if o then ks.headD [] else [], x.kts ++ (ktL o t ks.tail false ++ (1, endK o) :: r)) := by
      cases o <;> simp [keyP]
    rw [itmP, hkey]
    simp only
    rw [hv n _ (by simp only [List.length_append] at hn; omega)]
    simp only
    cases t with
    | nil =>
      simp only [ktL, List.nil_append, List.head?_cons, if_true, List.tail_cons]
      cases o with
      | false => simp
      | true =>
        match ks, hl with
        | [k], _ => simp
    | cons y u =>
      have he : (endK o ≠ [44]) := by unfold endK; split <;> simp
      rw [ktL_false]
      simp only [List.cons_append, List.head?_cons, Option.some.injEq, Prod.mk.injEq, true_and, List.tail_cons]
      rw [if_neg (fun e => he e.symm), if_true]
      rw [hi (by simp) n r _ _ (by rw [ktL_false] at hn; simp only [List.length_append, List.length_cons] at hn ⊢; omega)]
      cases o with
      | false => simp
      | true =>
        match ks, hl with
        | k :: ks, _ => simp
end
end Go.Proofs.Jt
