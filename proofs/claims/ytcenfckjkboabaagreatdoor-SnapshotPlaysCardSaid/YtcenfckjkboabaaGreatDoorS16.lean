/- What a held generation tells: plain law of SnapshotStays. No program in sight. -/
import Derived.Test.YtcenfckjkboabaaGreatDoorS14
namespace Go.Proofs.Dc
open Go.Lib

/-- nobody else is held -/
def Free0 (A : List Gen) : Prop := ∀ g ∈ A, g.held = 0
theorem kept_mid {P A : List Gen} {x : Gen} (hP : Free0 P) (hA : Free0 A) (i : Nat) : kept (P ++ x :: A) i = (decide (i + 1 = P.length + 1 + A.length) || (i == P.length && decide (0 < x.held))) := by
  have hlen : (P ++ x :: A).length = P.length + 1 + A.length := by simp; omega
  unfold kept
  by_cases h1 : i < P.length
  · rw [List.getElem?_append_left h1]
    obtain ⟨g, hg⟩ : ∃ g, P[i]? = some g := ⟨_, List.getElem?_eq_getElem h1⟩
    have := hP g (List.mem_of_getElem? hg)
    have h2 : (i == P.length) = false := beq_eq_false_iff_ne.2 (by omega)
    rw [hg, hlen]
    simp only
    rw [this, h2]
    simp
  · rw [List.getElem?_append_right (by omega)]
    by_cases h2 : i = P.length
    · subst h2
      rw [Nat.sub_self, List.getElem?_cons_zero, hlen]
      simp
    · obtain ⟨j, hj⟩ : ∃ j, i - P.length = j + 1 := ⟨i - P.length - 1, by omega⟩
      rw [hj, List.getElem?_cons_succ]
      have h3 : (i == P.length) = false := beq_eq_false_iff_ne.2 h2
      rw [h3]
      by_cases h4 : j < A.length
      · obtain ⟨g, hg⟩ : ∃ g, A[j]? = some g := ⟨_, List.getElem?_eq_getElem h4⟩
        have := hA g (List.mem_of_getElem? hg)
        rw [hg, hlen]
        simp only
        rw [this]
        simp
      · rw [List.getElem?_eq_none (by omega)]
        simp
        omega
theorem cnt_none {K : Nat → Bool} : ∀ {N : Nat}, (∀ i, i < N → K i = false) → cnt K N = 0
  | 0, _ => rfl
  | N + 1, h => by
    rw [cnt_succ, cnt_none (fun i hi => h i (by omega)), h N (by omega)]
    rfl
theorem cnt_one {K : Nat → Bool} {a N : Nat} (ha : a < N) (h : ∀ i, i < N → K i = (i == a)) : cnt K N = 1 := by
  have hk : K a = true := by rw [h a ha]; simp
  have := cnt_less hk ha
  rw [cnt_none (K := fun i => K i && i != a) (fun i hi => by rw [h i hi]; by_cases e : i = a <;> simp [e])] at this
  omega
theorem cnt_two {K : Nat → Bool} {a b N : Nat} (ha : a < N) (hb : b < N) (hab : a ≠ b) (h : ∀ i, i < N → K i = (i == a || i == b)) : cnt K N = 2 := by
  have hk : K a = true := by rw [h a ha]; simp
  have := cnt_less hk ha
  rw [cnt_one (K := fun i => K i && i != a) (a := b) hb (fun i hi => by rw [h i hi, Bool.eq_iff_iff]; simp; omega)] at this
  omega
/-- how many are kept beside a held one -/
theorem cnt_held {P A : List Gen} {x : Gen} (hP : Free0 P) (hA : Free0 A) (hx : 0 < x.held) : cnt (kept (P ++ x :: A)) (P ++ x :: A).length = if A = [] then 1 else 2 := by
  have hlen : (P ++ x :: A).length = P.length + 1 + A.length := by simp; omega
  rw [hlen]
  split
  · rename_i h
    subst h
    refine cnt_one (a := P.length) (by simp) fun i hi => ?_
    rw [kept_mid hP hA, Bool.eq_iff_iff]
    simp
    omega
  · rename_i h
    have : 0 < A.length := List.length_pos_iff.2 h
    refine cnt_two (a := P.length) (b := P.length + A.length) (by omega) (by omega) (by omega) fun i hi => ?_
    rw [kept_mid hP hA, Bool.eq_iff_iff]
    simp
    omega
theorem cnt_free {P A : List Gen} {x : Gen} (hP : Free0 P) (hA : Free0 A) (hx : x.held = 0) : cnt (kept (P ++ x :: A)) (P ++ x :: A).length = 1 := by
  have hlen : (P ++ x :: A).length = P.length + 1 + A.length := by simp; omega
  rw [hlen]
  refine cnt_one (a := P.length + A.length) (by omega) fun i hi => ?_
  rw [kept_mid hP hA, hx, Bool.eq_iff_iff]
  simp
  omega
theorem split_last {G : List Gen} (h : G ≠ []) : ∃ P x, G = P ++ [x] := ⟨G.dropLast, G.getLast h, (List.dropLast_concat_getLast h).symm⟩
theorem hold_snoc (P : List Gen) (x : Gen) : holdG (P ++ [x]) = P ++ [{ x with held := x.held + 1 }] := by
  unfold holdG
  have : (P ++ [x])[(P ++ [x]).length - 1]? = some x := by simp
  rw [this]
  simp
theorem free_mid (P A : List Gen) (x : Gen) (h : x.held = 1) : freeE (P ++ x :: A) (P.length : Nat) = 0 ∧ freeG (P ++ x :: A) (P.length : Nat) = P ++ { x with held := 0 } :: A := by
  have hg : (P ++ x :: A)[((P.length : Nat) : Int).toNat]? = some x := by simp
  unfold freeE freeG
  rw [if_pos (by omega), if_pos (by omega), hg]
  simp only
  rw [if_pos (by omega), if_pos (by omega)]
  refine ⟨rfl, ?_⟩
  simp [h]
theorem free_again (P A : List Gen) (x : Gen) (h : x.held = 0) : freeE (P ++ x :: A) (P.length : Nat) = 5 ∧ freeG (P ++ x :: A) (P.length : Nat) = P ++ x :: A := by
  have hg : (P ++ x :: A)[((P.length : Nat) : Int).toNat]? = some x := by simp
  unfold freeE freeG
  rw [if_pos (by omega), if_pos (by omega), hg]
  simp only
  rw [if_neg (by omega), if_neg (by omega)]
  exact ⟨rfl, rfl⟩
theorem free0_snoc {A : List Gen} (h : Free0 A) (L : List Doc) (u : List UInt8) : Free0 (A ++ [⟨L, 0, u⟩]) := fun g hg => by
  rcases List.mem_append.1 hg with hg | hg
  · exact h g hg
  · rw [List.mem_singleton.1 hg]
theorem of_mid {P A : List Gen} {x : Gen} (hP : Free0 P) (hA : Free0 A) (hx : 0 < x.held) : ofV (kept (P ++ x :: A)) (P ++ x :: A) (P.length : Nat) = some x.docs := by
  unfold ofV
  rw [if_pos ⟨by omega, by rw [kept_mid hP hA]; simp [hx]⟩]
  simp
theorem of_gone {P A : List Gen} {x : Gen} (hP : Free0 P) (hA : Free0 A) (hx : x.held = 0) (hne : A ≠ []) : ofV (kept (P ++ x :: A)) (P ++ x :: A) (P.length : Nat) = none := by
  unfold ofV
  have : 0 < A.length := List.length_pos_iff.2 hne
  rw [if_neg]
  rintro ⟨_, h⟩
  rw [kept_mid hP hA, hx, Int.toNat_natCast] at h
  simp only [decide_eq_true_eq, Bool.or_eq_true, Bool.and_eq_true] at h
  rcases h with h | ⟨_, h⟩ <;> omega
end Go.Proofs.Dc
