/- Where documents came: plain law of SnapshotCame. No program in sight. -/
import Derived.Test.YtcenfckjkboabaaGreatDoorS16
namespace Go.Proofs.Dc
open Go.Lib

/-- each document came somewhere behind generation 0 -/
def CI (G : List Gen) : Prop := ∀ n g, G[n]? = some g → ∀ u, (getD? g.docs u).isSome = true → 1 ≤ cameOf G n u ∧ cameOf G n u ≤ n
theorem ci_G0 : CI G0 := fun n g hg u hu => by
  match n, hg with
  | 0, hg =>
    obtain rfl := Option.some.inj hg
    cases hu
  | n + 1, hg => cases hg
theorem CI.add {G : List Gen} (h : CI G) (hne : G ≠ []) {g : Gen} (hg : G[G.length - 1]? = some g) {L : List Doc} {u : List UInt8} (ho : OneU g.docs L u) : CI (addG G L u) := fun n x hx v hv => by
  have hl : 0 < G.length := List.length_pos_iff.2 hne
  by_cases hn : n < G.length
  · have hx2 : G[n]? = some x := by
      unfold addG at hx
      rwa [List.getElem?_append_left hn] at hx
    rw [came_old L u hn]
    exact h n x hx2 v hv
  · have hn2 : n = G.length := by
      have := (List.getElem?_eq_some_iff.1 hx).1
      simp [addG] at this
      omega
    subst hn2
    have hx2 : x = ⟨L, 0, u⟩ := by
      unfold addG at hx
      simp at hx
      exact hx.symm
    subst hx2
    rw [came_add L u v hne]
    by_cases e : u = v
    · rw [if_pos e]; omega
    · rw [if_neg e]
      have hs := ho.same v (fun e2 => e e2.symm)
      simp only at hv
      rw [hs] at hv
      have := h _ g hg v hv
      omega
theorem came_set {P : List Gen} {x y : Gen} (h : y.uri = x.uri) (n : Nat) (u : List UInt8) : cameOf (P ++ [y]) n u = cameOf (P ++ [x]) n u := by
  unfold cameOf
  have : (P ++ [y]).map (·.uri) = (P ++ [x]).map (·.uri) := by simp [h]
  rw [List.map_take, List.map_take, this]
theorem CI.hold {P : List Gen} {x y : Gen} (h : CI (P ++ [x])) (hd : y.docs = x.docs) (hu : y.uri = x.uri) : CI (P ++ [y]) := fun n g hg u hv => by
  rw [came_set hu]
  by_cases hn : n < P.length
  · rw [List.getElem?_append_left hn] at hg
    exact h n g (by rw [List.getElem?_append_left hn]; exact hg) u hv
  · have hn2 : n = P.length := by
      have := (List.getElem?_eq_some_iff.1 hg).1
      simp at this
      omega
    subst hn2
    have : g = y := by simpa using hg.symm
    subst this
    rw [hd] at hv
    exact h P.length x (by simp) u hv
/-- what is done behind a held generation, seen by its URIs -/
structure Tch (P : List Gen) (x : Gen) (A : List Gen) : Prop where
  no : ∀ u, u ∉ A.map (·.uri) → (∀ g, (P ++ x :: A)[P.length + A.length]? = some g → getD? g.docs u = getD? x.docs u) ∧ cameOf (P ++ x :: A) (P.length + A.length) u = cameOf (P ++ [x]) P.length u
  yes : ∀ u, u ∈ A.map (·.uri) → P.length < cameOf (P ++ x :: A) (P.length + A.length) u
theorem Tch.nil (P : List Gen) (x : Gen) : Tch P x [] :=
  ⟨fun u _ => ⟨fun g hg => by have : g = x := by simpa using hg.symm
                              rw [this], rfl⟩, fun u hu => by cases hu⟩
theorem Tch.snoc {P A : List Gen} {x g : Gen} (h : Tch P x A) (hg : (P ++ x :: A)[P.length + A.length]? = some g) {L : List Doc} {u : List UInt8} (ho : OneU g.docs L u) : Tch P x (A ++ [⟨L, 0, u⟩]) := by
  have hne : P ++ x :: A ≠ [] := by simp
  have hlen : (P ++ x :: A).length = P.length + A.length + 1 := by simp; omega
  have he : P ++ x :: (A ++ [⟨L, 0, u⟩]) = addG (P ++ x :: A) L u := by simp [addG]
  have hl2 : P.length + (A ++ [(⟨L, 0, u⟩ : Gen)]).length = (P ++ x :: A).length := by rw [hlen]; simp; omega
  have hc := fun v => came_add L u v hne
  rw [hlen] at hc
  simp only [Nat.add_sub_cancel] at hc
  refine ⟨fun v hv => ?_, fun v hv => ?_⟩
  · rw [hl2, he, hlen]
    have hv2 : v ∉ A.map (·.uri) ∧ u ≠ v := by
      simp at hv ⊢
      exact ⟨hv.1, fun e => hv.2 e.symm⟩
    obtain ⟨h1, h2⟩ := h.no v hv2.1
    refine ⟨fun y hy => ?_, ?_⟩
    · have : y = ⟨L, 0, u⟩ := by
        unfold addG at hy
        rw [← hlen] at hy
        simp at hy
        exact hy.symm
      rw [this]
      simp only
      rw [ho.same v (fun e => hv2.2 e.symm)]
      exact h1 g hg
    · rw [hc, if_neg hv2.2]
      exact h2
  · rw [hl2, he, hlen, hc]
    by_cases e : u = v
    · rw [if_pos e]; omega
    · rw [if_neg e]
      refine h.yes v ?_
      simp at hv ⊢
      rcases hv with hv | hv
      · exact hv
      · exact absurd hv.symm e
end Go.Proofs.Dc
