/- The laws' helpers: cut, blank, awake. -/
import Derived.Test.YtaiaiiepbpbmmaaGreatDoorJ8
import Derived.Laws.OwnMore
namespace Go.Proofs.Jt
open Go.RowKit Go.Proofs Go.Lib Go.Proofs.Utf

theorem tokCells_at {l : List Tok} {k : Nat} {j : Tok} (h : l[k]? = some j) (f : Nat) (hf : f < 4) : (tokCells l)[k * 4 + f]? = (tokCell j)[f]? := by
 induction l generalizing k with
 | nil => simp at h
 | cons i t ih =>
  show (tokCell i ++ tokCells t)[k * 4 + f]? = _
  cases k with
  | zero =>
   simp at h
   subst h
   rw [List.getElem?_append_left (by simp [tokCell]; omega)]
   simp
  | succ k =>
   simp at h
   rw [List.getElem?_append_right (by simp [tokCell]; omega)]
   rw [show (k + 1) * 4 + f - (tokCell i).length = k * 4 + f by simp [tokCell]; omega]
   exact ih h
/-- a list of words in memory, when there is one -/
theorem toks_at {w : World} {B e : Nat} {v : Value} {l : List Tok} (h : w.ownsRow B e 4 v l.length (tokCells l)) (hp : 0 < l.length) :
 ∃ g cap, v = .slice (some ⟨g, 0, none⟩) l.length cap ∧ l.length ≤ cap ∧ ∀ (k : Nat) (j : Tok), l[k]? = some j →
  w.cell? ⟨g, k * 4, none⟩ = some (.int .i64 j.kind) ∧ w.cell? ⟨g, k * 4 + 1, none⟩ = some (.string ⟨j.text.toArray⟩) ∧ w.cell? ⟨g, k * 4 + 2, none⟩ = some (.int .i64 j.fr) ∧ w.cell? ⟨g, k * 4 + 3, none⟩ = some (.int .i64 j.to_) ∧ g < w.heap.size := by
 rcases h.2 with ⟨_, h2⟩ | ⟨g, cap, cur, h1, h2, h3, h4, h5, h6, h7⟩
 · omega
 · subst h1
   refine ⟨g, cap, rfl, h4, fun k j hj => ?_⟩
   have hk := (List.getElem?_eq_some_iff.1 hj).1
   have e (f : Nat) (hf : f < 4) := (h.cellAt (k * 4 + f) (by omega)).trans (tokCells_at hj f hf)
   exact ⟨e 0 (by omega), e 1 (by omega), e 2 (by omega), e 3 (by omega), (ltS h3)⟩
def Blk (l : List UInt8) (p q : Nat) : Prop := ∀ j, p ≤ j → j < q → ∃ c, l[j]? = some c ∧ isBlankB c = true
theorem blank_cases : ∀ c : UInt8, isBlankB c = true → c = 32 ∨ c = 9 ∨ c = 10 ∨ c = 13 := forall_u8 (by decide +kernel)
def Tiles (l : List UInt8) : Nat → List Tok → Prop
 | p, [] => Blk l p l.length
 | p, t :: ts => p ≤ t.fr ∧ t.fr < t.to_ ∧ t.to_ ≤ l.length ∧ Blk l p t.fr ∧ (t.kind ≠ 4 → t.text = (l.drop t.fr).take (t.to_ - t.fr)) ∧ Tiles l t.to_ ts
theorem next_text (l : List UInt8) (k : Nat) (x : List UInt8) (m : Nat) (h : nextL l = some (k, x, m)) : k ≠ 4 → x = l.take m := by
 intro hk
 cases l with
 | nil => cases h
 | cons c t =>
  rw [nextL_cons] at h
  split at h
  · cases h; rfl
  · split at h
    · obtain ⟨q, _, e⟩ := Option.map_eq_some_iff.1 h
      cases e
      exact absurd rfl hk
    · split at h
      · cases h; rfl
      · split at h
        · cases h; rfl
        · cases h
end Go.Proofs.Jt
