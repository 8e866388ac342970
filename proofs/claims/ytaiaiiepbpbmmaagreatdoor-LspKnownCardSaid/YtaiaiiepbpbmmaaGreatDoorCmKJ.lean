/- Merged texts: J9, L1. -/
import Derived.Test.YtaiaiiepbpbmmaaGreatDoorCmJ8
import Derived.Laws.OwnMore
/- J9: The laws' helpers: cut, blank, awake. -/
namespace Go.Proofs.Jt
open Go.RowKit Go.Proofs Go.Lib Go.Proofs.Utf

theorem tokCells_at {l : List Tok} {k : Nat} {j : Tok} (h : l[k]? = some j) (f : Nat) (hf : f < 4) : (tokCells l)[k * 4 + f]? = (tokCell j)[f]? := by
 induction l generalizing k with
 | nil => simp at h
 | cons i t ih =>
  show (tokCell i ++ tokCells t)[k * 4 + f]? = _
  cases k with
  | zero =>
   simp at h
   subst h
   rw [List.getElem?_append_left (by simp [tokCell]; omega)]
   simp
  | succ k =>
   simp at h
   rw [List.getElem?_append_right (by simp [tokCell]; omega)]
   rw [show (k + 1) * 4 + f - (tokCell i).length = k * 4 + f by simp [tokCell]; omega]
   exact ih h
/-- a list of words in memory, when there is one -/
theorem toks_at {w : World} {B e : Nat} {v : Value} {l : List Tok} (h : w.ownsRow B e 4 v l.length (tokCells l)) (hp : 0 < l.length) :
 ∃ g cap, v = .slice (some ⟨g, 0, none⟩) l.length cap ∧ l.length ≤ cap ∧ ∀ (k : Nat) (j : Tok), l[k]? = some j →
  w.cell? ⟨g, k * 4, none⟩ = some (.int .i64 j.kind) ∧ w.cell? ⟨g, k * 4 + 1, none⟩ = some (.string ⟨j.text.toArray⟩) ∧ w.cell? ⟨g, k * 4 + 2, none⟩ = some (.int .i64 j.fr) ∧ w.cell? ⟨g, k * 4 + 3, none⟩ = some (.int .i64 j.to_) ∧ g < w.heap.size := by
 rcases h.2 with ⟨_, h2⟩ | ⟨g, cap, cur, h1, h2, h3, h4, h5, h6, h7⟩
 · omega
 · subst h1
   refine ⟨g, cap, rfl, h4, fun k j hj => ?_⟩
   have hk := (List.getElem?_eq_some_iff.1 hj).1
   have e (f : Nat) (hf : f < 4) := (h.cellAt (k * 4 + f) (by omega)).trans (tokCells_at hj f hf)
   exact ⟨e 0 (by omega), e 1 (by omega), e 2 (by omega), e 3 (by omega), (ltS h3)⟩
def Blk (l : List UInt8) (p q : Nat) : Prop := ∀ j, p ≤ j → j < q → ∃ c, l[j]? = some c ∧ isBlankB c = true
def Tiles (l : List UInt8) : Nat → List Tok → Prop
 | p, [] => Blk l p l.length
 | p, t :: ts => p ≤ t.fr ∧ t.fr < t.to_ ∧ t.to_ ≤ l.length ∧ Blk l p t.fr ∧ (t.kind ≠ 4 → t.text = (l.drop t.fr).take (t.to_ - t.fr)) ∧ Tiles l t.to_ ts
theorem next_text (l : List UInt8) (k : Nat) (x : List UInt8) (m : Nat) (h : nextL l = some (k, x, m)) : k ≠ 4 → x = l.take m := by
 intro hk
 cases l with
 | nil => cases h
 | cons c t =>
  rw [nextL_cons] at h
  split at h
  · cases h; rfl
  · split at h
    · obtain ⟨q, _, e⟩ := Option.map_eq_some_iff.1 h
      cases e
      exact absurd rfl hk
    · split at h
      · cases h; rfl
      · split at h
        · cases h; rfl
        · cases h
end Go.Proofs.Jt
/- L1: JtextTiles: the walk. -/
namespace Go.Proofs.Jt
open Go.RowKit Go.Proofs Go.Lib Go.Proofs.Utf

/-- what Tokens answers, as one contract -/
theorem tokens_any (s : ByteArray) (w : World) (hT : Tabs w) (hs : s.size ≤ 16777216) :
 Calls Tryz.prog 110 #[.string s] w fun e w' => ∃ v, e = .returned (.tuple #[v, .int .i64 ((toksL s.data.toList).2.1 : Nat), .int .i64 ((toksL s.data.toList).2.2 : Nat)]) ∧ w'.ownsRow w.heap.size 222 4 v (toksL s.data.toList).1.length (tokCells (toksL s.data.toList).1) ∧ Below w.heap.size w w' := by
 unfold toksL
 cases hv : validD s.data.toList with
 | true => exact tokens_walk s w hT hs hv _ rfl
 | false =>
  refine (tokens_broken s w hT hs hv).mono ?_
  rintro e w' ⟨rfl, hb⟩
  exact ⟨_, rfl, World.ownsRow_nil _ _ _ _, hb⟩
theorem Tiles.at_ {l : List UInt8} : ∀ {ts : List Tok} {p : Nat} (k : Nat) {t : Tok}, Tiles l p ts → ts[k]? = some t → ∀ q, q = (if k = 0 then p else (ts.getD (k - 1) ⟨0, [], 0, 0⟩).to_) →
 q ≤ t.fr ∧ t.fr < t.to_ ∧ t.to_ ≤ l.length ∧ Blk l q t.fr ∧ (t.kind ≠ 4 → t.text = (l.drop t.fr).take (t.to_ - t.fr))
 | [], _, k, t, _, h, _, _ => by simp at h
 | u :: ts, p, 0, t, h, hk, q, hq => by
  simp at hk hq
  subst hk hq
  exact ⟨h.1, h.2.1, h.2.2.1, h.2.2.2.1, h.2.2.2.2.1⟩
 | u :: ts, p, k + 1, t, h, hk, q, hq => by
  simp at hk hq
  refine Tiles.at_ k (p := u.to_) h.2.2.2.2.2 hk q ?_
  rw [hq]
  cases k with
  | zero => simp
  | succ k => simp
end Go.Proofs.Jt
