/- The laws' helpers: cut, blank, awake. -/
import Derived.Test.YtaiaiiepbpbmmaaGreatDoorJ8
import Derived.Laws.OwnMore
namespace Go.Proofs.Jt
open Go.RowKit Go.Proofs Go.Lib Go.Proofs.Utf

theorem tokCells_length (l : List Tok) : (tokCells l).length = l.length * 4 := by
  induction l with
  | nil => rfl
  | cons j t ih =>
    show (tokCell j ++ tokCells t).length = _
    rw [List.length_append, ih]
    simp [tokCell]; omega
theorem tokCells_at {l : List Tok} {k : Nat} {j : Tok} (h : l[k]? = some j) (f : Nat) (hf : f < 4) : (tokCells l)[k * 4 + f]? = (tokCell j)[f]? := by
  induction l generalizing k with
  | nil => simp at h
  | cons i t ih =>
    show (tokCell i ++ tokCells t)[k * 4 + f]? = _
    cases k with
    | zero =>
      simp at h
      subst h
      rw [List.getElem?_append_left (by simp [tokCell]; omega)]
      simp
    | succ k =>
      simp at h
      rw [List.getElem?_append_right (by simp [tokCell]; omega)]
      rw [show (k + 1) * 4 + f - (tokCell i).length = k * 4 + f by simp [tokCell]; omega]
      exact ih h
/-- a list of words in memory, when there is one -/
theorem toks_at {w : World} {B e : Nat} {v : Value} {l : List Tok} (h : w.ownsRow B e 4 v l.length (tokCells l)) (hp : 0 < l.length) :
    ∃ g cap, v = .slice (some ⟨g, 0, none⟩) l.length cap ∧ l.length ≤ cap ∧ ∀ (k : Nat) (j : Tok), l[k]? = some j →
      w.cell? ⟨g, k * 4, none⟩ = some (.int .i64 j.kind) ∧ w.cell? ⟨g, k * 4 + 1, none⟩ = some (.string ⟨j.text.toArray⟩) ∧ w.cell? ⟨g, k * 4 + 2, none⟩ = some (.int .i64 j.fr) ∧ w.cell? ⟨g, k * 4 + 3, none⟩ = some (.int .i64 j.to_) ∧ g < w.heap.size := by
  rcases h.2 with ⟨_, h2⟩ | ⟨g, cap, cur, h1, h2, h3, h4, h5, h6, h7⟩
  · omega
  · subst h1
    refine ⟨g, cap, rfl, h4, fun k j hj => ?_⟩
    have hk := (List.getElem?_eq_some_iff.1 hj).1
    have e (f : Nat) (hf : f < 4) := (h.cellAt (k * 4 + f) (by omega)).trans (tokCells_at hj f hf)
    exact ⟨e 0 (by omega), e 1 (by omega), e 2 (by omega), e 3 (by omega), (Array.getElem?_eq_some_iff.1 h3).1⟩
def awakeB : ByteArray := ⟨#[123, 34, 97, 34, 58, 45, 49, 46, 53, 101, 51, 125]⟩
def awakeT : List Tok := [⟨1, [123], 0, 1⟩, ⟨4, [97], 1, 4⟩, ⟨1, [58], 4, 5⟩, ⟨3, [45, 49, 46, 53, 101, 51], 5, 11⟩, ⟨1, [125], 11, 12⟩]
theorem awake_tt : tt awakeB.data.toList 0 [] = (awakeT, 0, 0) := by decide +kernel
theorem awake_valid : validD awakeB.data.toList = true := by decide +kernel
def Blk (l : List UInt8) (p q : Nat) : Prop := ∀ j, p ≤ j → j < q → ∃ c, l[j]? = some c ∧ isBlankB c = true
theorem blank_cases : ∀ c : UInt8, isBlankB c = true → c = 32 ∨ c = 9 ∨ c = 10 ∨ c = 13 := forall_u8 (by decide +kernel)
def Tiles (l : List UInt8) : Nat → List Tok → Prop
  | p, [] => Blk l p l.length
  | p, t :: ts => p ≤ t.fr ∧ t.fr < t.to_ ∧ t.to_ ≤ l.length ∧ Blk l p t.fr ∧ (t.kind ≠ 4 → t.text = (l.drop t.fr).take (t.to_ - t.fr)) ∧ Tiles l t.to_ ts
theorem next_text (l : List UInt8) (k : Nat) (x : List UInt8) (m : Nat) (h : nextL l = some (k, x, m)) : k ≠ 4 → x = l.take m := by
  intro hk
  cases l with
  | nil => cases h
  | cons c t =>
    rw [nextL_cons] at h
    split at h
    · cases h; rfl
    · split at h
      · obtain ⟨q, _, e⟩ := Option.map_eq_some_iff.1 h
        cases e
        exact absurd rfl hk
      · split at h
        · cases h; rfl
        · split at h
          · cases h; rfl
          · cases h
theorem tt_tiles (l : List UInt8) : ∀ (n at_ p : Nat) (acc : List Tok), l.length - at_ ≤ n → at_ ≤ l.length → p ≤ at_ → Blk l p at_ →
    (((tt (l.drop at_) at_ acc).2.2 = 0 ∧ (tt (l.drop at_) at_ acc).2.1 = 0 ∧ ∃ new, (tt (l.drop at_) at_ acc).1 = acc ++ new ∧ Tiles l p new) ∨
      ((tt (l.drop at_) at_ acc).2.2 = 4 ∧ (tt (l.drop at_) at_ acc).1 = [] ∧ (tt (l.drop at_) at_ acc).2.1 < l.length)) := by
  intro n
  induction n with
  | zero =>
    intro at_ p acc hn ha hp hb
    have : at_ = l.length := by omega
    subst this
    rw [List.drop_length, tt_nil]
    exact .inl ⟨rfl, rfl, [], by simp, hb⟩
  | succ n ih =>
    intro at_ p acc hn ha hp hb
    by_cases hlt : at_ < l.length
    · have e := List.drop_eq_getElem_cons hlt
      obtain ⟨c, hc⟩ : ∃ c, l[at_] = c := ⟨_, rfl⟩
      rw [hc] at e
      have hg : l[at_]? = some c := by rw [List.getElem?_eq_getElem hlt, hc]
      cases hbk : isBlankB c with
      | true =>
        rw [e, tt_blank c _ _ _ hbk]
        exact ih (at_ + 1) p acc (by omega) (by omega) (by omega) (fun j h1 h2 => by
          by_cases hj : j < at_
          · exact hb j h1 hj
          · obtain rfl : j = at_ := by omega
            exact ⟨c, hg, hbk⟩)
      | false =>
        cases hx : nextL (l.drop at_) with
        | none =>
          rw [e] at hx ⊢
          rw [tt_none c _ _ _ hbk hx]
          exact .inr ⟨rfl, rfl, hlt⟩
        | some r =>
          obtain ⟨k, x, m⟩ := r
          have hm := nextL_le _ _ hx
          have ht := next_text _ k x m hx
          rw [List.length_drop] at hm
          simp only at hm
          rw [e] at hx ⊢
          rw [tt_some c _ _ _ hbk hx, ← e, List.drop_drop]
          rcases ih (at_ + m) (at_ + m) (acc ++ [⟨k, x, at_, at_ + m⟩]) (by omega) (by omega) (by omega) (fun j h1 h2 => by omega) with ⟨h1, h2, new, h3, h4⟩ | h
          · refine .inl ⟨h1, h2, ⟨k, x, at_, at_ + m⟩ :: new, by rw [h3]; simp, hp, by show at_ < at_ + m; omega, by show at_ + m ≤ l.length; omega, hb, fun hk => ?_, h4⟩
            show x = (l.drop at_).take (at_ + m - at_)
            rw [show at_ + m - at_ = m by omega]
            exact ht hk
          · exact .inr h
    · have : at_ = l.length := by omega
      subst this
      rw [List.drop_length, tt_nil]
      exact .inl ⟨rfl, rfl, [], by simp, hb⟩
end Go.Proofs.Jt
