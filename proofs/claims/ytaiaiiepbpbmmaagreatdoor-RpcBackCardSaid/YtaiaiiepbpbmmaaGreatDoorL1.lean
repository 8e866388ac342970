/- JtextTiles: the walk. -/
import Derived.Test.YtaiaiiepbpbmmaaGreatDoorJ9
namespace Go.Proofs.Jt
open Go.RowKit Go.Proofs Go.Lib Go.Proofs.Utf

theorem cut_list2 (s : ByteArray) (n : Nat) : (s.extract 0 n).size ≤ n ∧ (s.extract 0 n).size ≤ s.size := by rw [ByteArray.size_extract]; omega
/-- what Tokens answers, as one contract -/
theorem tokens_any (s : ByteArray) (w : World) (hT : Tabs w) (hs : s.size ≤ 16777216) :
    Calls Tryz.prog 110 #[.string s] w fun e w' => ∃ v, e = .returned (.tuple #[v, .int .i64 ((toksL s.data.toList).2.1 : Nat), .int .i64 ((toksL s.data.toList).2.2 : Nat)]) ∧ w'.ownsRow w.heap.size 222 4 v (toksL s.data.toList).1.length (tokCells (toksL s.data.toList).1) ∧ Below w.heap.size w w' := by
  unfold toksL
  cases hv : validD s.data.toList with
  | true => exact tokens_walk s w hT hs hv _ rfl
  | false =>
    refine (tokens_broken s w hT hs hv).mono ?_
    rintro e w' ⟨rfl, hb⟩
    exact ⟨_, rfl, World.ownsRow_nil _ _ _ _, hb⟩
theorem br_lt : ∀ (k : Nat) (l : List UInt8) (at_ : Nat), l.length ≤ k → validD l = false → br l at_ < at_ + l.length
  | _, [], _, _, h => by cases h
  | 0, c :: t, _, hk, _ => by simp at hk
  | k + 1, c :: t, at_, hk, h => by
    rw [br_step _ _ (by simp)]
    rw [validD_step _ (by simp)] at h
    have hw := headW_pos (c :: t)
    split
    · rename_i hp
      unfold isPt at hp
      rw [if_neg (of_decide_eq_true hp)] at h
      simp only [List.length_cons] at hk
      have := br_lt k ((c :: t).drop (headW (c :: t))) (at_ + headW (c :: t)) (by rw [List.length_drop, List.length_cons]; omega) h
      rw [List.length_drop, List.length_cons] at this
      simp only [List.length_cons]
      have h2 := headW_le (c :: t) (by simp)
      simp only [List.length_cons] at h2
      omega
    · simp
theorem toks_tiles (l : List UInt8) : ((toksL l).2.2 = 0 ∧ Tiles l 0 (toksL l).1) ∨ ((toksL l).2.2 ≠ 0 ∧ (toksL l).1 = [] ∧ (toksL l).2.1 < l.length) := by
  unfold toksL
  cases hv : validD l with
  | true =>
    rw [if_pos rfl]
    have := tt_tiles l l.length 0 0 [] (by omega) (Nat.zero_le _) (Nat.le_refl _) (fun j h1 h2 => by omega)
    rw [List.drop_zero] at this
    unfold tt at this
    rcases this with ⟨h1, _, new, h3, h4⟩ | ⟨h1, h2, h3⟩
    · exact .inl ⟨h1, by rw [h3]; exact h4⟩
    · exact .inr ⟨by rw [h1]; decide, h2, h3⟩
  | false =>
    rw [if_neg (by decide)]
    have := br_lt l.length l 0 (Nat.le_refl _) hv
    exact .inr ⟨(by decide : (8 : Nat) ≠ 0), rfl, by unfold br at this; simpa using this⟩
theorem Tiles.at_ {l : List UInt8} : ∀ {ts : List Tok} {p : Nat} (k : Nat) {t : Tok}, Tiles l p ts → ts[k]? = some t → ∀ q, q = (if k = 0 then p else (ts.getD (k - 1) ⟨0, [], 0, 0⟩).to_) →
    q ≤ t.fr ∧ t.fr < t.to_ ∧ t.to_ ≤ l.length ∧ Blk l q t.fr ∧ (t.kind ≠ 4 → t.text = (l.drop t.fr).take (t.to_ - t.fr))
  | [], _, k, t, _, h, _, _ => by simp at h
  | u :: ts, p, 0, t, h, hk, q, hq => by
    simp at hk hq
    subst hk hq
    exact ⟨h.1, h.2.1, h.2.2.1, h.2.2.2.1, h.2.2.2.2.1⟩
  | u :: ts, p, k + 1, t, h, hk, q, hq => by
    simp at hk hq
    refine Tiles.at_ k (p := u.to_) h.2.2.2.2.2 hk q ?_
    rw [hq]
    cases k with
    | zero => simp
    | succ k => simp
theorem toks_few {w : World} {B e : Nat} {v : Value} {l : List Tok} (h : w.ownsRow B e 4 v l.length (tokCells l)) : (l.length : Int) ≤ 9223372036854775807 := by
  rcases h.2 with ⟨_, h2⟩ | ⟨g, cap, cur, h1, h2, h3, h4, h5, h6⟩
  · omega
  · unfold maxLen at h5; omega
theorem Tiles.drop1 {l : List UInt8} {p : Nat} {t : Tok} {ts : List Tok} (h : Tiles l p (t :: ts)) : Tiles l t.to_ ts := h.2.2.2.2.2
theorem cut_text (s : ByteArray) (a b : Nat) : (⟨((s.data.toList.drop a).take (b - a)).toArray⟩ : ByteArray) = s.extract a b := by
  apply ByteArray.ext
  apply Array.toList_inj.1
  rw [Lib.extract_data]
theorem extract_end (s : ByteArray) (a : Nat) : s.extract a s.size = s.extract a s.data.toList.length := by rw [← Lib.size_eq]
end Go.Proofs.Jt
