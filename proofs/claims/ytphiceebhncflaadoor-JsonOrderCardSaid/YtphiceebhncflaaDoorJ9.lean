/- The laws' helpers: cut, blank, awake. -/
import Derived.Test.YtphiceebhncflaaDoorJ8
import Derived.Laws.OwnMore
namespace Go.Proofs.Jt
open Go.RowKit Go.Proofs Go.Lib Go.Proofs.Utf

theorem tokCells_length (l : List Tok) : (tokCells l).length = l.length * 4 := by
  induction l with
  | nil => rfl
  | cons j t ih =>
    show (tokCell j ++ tokCells t).length = _
    rw [List.length_append, ih]
    simp [tokCell]; omega
theorem tokCells_at {l : List Tok} {k : Nat} {j : Tok} (h : l[k]? = some j) (f : Nat) (hf : f < 4) : (tokCells l)[k * 4 + f]? = (tokCell j)[f]? := by
  induction l generalizing k with
  | nil => simp at h
  | cons i t ih =>
    show (tokCell i ++ tokCells t)[k * 4 + f]? = _
    cases k with
    | zero =>
      simp at h
      subst h
      rw [List.getElem?_append_left (by simp [tokCell]; omega)]
      simp
    | succ k =>
      simp at h
      rw [List.getElem?_append_right (by simp [tokCell]; omega)]
      rw [show (k + 1) * 4 + f - (tokCell i).length = k * 4 + f by simp [tokCell]; omega]
      exact ih h
/-- a list of words in memory, when there is one -/
theorem toks_at {w : World} {B e : Nat} {v : Value} {l : List Tok} (h : w.ownsRow B e 4 v l.length (tokCells l)) (hp : 0 < l.length) :
    ∃ g cap, v = .slice (some ⟨g, 0, none⟩) l.length cap ∧ l.length ≤ cap ∧ ∀ (k : Nat) (j : Tok), l[k]? = some j →
      w.cell? ⟨g, k * 4, none⟩ = some (.int .i64 j.kind) ∧ w.cell? ⟨g, k * 4 + 1, none⟩ = some (.string ⟨j.text.toArray⟩) ∧ w.cell? ⟨g, k * 4 + 2, none⟩ = some (.int .i64 j.fr) ∧ w.cell? ⟨g, k * 4 + 3, none⟩ = some (.int .i64 j.to_) ∧ g < w.heap.size := by
  rcases h.2 with ⟨_, h2⟩ | ⟨g, cap, cur, h1, h2, h3, h4, h5, h6, h7⟩
  · omega
  · subst h1
    refine ⟨g, cap, rfl, h4, fun k j hj => ?_⟩
    have hk := (List.getElem?_eq_some_iff.1 hj).1
    have e (f : Nat) (hf : f < 4) := (h.cellAt (k * 4 + f) (by omega)).trans (tokCells_at hj f hf)
    exact ⟨e 0 (by omega), e 1 (by omega), e 2 (by omega), e 3 (by omega), (Array.getElem?_eq_some_iff.1 h3).1⟩
def awakeB : ByteArray := ⟨#[123, 34, 97, 34, 58, 45, 49, 46, 53, 101, 51, 125]⟩
def awakeT : List Tok := [⟨1, [123], 0, 1⟩, ⟨4, [97], 1, 4⟩, ⟨1, [58], 4, 5⟩, ⟨3, [45, 49, 46, 53, 101, 51], 5, 11⟩, ⟨1, [125], 11, 12⟩]
theorem awake_tt : tt awakeB.data.toList 0 [] = (awakeT, 0, 0) := by decide +kernel
theorem awake_valid : validD awakeB.data.toList = true := by decide +kernel
set_option maxRecDepth 100000 in
set_option maxHeartbeats 1000000 in
theorem awake_any (w : World) (hT : Tabs w) : Calls Tryd.prog 16 #[] w fun e w' => e = .returned (.bool true) ∧ Below w.heap.size w w' := by
  have hc := tokens_walk awakeB w hT (by decide) awake_valid _ awake_tt
  unfold awakeB at hc
  have e5 : awakeT.length = 5 := rfl
  have t1 : awakeT[1]? = some ⟨4, [97], 1, 4⟩ := rfl
  have t3 : awakeT[3]? = some ⟨3, [45, 49, 46, 53, 101, 51], 5, 11⟩ := rfl
  have t4 : awakeT[4]? = some ⟨1, [125], 11, 12⟩ := rfl
  generalize awakeT = T at *
  go_enter Tryd.func16, Tryd.ntmps16
  go_wp2_with (first
    | (go_at_call 14; refine hc.mono ?_; rintro e w1 ⟨v, rfl, ho, hb⟩
       obtain ⟨g, cap, rfl, hcap, hcell⟩ := toks_at ho (show 0 < T.length by omega)
       obtain ⟨a0, a1, a2, a3, _⟩ := hcell 1 _ t1
       obtain ⟨b0, b1, b2, b3, _⟩ := hcell 3 _ t3
       obtain ⟨c0, c1, c2, c3, _⟩ := hcell 4 _ t4
       clear hcell
       simp only [e5] at hcap))
  go_ret
  exact ⟨rfl, hb⟩
set_option maxRecDepth 100000 in
theorem cut_any (s : ByteArray) (w : World) (hs : s.size ≤ 9223372036854775807) : Calls Tryd.prog 13 #[.string s] w fun e w' => e = .returned (.string (s.extract 0 (min s.size 2000))) ∧ w = w' := by
  go_enter Tryd.func13, Tryd.ntmps13
  go_wp2
  go_ret
  refine ⟨?_, rfl⟩
  have e : (min (s.size : Int) 2000).toNat = min s.size 2000 := by omega
  rw [← e]
  rfl
/-- blanks alone stand in a piece -/
def Blk (l : List UInt8) (p q : Nat) : Prop := ∀ j, p ≤ j → j < q → ∃ c, l[j]? = some c ∧ isBlankB c = true
theorem blank_cases : ∀ c : UInt8, isBlankB c = true → c = 32 ∨ c = 9 ∨ c = 10 ∨ c = 13 := forall_u8 (by decide +kernel)
set_option maxRecDepth 100000 in
set_option maxHeartbeats 1000000 in
theorem blank_any (X : ByteArray) (w : World) (hs : X.size ≤ 16777216) (hb : ∀ j, (h : j < X.size) → isBlankB X[j] = true) : Calls Tryd.prog 17 #[.string X] w fun e w' => e = .returned (.bool true) ∧ w' = w := by
  go_enter Tryd.func17, Tryd.ntmps17
  go_wp2
  go_loopw [3] (fun i wr => ∃ k : Nat, i = .int .i64 k ∧ k ≤ X.size ∧ wr = w) (fun i _ => X.size - (RowKit.intOf i).toNat)
  case atStart => exact ⟨0, rfl, Nat.zero_le _, rfl⟩
  case round =>
    obtain ⟨k, rfl, hk, rfl⟩ := hrel
    by_cases hkn : (k : Int) < (X.size : Int)
    · have hlt : k < X.size := by omega
      have hc := blank_cases _ (hb k hlt)
      by_cases h1 : X[k] = 32
      · have t1 : ((X[k].toNat : Int) != 32) = false := by rw [h1]; rfl
        clear hb hc h1
        go_wp2
        exact ⟨⟨k + 1, by go_num, by omega, trivial⟩, by simp [RowKit.intOf]; omega⟩
      · have t1 : ((X[k].toNat : Int) != 32) = true := by simp only [bne, show ((X[k].toNat : Int) == 32) = false from byte_not h1, Bool.not_false]
        by_cases h2 : X[k] = 9
        · have t2 : ((X[k].toNat : Int) != 9) = false := by rw [h2]; rfl
          clear hb hc h1 h2
          go_wp2
          exact ⟨⟨k + 1, by go_num, by omega, trivial⟩, by simp [RowKit.intOf]; omega⟩
        · have t2 : ((X[k].toNat : Int) != 9) = true := by simp only [bne, show ((X[k].toNat : Int) == 9) = false from byte_not h2, Bool.not_false]
          by_cases h3 : X[k] = 10
          · have t3 : ((X[k].toNat : Int) != 10) = false := by rw [h3]; rfl
            clear hb hc h1 h2 h3
            go_wp2
            exact ⟨⟨k + 1, by go_num, by omega, trivial⟩, by simp [RowKit.intOf]; omega⟩
          · have t3 : ((X[k].toNat : Int) != 10) = true := by simp only [bne, show ((X[k].toNat : Int) == 10) = false from byte_not h3, Bool.not_false]
            have h4 : X[k] = 13 := by
              rcases hc with h | h | h | h
              · exact absurd h h1
              · exact absurd h h2
              · exact absurd h h3
              · exact h
            have t4 : ((X[k].toNat : Int) != 13) = false := by rw [h4]; rfl
            clear hb hc h1 h2 h3 h4
            go_wp2
            exact ⟨⟨k + 1, by go_num, by omega, trivial⟩, by simp [RowKit.intOf]; omega⟩
    · go_wp2
      go_ret
      exact ⟨rfl, rfl⟩
theorem blank_cut (s : ByteArray) (p q : Nat) (w : World) (hs : s.size ≤ 16777216) (hq : q ≤ s.size) (hb : Blk s.data.toList p q) : Calls Tryd.prog 17 #[.string (s.extract p q)] w fun e w' => e = .returned (.bool true) ∧ w' = w := by
  refine blank_any _ w (by rw [ByteArray.size_extract]; omega) (fun j hj => ?_)
  have hsz : (s.extract p q).size = q - p := by rw [ByteArray.size_extract]; omega
  have h1 := list_at (s.extract p q) j hj
  rw [cut_list', List.getElem?_take_of_lt (by omega), List.getElem?_drop] at h1
  obtain ⟨c, hc, hcb⟩ := hb (p + j) (by omega) (by omega)
  rw [hc] at h1
  rw [← Option.some.inj h1]
  exact hcb
/-- words in order, blanks alone between them -/
def Tiles (l : List UInt8) : Nat → List Tok → Prop
  | p, [] => Blk l p l.length
  | p, t :: ts => p ≤ t.fr ∧ t.fr < t.to_ ∧ t.to_ ≤ l.length ∧ Blk l p t.fr ∧ (t.kind ≠ 4 → t.text = (l.drop t.fr).take (t.to_ - t.fr)) ∧ Tiles l t.to_ ts
theorem next_text (l : List UInt8) (k : Nat) (x : List UInt8) (m : Nat) (h : nextL l = some (k, x, m)) : k ≠ 4 → x = l.take m := by
  intro hk
  cases l with
  | nil => cases h
  | cons c t =>
    rw [nextL_cons] at h
    split at h
    · cases h; rfl
    · split at h
      · obtain ⟨q, _, e⟩ := Option.map_eq_some_iff.1 h
        cases e
        exact absurd rfl hk
      · split at h
        · cases h; rfl
        · split at h
          · cases h; rfl
          · cases h
theorem tt_tiles (l : List UInt8) : ∀ (n at_ p : Nat) (acc : List Tok), l.length - at_ ≤ n → at_ ≤ l.length → p ≤ at_ → Blk l p at_ →
    (((tt (l.drop at_) at_ acc).2.2 = 0 ∧ (tt (l.drop at_) at_ acc).2.1 = 0 ∧ ∃ new, (tt (l.drop at_) at_ acc).1 = acc ++ new ∧ Tiles l p new) ∨
      ((tt (l.drop at_) at_ acc).2.2 = 4 ∧ (tt (l.drop at_) at_ acc).1 = [] ∧ (tt (l.drop at_) at_ acc).2.1 < l.length)) := by
  intro n
  induction n with
  | zero =>
    intro at_ p acc hn ha hp hb
    have : at_ = l.length := by omega
    subst this
    rw [List.drop_length, tt_nil]
    exact .inl ⟨rfl, rfl, [], by simp, hb⟩
  | succ n ih =>
    intro at_ p acc hn ha hp hb
    by_cases hlt : at_ < l.length
    · have e := List.drop_eq_getElem_cons hlt
      obtain ⟨c, hc⟩ : ∃ c, l[at_] = c := ⟨_, rfl⟩
      rw [hc] at e
      have hg : l[at_]? = some c := by rw [List.getElem?_eq_getElem hlt, hc]
      cases hbk : isBlankB c with
      | true =>
        rw [e, tt_blank c _ _ _ hbk]
        exact ih (at_ + 1) p acc (by omega) (by omega) (by omega) (fun j h1 h2 => by
          by_cases hj : j < at_
          · exact hb j h1 hj
          · obtain rfl : j = at_ := by omega
            exact ⟨c, hg, hbk⟩)
      | false =>
        cases hx : nextL (l.drop at_) with
        | none =>
          rw [e] at hx ⊢
          rw [tt_none c _ _ _ hbk hx]
          exact .inr ⟨rfl, rfl, hlt⟩
        | some r =>
          obtain ⟨k, x, m⟩ := r
          have hm := nextL_le _ _ hx
          have ht := next_text _ k x m hx
          rw [List.length_drop] at hm
          simp only at hm
          rw [e] at hx ⊢
          rw [tt_some c _ _ _ hbk hx, ← e, List.drop_drop]
          rcases ih (at_ + m) (at_ + m) (acc ++ [⟨k, x, at_, at_ + m⟩]) (by omega) (by omega) (by omega) (fun j h1 h2 => by omega) with ⟨h1, h2, new, h3, h4⟩ | h
          · refine .inl ⟨h1, h2, ⟨k, x, at_, at_ + m⟩ :: new, by rw [h3]; simp, hp, by show at_ < at_ + m; omega, by show at_ + m ≤ l.length; omega, hb, fun hk => ?_, h4⟩
            show x = (l.drop at_).take (at_ + m - at_)
            rw [show at_ + m - at_ = m by omega]
            exact ht hk
          · exact .inr h
    · have : at_ = l.length := by omega
      subst this
      rw [List.drop_length, tt_nil]
      exact .inl ⟨rfl, rfl, [], by simp, hb⟩
end Go.Proofs.Jt
