/- The walks of emend/utf: Encode, pointAt, Decode, Valid, Units, Byte, UnitsAt. -/
import Derived.Test.YtipbojiialfmeaaDoorW2
import Derived.Laws.RangeString
import Derived.Laws.RangeAny
import Derived.LoopTactic
namespace Go.Proofs.YtipbojiialfmeaaDoor
open Go.RowKit Go.Proofs.Utf Go.Lib

def Tabs (w : World) : Prop := Lib.Utf8Tabs 0 1 w
theorem Tabs.below {w w' : World} (h : Tabs w) (hb : Below w.heap.size w w') : Tabs w' := Utf8Tabs_below h hb

theorem conv_own {w : World} {B : Nat} {v : Value} {n : Nat} {r : Int} (hp : IsPoint r) (h : w.ownsRow B 5 1 v n (runeCells r)) :
    (convert 50 9 v).run Tryd.prog w = .ok (.string ⟨(encodeRune r).toArray⟩) w := by
  have hl : (encodeRune r).length = n := by
    have := congrArg List.length (cells_enc r hp)
    rw [List.length_map, h.1] at this
    omega
  have hn : 0 < n := by
    rcases len_cases r hp with ⟨_, h⟩ | ⟨_, _, h⟩ | ⟨_, h⟩ | ⟨_, h⟩ <;> omega
  obtain ⟨g, cap, hv⟩ : ∃ g cap, v = .slice (some ⟨g, 0, none⟩) n cap := by
    rcases h.2 with ⟨_, h0⟩ | ⟨g, cap, _, hv, _⟩
    · omega
    · exact ⟨g, cap, hv⟩
  subst hv
  rw [← hl]
  refine run_convert_bytes_back (P := Tryd.prog) _ 50 9 5 _ _ _ Tryd.underlying50 Tryd.underlying5 Tryd.underlying9 ?_
  intro j hj
  refine h.cells (g := g) rfl j _ ?_
  rw [← cells_enc r hp]
  simp [hj]

theorem utfEncode_yes (n : Int) (w : World) (hp : IsPoint n) :
    Calls Tryd.prog 11 #[.int .i64 n] w fun e w' => e = .returned (.tuple #[.string ⟨(encodeRune n).toArray⟩, .int .i64 0]) ∧ Below w.heap.size w w' := by
  have hv : Lib.validRune n = true := by
    obtain ⟨h0, h1, h2⟩ := hp
    unfold Lib.validRune
    exact decide_eq_true (by omega)
  obtain ⟨h0, h1, h2⟩ := id hp
  have hA : ∀ w : World, Calls Tryd.prog 34 #[.slice none 0 0, .int .i32 n] w fun e w' => ∃ v, e = .returned v ∧ (convert 50 9 v).run Tryd.prog w' = .ok (.string ⟨(encodeRune n).toArray⟩) w' ∧ Below w.heap.size w w' := by
    intro w
    refine (Tryd.utf8_AppendRune_plain w.heap.size _ 0 [] n (by omega) (by omega) w (World.ownsRow_nil _ _ _ _) (by omega) (Nat.le_refl _)).mono ?_
    rintro e w' ⟨v, rfl, hown, o, hg⟩
    refine ⟨v, rfl, conv_own hp (by simpa using hown), ?_⟩
    exact ((Below.refl _ _).alloc (Nat.le_refl _) o).grown hg (by simp) (by intro k hk; simp [Value.ownBlock] at hk)
  go_enter Tryd.func11, Tryd.ntmps11
  go_wp2_with (first | (go_at_call 33; refine (Tryd.utf8_ValidRune _ _).mono ?_; rintro e w' ⟨rfl, rfl⟩) | (go_at_call 34; refine (hA _).mono ?_; rintro e w' ⟨v, rfl, hcv, hb⟩))
  go_ret2
  exact ⟨rfl, by assumption⟩
theorem utfEncode_no (n : Int) (w : World) (hp : ¬ IsPoint n) :
    Calls Tryd.prog 11 #[.int .i64 n] w fun e w' => e = .returned (.tuple #[.string ⟨#[]⟩, .int .i64 8]) ∧ w' = w := by
  unfold IsPoint at hp
  by_cases h0 : n < 0
  · go_enter Tryd.func11, Tryd.ntmps11
    go_wp2
    go_ret2
    exact ⟨rfl, rfl⟩
  by_cases h1 : 1114111 < n
  · go_enter Tryd.func11, Tryd.ntmps11
    go_wp2
    go_ret2
    exact ⟨rfl, rfl⟩
  have hv : Lib.validRune n = false := by
    unfold Lib.validRune
    exact decide_eq_false (by omega)
  go_enter Tryd.func11, Tryd.ntmps11
  go_wp2_with (first | (go_at_call 33; refine (Tryd.utf8_ValidRune _ _).mono ?_; rintro e w' ⟨rfl, rfl⟩))
  go_ret2
  exact ⟨rfl, rfl⟩

theorem decodeGo_at (s : ByteArray) (a : Nat) (h : a < s.size) : Lib.decodeGo (s.extract a s.size) = decodeL (s.data.toList.drop a) := by
  have e : (s.extract a s.size).data.toList = s.data.toList.drop a := by
    rw [Lib.extract_data]
    rw [List.take_of_length_le (by rw [List.length_drop, ← Lib.size_eq]; omega)]
  have hz : (s.extract a s.size).size ≠ 0 := by
    rw [Lib.size_eq, e, List.length_drop, ← Lib.size_eq]; omega
  unfold Lib.decodeGo
  rw [if_neg hz, ← decodeL_drop, e, List.drop_zero]

theorem pointAt_any (s : ByteArray) (a : Nat) (w : World) (_hs : s.size ≤ 140737488355328) (ha : a < s.size) (hT : Tabs w) :
    Calls Tryd.prog 39 #[.string s, .int .i64 a] w fun e w' =>
      e = .returned (.tuple #[.int .i32 (decodeL (s.data.toList.drop a)).1, .int .i64 (decodeL (s.data.toList.drop a)).2, .bool (isPt (s.data.toList.drop a))]) ∧ Below w.heap.size w w' := by
  have cD := Tryd.utf8_DecodeRuneInString (s.extract a s.size) w hT
  rw [decodeGo_at s a ha] at cD
  have hw1 := decodeL_width (s.data.toList.drop a)
  have hI : isPt (s.data.toList.drop a) = (!((decodeL (s.data.toList.drop a)).1 == 65533) || decide (1 < (decodeL (s.data.toList.drop a)).2)) := by
    unfold isPt
    rw [Bool.eq_iff_iff]
    simp
    omega
  rw [hI]
  clear hI
  generalize (decodeL (s.data.toList.drop a)).1 = r at *
  generalize (decodeL (s.data.toList.drop a)).2 = k at *
  have hslice : s.size - a = s.size - a := rfl
  by_cases hr : r = 65533
  · subst hr
    go_enter Tryd.func39, Tryd.ntmps39
    go_wp2_with (go_at_call 48; refine cD.mono ?_; rintro e w' ⟨rfl, hb⟩)
    go_ret3
    exact ⟨by simp; omega, by assumption⟩
  · have hr1 : ((r : Int) != 65533) = true := by rw [bne_iff_ne]; omega
    have hr2 : (r == 65533) = false := by simpa using hr
    go_enter Tryd.func39, Tryd.ntmps39
    go_wp2_with (go_at_call 48; refine cD.mono ?_; rintro e w' ⟨rfl, hb⟩)
    go_ret3
    exact ⟨by simp [hr], by assumption⟩
theorem utfDecode_in (s : ByteArray) (a : Nat) (w : World) (hs : s.size ≤ 140737488355328) (ha : a < s.size) (hT : Tabs w) :
    Calls Tryd.prog 21 #[.string s, .int .i64 a] w fun e w' =>
      e = .returned (.tuple #[.int .i64 (headP (s.data.toList.drop a)), .int .i64 (headW (s.data.toList.drop a))]) ∧ Below w.heap.size w w' := by
  have cP := pointAt_any s a w hs ha hT
  have hm := decodeL_rune (s.data.toList.drop a)
  cases hI : isPt (s.data.toList.drop a) with
  | true =>
    rw [isPt_yes _ hI]
    rw [hI] at cP
    clear hI
    unfold headW
    generalize (decodeL (s.data.toList.drop a)).1 = r at *
    generalize (decodeL (s.data.toList.drop a)).2 = k at *
    go_enter Tryd.func21, Tryd.ntmps21
    go_wp2_with (go_at_call 39; refine cP.mono ?_; rintro e w' ⟨rfl, hb⟩)
    go_ret2
    exact ⟨by simp, by assumption⟩
  | false =>
    obtain ⟨e1, e2⟩ := isPt_no _ hI
    rw [hI] at cP
    rw [e1, e2]
    clear hI e1 e2
    generalize (decodeL (s.data.toList.drop a)).1 = r at *
    generalize (decodeL (s.data.toList.drop a)).2 = k at *
    go_enter Tryd.func21, Tryd.ntmps21
    go_wp2_with (go_at_call 39; refine cP.mono ?_; rintro e w' ⟨rfl, hb⟩)
    go_ret2
    exact ⟨by simp, by assumption⟩
theorem utfDecode_out (s : ByteArray) (a : Int) (w : World) (_hs : s.size ≤ 140737488355328) (ha : a < 0 ∨ s.size ≤ a) :
    Calls Tryd.prog 21 #[.string s, .int .i64 a] w fun e w' => e = .returned (.tuple #[.int .i64 (-1), .int .i64 0]) ∧ w' = w := by
  by_cases h0 : a < 0
  · go_enter Tryd.func21, Tryd.ntmps21
    go_wp2
    go_ret2
    exact ⟨rfl, rfl⟩
  · have h1 : (s.size : Int) ≤ a := by omega
    go_enter Tryd.func21, Tryd.ntmps21
    go_wp2
    go_ret2
    exact ⟨rfl, rfl⟩
theorem units_nat (r : Nat) (w : World) : Calls Tryd.prog 37 #[.int .i32 r] w fun e w' => e = .returned (.int .i64 (wt r)) ∧ w' = w := by
  refine (units_any r w).mono ?_
  rintro e w' ⟨rfl, rfl⟩
  refine ⟨?_, rfl⟩
  unfold wt
  by_cases h : 65535 < r
  · rw [if_pos h, if_pos (by omega)]; rfl
  · rw [if_neg h, if_neg (by omega)]; rfl
theorem utfValid_any (s : ByteArray) (w : World) (hs : s.size ≤ 140737488355328) (hT : Tabs w) :
    Calls Tryd.prog 23 #[.string s] w fun e w' => e = .returned (.bool (validD s.data.toList)) ∧ Below w.heap.size w w' := by
  go_enter Tryd.func23, Tryd.ntmps23
  go_wp2_with (go_at_call 41; refine (Tryd.utf8_ValidString _ _ (by omega) hT).mono ?_; rintro e w' ⟨rfl, hb⟩)
  go_ret
  exact ⟨rfl, by assumption⟩
end Go.Proofs.YtipbojiialfmeaaDoor
