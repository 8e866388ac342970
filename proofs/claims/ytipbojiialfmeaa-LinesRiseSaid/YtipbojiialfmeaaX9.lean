/- The reference's Lines. -/
import Derived.Test.YtipbojiialfmeaaX8
import Derived.Test.YtipbojiialfmeaaR2
namespace Go.Proofs.Ytipbojiialfmeaa
open Go.RowKit Go.Proofs.Utf Go.Lib

def crAt (s : ByteArray) : Nat → Bool
  | 0 => false
  | j + 1 => s.data.toList[j]? == some 13
theorem crAt_succ (s : ByteArray) (i : Nat) (hp : i < s.size) : crAt s (i + 1) = (s[i]'hp == 13) := by
  show (s.data.toList[i]? == some 13) = _
  rw [data_getElem? s i hp]
  rfl
theorem ll_step (s : ByteArray) (i f : Nat) (hp : i < s.size) : linesP (s.data.toList.drop i) (crAt s i) f i =
    if crAt s i && s[i]'hp == 10 then linesP (s.data.toList.drop (i + 1)) (crAt s (i + 1)) (i + 1) (i + 1)
    else if s[i]'hp == 10 || s[i]'hp == 13 then (f, i) :: linesP (s.data.toList.drop (i + 1)) (crAt s (i + 1)) (i + 1) (i + 1)
    else linesP (s.data.toList.drop (i + 1)) (crAt s (i + 1)) f (i + 1) := by
  have hd : s.data.toList.drop i = s[i]'hp :: s.data.toList.drop (i + 1) := by
    have hl : i < s.data.toList.length := by rw [← size_eq]; exact hp
    rw [List.drop_eq_getElem_cons hl]
    congr 1
  rw [hd, crAt_succ s i hp]
  simp only [linesP]
  split
  · next h =>
    have h10 : s[i]'hp = 10 := by simp at h; exact h.2
    rw [h10]
    rfl
  · split
    · rfl
    · next h =>
      have h13 : (s[i]'hp == 13) = false := by simp at h; simp; exact h.2
      rw [h13]
theorem ll_end (s : ByteArray) (f : Nat) (c : Bool) : linesP (s.data.toList.drop s.size) c f s.size = [(f, s.size)] := by
  rw [List.drop_eq_nil_of_le (by rw [← size_eq]; exact Nat.le_refl _)]
  rfl
def lnCells (l : List (Nat × Nat)) : List Value := l.flatMap (fun x => [Value.int .i64 (x.1 : Int), Value.int .i64 (x.2 : Int)])
theorem lnCells_snoc (l : List (Nat × Nat)) (a b : Nat) : lnCells (l ++ [(a, b)]) = lnCells l ++ [Value.int .i64 (a : Int), Value.int .i64 (b : Int)] := by simp [lnCells]
theorem info30 : (Try.prog.info? 30).map (fun i => (i.zero, i.size, i.bytes)) = some (some (.agg #[.int .i64 0, .int .i64 0]), 2, 16) := by kernel_rfl
theorem ln_one (a b : Int) : ∀ u ∈ [Value.int .i64 a, .int .i64 b], u.oneCell' = true := by
  intro u hu
  simp at hu
  rcases hu with rfl | rfl <;> rfl
theorem ln_own {w2 : World} {b : Nat} {v' : Value} {l : List (Nat × Nat)} {x y : Nat} (h : w2.ownsRow b 30 2 v' (l.length + 1) (lnCells l ++ [Value.int .i64 (x : Int), Value.int .i64 (y : Int)])) :
    w2.ownsRow b 30 2 v' (l ++ [(x, y)]).length (lnCells (l ++ [(x, y)])) := by
  rw [lnCells_snoc, List.length_append]
  exact h

set_option maxHeartbeats 2000000 in
set_option maxRecDepth 100000 in
theorem refLines_any (s : ByteArray) (w : World) (hs : s.size ≤ 1048576) :
    Calls Try.prog 11 #[.string s] w fun e w' => ∃ v, e = .returned v ∧ w'.ownsRow w.heap.size 30 2 v (linesL s.data.toList).length (lnCells (linesL s.data.toList)) ∧ Below w.heap.size w w' := by
  obtain ⟨i0, hi, hz0, hz1, hz2⟩ := info_parts info30
  go_enter Try.func11, Try.ntmps11
  go_wp2
  go_loopw [3, 4, 5] (fun v f i wr => ∃ (pos fr : Nat) (rows : List (Nat × Nat)), f = .int .i64 fr ∧ i = .int .i64 pos ∧ pos ≤ s.size ∧ fr ≤ pos ∧ rows.length ≤ pos ∧ rows ++ linesP (s.data.toList.drop pos) (crAt s pos) fr pos = linesL s.data.toList ∧ wr.ownsRow w.heap.size 30 2 v rows.length (lnCells rows) ∧ Below w.heap.size w wr)
    (fun _ _ i _ => s.size - (RowKit.intOf i).toNat)
  case atStart => exact ⟨0, 0, [], rfl, rfl, Nat.zero_le _, Nat.le_refl _, Nat.le_refl _, rfl, World.ownsRow_nil _ _ _ _, Below.refl _ _⟩
  case round =>
    obtain ⟨pos, fr, rows, rfl, rfl, hp0, hfr, hlen, hrows, hown, hB⟩ := hrel
    have HR := Lib.hid hrows
    clear hrows
    by_cases hp : pos < s.size
    · have HS := Lib.hid (ll_step s pos fr hp)
      have hpi : (pos : Int) < (s.size : Int) := by omega
      by_cases h10 : s[pos]'hp = 10
      · by_cases hz : pos = 0
        · have hzi : ¬ (0 : Int) < (pos : Int) := by omega
          have hcr : crAt s pos = false := by rw [hz]; rfl
          clear hz
          have HS2 := Lib.hid (show rows ++ ((fr, pos) :: linesP (s.data.toList.drop (pos + 1)) (crAt s (pos + 1)) (pos + 1) (pos + 1)) = linesL s.data.toList by have := HR.out; rw [HS.out, if_neg (by simp [hcr]), if_pos (by simp [h10])] at this; exact this)
          go_wp2_with (at_builtin; refine wpList_append_own _ rfl (.tmp 39) (.tmp 43) 24 rfl w.heap.size 30 i0 (.agg #[.int .i64 0, .int .i64 0]) 2 16 Try.underlying24 hi hz0 hz1 hz2 rfl (by decide) _ _ _ rfl (hown.alloc _) ⟨wr.heap.size, 0, none⟩ 1 1 [.int .i64 fr, .int .i64 (pos : Int)] rfl rfl (cells_at_new _ _ _ _ (by simp)) (ln_one _ _) (by unfold maxLen; omega) (by omega) (by have := hB.size; simp; omega) ?_; intro v' w2 hown2 hgrow2 _)
          go_roundw
          case rel => exact ⟨pos + 1, pos + 1, rows ++ [(fr, pos)], by go_num, by go_num, by omega, Nat.le_refl _, by rw [List.length_append, List.length_singleton]; omega, by rw [List.append_assoc]; exact HS2.out, ln_own (by simpa using hown2), (hB.alloc hB.size _).grown hgrow2 (by have := hB.size; simp; omega) (own_base hown)⟩
          case measure => simp [RowKit.intOf]; omega
        · obtain ⟨j, rfl⟩ : ∃ j, pos = j + 1 := ⟨pos - 1, by omega⟩
          have hj : j < s.size := by omega
          have hcj := crAt_succ s j hj
          by_cases h13 : s[j]'hj = 13
          · have hcr : crAt s (j + 1) = true := by rw [hcj, h13]; rfl
            have HS2 := Lib.hid (show rows ++ linesP (s.data.toList.drop ((j + 1) + 1)) (crAt s ((j + 1) + 1)) (j + 1 + 1) ((j + 1) + 1) = linesL s.data.toList by have := HR.out; rw [HS.out, if_pos (by simp [hcr, h10])] at this; exact this)
            go_wp2
            go_roundw
            case rel => exact ⟨(j + 1) + 1, (j + 1 + 1), rows, by go_num, by go_num, by omega, by omega, by omega, HS2.out, hown, hB⟩
            case measure => simp [RowKit.intOf]; omega
          · have hcr : crAt s (j + 1) = false := by rw [hcj]; simp [h13]
            have hne : ((s[j]'hj).toNat : Int) ≠ 13 := fun e => h13 (UInt8.toNat_inj.1 (by simpa using Int.ofNat.inj e))
            have hne' : (((s[j]'hj).toNat : Int) == 13) = false := beq_eq_false_iff_ne.2 hne
            have HS2 := Lib.hid (show rows ++ ((fr, (j + 1)) :: linesP (s.data.toList.drop ((j + 1) + 1)) (crAt s ((j + 1) + 1)) ((j + 1) + 1) ((j + 1) + 1)) = linesL s.data.toList by have := HR.out; rw [HS.out, if_neg (by simp [hcr]), if_pos (by simp [h10])] at this; exact this)
            go_wp2_with (at_builtin; refine wpList_append_own _ rfl (.tmp 39) (.tmp 43) 24 rfl w.heap.size 30 i0 (.agg #[.int .i64 0, .int .i64 0]) 2 16 Try.underlying24 hi hz0 hz1 hz2 rfl (by decide) _ _ _ rfl (hown.alloc _) ⟨wr.heap.size, 0, none⟩ 1 1 [.int .i64 fr, .int .i64 ((j : Int) + 1)] rfl rfl (cells_at_new _ _ _ _ (by simp)) (ln_one _ _) (by unfold maxLen; omega) (by omega) (by have := hB.size; simp; omega) ?_; intro v' w2 hown2 hgrow2 _)
            go_roundw
            case rel => exact ⟨(j + 1) + 1, (j + 1) + 1, rows ++ [(fr, (j + 1))], by go_num, by go_num, by omega, Nat.le_refl _, by rw [List.length_append, List.length_singleton]; omega, by rw [List.append_assoc]; exact HS2.out, ln_own (by simpa using hown2), (hB.alloc hB.size _).grown hgrow2 (by have := hB.size; simp; omega) (own_base hown)⟩
            case measure => simp [RowKit.intOf]; omega
      · have hne10 : (((s[pos]'hp).toNat : Int) == 10) = false := beq_eq_false_iff_ne.2 (fun e => h10 (UInt8.toNat_inj.1 (by simpa using Int.ofNat.inj e)))
        by_cases h13 : s[pos]'hp = 13
        · have HS2 := Lib.hid (show rows ++ ((fr, pos) :: linesP (s.data.toList.drop (pos + 1)) (crAt s (pos + 1)) (pos + 1) (pos + 1)) = linesL s.data.toList by have := HR.out; rw [HS.out, if_neg (by simp [h13]), if_pos (by simp [h13])] at this; exact this)
          go_wp2_with (at_builtin; refine wpList_append_own _ rfl (.tmp 39) (.tmp 43) 24 rfl w.heap.size 30 i0 (.agg #[.int .i64 0, .int .i64 0]) 2 16 Try.underlying24 hi hz0 hz1 hz2 rfl (by decide) _ _ _ rfl (hown.alloc _) ⟨wr.heap.size, 0, none⟩ 1 1 [.int .i64 fr, .int .i64 (pos : Int)] rfl rfl (cells_at_new _ _ _ _ (by simp)) (ln_one _ _) (by unfold maxLen; omega) (by omega) (by have := hB.size; simp; omega) ?_; intro v' w2 hown2 hgrow2 _)
          go_roundw
          case rel => exact ⟨pos + 1, pos + 1, rows ++ [(fr, pos)], by go_num, by go_num, by omega, Nat.le_refl _, by rw [List.length_append, List.length_singleton]; omega, by rw [List.append_assoc]; exact HS2.out, ln_own (by simpa using hown2), (hB.alloc hB.size _).grown hgrow2 (by have := hB.size; simp; omega) (own_base hown)⟩
          case measure => simp [RowKit.intOf]; omega
        · have hne13 : (((s[pos]'hp).toNat : Int) == 13) = false := beq_eq_false_iff_ne.2 (fun e => h13 (UInt8.toNat_inj.1 (by simpa using Int.ofNat.inj e)))
          have HS2 := Lib.hid (show rows ++ linesP (s.data.toList.drop (pos + 1)) (crAt s (pos + 1)) fr (pos + 1) = linesL s.data.toList by have := HR.out; rw [HS.out, if_neg (by simp [h10]), if_neg (by simp [h10, h13])] at this; exact this)
          go_wp2
          go_roundw
          case rel => exact ⟨pos + 1, fr, rows, by go_num, by go_num, by omega, by omega, by omega, HS2.out, hown, hB⟩
          case measure => simp [RowKit.intOf]; omega
    · obtain rfl : pos = s.size := by omega
      have HE := Lib.hid (show rows ++ [(fr, s.size)] = linesL s.data.toList by have := HR.out; rw [ll_end] at this; exact this)
      go_wp2_with (at_builtin; refine wpList_append_own _ rfl (.tmp 47) (.tmp 52) 24 rfl w.heap.size 30 i0 (.agg #[.int .i64 0, .int .i64 0]) 2 16 Try.underlying24 hi hz0 hz1 hz2 rfl (by decide) _ _ _ rfl (hown.alloc _) ⟨wr.heap.size, 0, none⟩ 1 1 [.int .i64 fr, .int .i64 (s.size : Int)] rfl rfl (cells_at_new _ _ _ _ (by simp)) (ln_one _ _) (by unfold maxLen; omega) (by omega) (by have := hB.size; simp; omega) ?_; intro v' w2 hown2 hgrow2 _)
      go_ret
      refine ⟨_, rfl, ?_, (hB.alloc hB.size _).grown hgrow2 (by have := hB.size; simp; omega) (own_base hown)⟩
      have := ln_own (l := rows) (x := fr) (y := s.size) (by simpa using hown2)
      rw [HE.out] at this
      exact this
end Go.Proofs.Ytipbojiialfmeaa
