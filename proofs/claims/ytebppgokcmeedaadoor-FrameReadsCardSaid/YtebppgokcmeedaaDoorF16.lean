/- The reference of frames: lines, named, number. -/
import Derived.Test.YtebppgokcmeedaaDoorF15
namespace Go.Proofs.Fr
open Go.RowKit Go.Maps Go.Proofs Go.Lib

theorem occ_st (s x : List UInt8) (i : Nat) : occAt s x i = true ↔ stB s x i = true := by
  rw [occ_at]
  unfold stB
  rw [decide_eq_true_iff]
  constructor
  · exact fun h => h.1
  · intro h
    refine ⟨h, ?_⟩
    have := congrArg List.length h
    rw [List.length_take] at this
    omega
theorem index_at {s : List UInt8} {f i : Nat} (hf : f ≤ i) (hi : i ≤ s.length) (hno : ∀ j, f ≤ j → j < i → stB s crlf j = false) (h : stB s crlf i = true) : index (s.drop f) crlf = (i - f : Nat) := by
  have key : ∀ j, stB (s.drop f) crlf j = stB s crlf (f + j) := fun j => by unfold stB; rw [List.drop_drop]
  refine index_first (i := i - f) (by rw [List.length_drop]; omega) ?_ ?_
  · rw [occ_st, key, show f + (i - f) = i by omega]
    exact h
  · intro j hj
    cases ho : occAt (s.drop f) crlf j with
    | false => rfl
    | true =>
      rw [occ_st, key, hno (f + j) (by omega) (by omega)] at ho
      cases ho
theorem index_no {s : List UInt8} {f : Nat} (hno : ∀ j, f ≤ j → j < s.length → stB s crlf j = false) : index (s.drop f) crlf = -1 := by
  rcases index_spec (s.drop f) crlf with ⟨h1, _⟩ | ⟨i, _, _, h3, _⟩
  · exact h1
  · exfalso
    have h4 := (occ_st _ _ _).1 h3
    have hr := stB_room h4
    rw [List.length_drop, show crlf.length = 2 from rfl] at hr
    have key : stB (s.drop f) crlf i = stB s crlf (f + i) := by unfold stB; rw [List.drop_drop]
    rw [key, hno (f + i) (by omega) (by omega)] at h4
    cases h4
theorem ext_list (s : ByteArray) (f i : Nat) : s.extract f i = ⟨((s.data.toList.drop f).take (i - f)).toArray⟩ := by
  apply ByteArray.ext
  apply Array.toList_inj.1
  rw [Lib.extract_data]
theorem ext_rest (s : ByteArray) (f : Nat) : s.extract f s.size = ⟨(s.data.toList.drop f).toArray⟩ := by
  apply ByteArray.ext
  apply Array.toList_inj.1
  rw [Lib.extract_to_end]
set_option maxRecDepth 100000 in
set_option maxHeartbeats 4000000 in
theorem lines_any (s : ByteArray) (w : World) (hs : s.size ≤ 16777216) : Calls Tryd.prog 48 #[.string s] w fun e w' => ∃ v, e = .returned v ∧ w'.ownsRow w.heap.size 9 1 v (lns s.data.toList).length (strCells (lns s.data.toList)) ∧ Below w.heap.size w w' := by
  obtain ⟨i9_, hi9, hz0, hz1, hz2⟩ := info_parts info9
  have hst : ∀ (i : Nat) (w : World), i ≤ 100000000 → Calls Tryd.prog 47 #[.string s, .int .i64 (i : Int), .string ⟨#[13, 10]⟩] w fun e w' => e = .returned (.bool (stB s.data.toList crlf i)) ∧ w = w' := fun i w hi => stands_any s ⟨#[13, 10]⟩ i w hs (by decide) (by decide) hi
  have hsl := Lib.size_eq s
  obtain ⟨L, hL⟩ : ∃ L, lns s.data.toList = L := ⟨_, rfl⟩
  rw [hL]
  have HL := Lib.hid hL
  have HS := Lib.hid hsl
  clear hL hsl
  go_enter Tryd.func48, Tryd.ntmps48
  go_wp2
  go_loopw [3, 4, 5] (fun v f i wr => ∃ (dn : List (List UInt8)) (fn k : Nat), f = .int .i64 fn ∧ i = .int .i64 k ∧ fn ≤ k ∧ k ≤ s.size ∧ dn.length ≤ fn ∧ dn ++ lns (s.data.toList.drop fn) = L ∧ (∀ j, fn ≤ j → j < k → stB s.data.toList crlf j = false) ∧ wr.ownsRow w.heap.size 9 1 v dn.length (strCells dn) ∧ Below w.heap.size w wr) (fun _ _ i _ => s.size - (RowKit.intOf i).toNat)
  case atStart => exact ⟨[], 0, 0, rfl, rfl, Nat.le_refl _, Nat.zero_le _, Nat.zero_le _, HL.out, fun j _ h => by omega, World.ownsRow_nil _ _ _ _, Below.refl _ _⟩
  case round =>
    obtain ⟨dn, fn, k, rfl, rfl, hfk, hk, hdf, hdn, hno, hown, hB⟩ := hrel
    have HN := Lib.hid hno
    have HD := Lib.hid hdn
    have hz := hB.size
    clear hno hdn
    by_cases hlt : (k : Int) < (s.size : Int)
    · have hst2 := hst k wr (by omega)
      obtain ⟨b, hb⟩ : ∃ b, stB s.data.toList crlf k = b := ⟨_, rfl⟩
      rw [hb] at hst2
      have HB := Lib.hid hb
      clear hb
      cases b with
      | true =>
        have hrm := stB_room HB.out
        rw [← HS.out, show crlf.length = 2 from rfl] at hrm
        obtain ⟨x, hx⟩ : ∃ x : List UInt8, s.extract fn k = ⟨x.toArray⟩ := ⟨_, ext_list s fn k⟩
        have hxe : (dn ++ [x]) ++ lns (s.data.toList.drop (k + 2)) = L := by
          rw [← HD.out, List.append_assoc]
          have h1 := lns_some (index_at hfk (by rw [← HS.out]; omega) HN.out HB.out)
          rw [List.drop_drop, show fn + (k - fn + 2) = k + 2 by omega] at h1
          rw [h1]
          have h2 := hx.symm.trans (ext_list s fn k)
          have h3 : x = (s.data.toList.drop fn).take (k - fn) := by
            have := congrArg (fun b : ByteArray => b.data.toList) h2
            simpa using this
          rw [h3]; rfl
        have HX := Lib.hid hxe
        have k2 : (k : Int) + 2 ≤ (s.size : Int) := by omega
        have fk : (fn : Int) ≤ (k : Int) := by omega
        clear hxe hrm
        go_wp2_with (first
          | (go_at_call 47; refine hst2.mono ?_; rintro e w1 ⟨rfl, hw⟩; subst hw)
          | (at_builtin; refine wpList_append_own _ rfl (.tmp 15) (.tmp 20) 41 rfl w.heap.size 9 i9_ _ 1 16 Tryd.underlying41 hi9 hz0 hz1 hz2 rfl (by decide) _ _ _ rfl (hown.alloc _) ⟨wr.heap.size, 0, none⟩ 1 1 [.string ⟨x.toArray⟩] rfl rfl (cells_at_new wr [.string ⟨x.toArray⟩] 9 _ rfl) (str_ones _) (by unfold maxLen; omega) (by omega) (by simp; omega) ?_; intro v' w3 hown3 hg3 hnil3
             have b3 : Below w.heap.size w w3 := (hB.trans ((Below.refl wr.heap.size wr).alloc (Nat.le_refl _) _ |>.mono hz)).grown hg3 (by simp; omega) (fun k hk => ((hown.alloc (.cells #[.string ⟨x.toArray⟩] 9)).lt k hk).1)
             clear hg3 hnil3))
        go_roundw
        case rel => exact ⟨dn ++ [x], k + 2, k + 2, by go_num, by go_num, Nat.le_refl _, by omega, by rw [List.length_append, List.length_singleton]; omega, HX.out, fun j h1 h2 => by omega, by rw [strCells_snoc, List.length_append]; exact hown3, b3⟩
        case measure => simp [RowKit.intOf]; omega
      | false =>
        go_wp2_with (first
          | (go_at_call 47; refine hst2.mono ?_; rintro e w1 ⟨rfl, hw⟩; subst hw))
        go_roundw
        case rel => exact ⟨dn, fn, k + 1, rfl, by go_num, by omega, by omega, hdf, HD.out, fun j h1 h2 => by
          by_cases h : j = k
          · subst h; exact HB.out
          · exact HN.out j h1 (by omega), hown, hB⟩
        case measure => simp [RowKit.intOf]; omega
    · obtain ⟨x, hx⟩ : ∃ x : List UInt8, s.extract fn s.size = ⟨x.toArray⟩ := ⟨_, ext_rest s fn⟩
      have hxe : dn ++ [x] = L := by
        rw [← HD.out, lns_none (index_no fun j h1 h2 => HN.out j h1 (by rw [← HS.out] at h2; omega))]
        have h2 := hx.symm.trans (ext_rest s fn)
        have h3 : x = s.data.toList.drop fn := by
          have := congrArg (fun b : ByteArray => b.data.toList) h2
          simpa using this
        rw [h3]
      have HX := Lib.hid hxe
      have fk : (fn : Int) ≤ (s.size : Int) := by omega
      clear hxe
      go_wp2_with (first
        | (at_builtin; refine wpList_append_own _ rfl (.tmp 26) (.tmp 30) 41 rfl w.heap.size 9 i9_ _ 1 16 Tryd.underlying41 hi9 hz0 hz1 hz2 rfl (by decide) _ _ _ rfl (hown.alloc _) ⟨wr.heap.size, 0, none⟩ 1 1 [.string ⟨x.toArray⟩] rfl rfl (cells_at_new wr [.string ⟨x.toArray⟩] 9 _ rfl) (str_ones _) (by unfold maxLen; omega) (by omega) (by simp; omega) ?_; intro v' w3 hown3 hg3 hnil3
           have b3 : Below w.heap.size w w3 := (hB.trans ((Below.refl wr.heap.size wr).alloc (Nat.le_refl _) _ |>.mono hz)).grown hg3 (by simp; omega) (fun k hk => ((hown.alloc (.cells #[.string ⟨x.toArray⟩] 9)).lt k hk).1)
           clear hg3 hnil3))
      obtain ⟨p3, c3, rfl⟩ := row_shape hown3
      go_ret
      refine ⟨_, rfl, ?_, b3⟩
      rw [← HX.out, strCells_snoc, List.length_append]
      exact hown3
end Go.Proofs.Fr
