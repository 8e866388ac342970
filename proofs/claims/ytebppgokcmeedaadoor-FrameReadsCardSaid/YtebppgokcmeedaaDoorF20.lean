/- The reference of frames: Push, Next. -/
import Derived.Test.YtebppgokcmeedaaDoorF19
namespace Go.Proofs.Fr
open Go.RowKit Go.Maps Go.Proofs Go.Lib

/-- the reference's reader -/
def RQ (w : World) (b : Nat) (h : ByteArray) (br : Bool) : Prop := w.heap[b]? = some (.cells #[.string h, .bool br] 27 (0, 0))
theorem RQ.lt {w : World} {b : Nat} {h : ByteArray} {br : Bool} (r : RQ w b h br) : b < w.heap.size := (Array.getElem?_eq_some_iff.1 r).1
theorem RQ.kept {w w' : World} {b : Nat} {h : ByteArray} {br : Bool} (r : RQ w b h br) {row : Option Nat} (hg : w.grownBy w' row) (hne : some b ≠ row) : RQ w' b h br := (hg.block b r.lt hne).trans r
theorem RQ.below {w w' : World} {b : Nat} {h : ByteArray} {br : Bool} (r : RQ w b h br) (hb : Below w.heap.size w w') : RQ w' b h br := (hb.block b r.lt).trans r
theorem RQ.cells {w : World} {b : Nat} {h : ByteArray} {br : Bool} (r : RQ w b h br) : w.cell? ⟨b, 0, none⟩ = some (.string h) ∧ w.cell? ⟨b, 1, none⟩ = some (.bool br) ∧ w.frozen? ⟨b, 0, none⟩ = false ∧ w.frozen? ⟨b, 1, none⟩ = false := by
  unfold RQ at r
  refine ⟨?_, ?_, ?_, ?_⟩
  · simp [World.cell?, r]
  · simp [World.cell?, r]
  · simp [World.frozen?, r]
  · simp [World.frozen?, r]
theorem RQ.set0 {w : World} {b : Nat} {h : ByteArray} {br : Bool} (r : RQ w b h br) (h' : ByteArray) : RQ (w.setCell ⟨b, 0, none⟩ (.string h')) b h' br := by
  obtain ⟨hlt, hk⟩ := Array.getElem?_eq_some_iff.1 r
  show (w.heap.modify b _)[b]? = _
  rw [Array.getElem?_eq_getElem (by rw [Array.size_modify]; exact hlt), Array.getElem_modify_self, hk]
  rfl
theorem RQ.set1 {w : World} {b : Nat} {h : ByteArray} {br : Bool} (r : RQ w b h br) (br' : Bool) : RQ (w.setCell ⟨b, 1, none⟩ (.bool br')) b h br' := by
  obtain ⟨hlt, hk⟩ := Array.getElem?_eq_some_iff.1 r
  show (w.heap.modify b _)[b]? = _
  rw [Array.getElem?_eq_getElem (by rw [Array.size_modify]; exact hlt), Array.getElem_modify_self, hk]
  rfl
set_option maxRecDepth 100000 in
theorem rpush_broken (w : World) (b : Nat) (h s : ByteArray) (r : RQ w b h true) : Calls Tryd.prog 12 #[.pointer (some ⟨b, 0, none⟩), .string s] w fun e w' => e = .returned (.int .i64 4) ∧ w = w' := by
  obtain ⟨c0, c1, c2, c3⟩ := r.cells
  clear r
  go_enter Tryd.func12, Tryd.ntmps12
  go_wp2
  go_ret
  exact ⟨rfl, rfl⟩
set_option maxRecDepth 100000 in
theorem rpush_any (w : World) (b : Nat) (h s : ByteArray) (r : RQ w b h false) (hsz : h.size + s.size ≤ 281474976710656) : Calls Tryd.prog 12 #[.pointer (some ⟨b, 0, none⟩), .string s] w fun e w' => e = .returned (.int .i64 0) ∧ RQ w' b (h ++ s) false ∧ w.grownBy w' (some b) := by
  obtain ⟨c0, c1, c2, c3⟩ := r.cells
  have h1 : (h.size : Int) + (s.size : Int) ≤ 281474976710656 := by omega
  have R := Lib.hid r
  clear r
  go_enter Tryd.func12, Tryd.ntmps12
  go_wp2
  go_ret
  exact ⟨rfl, R.out.set0 _, gb_set _ _ _ _⟩
set_option maxRecDepth 100000 in
theorem rnext_broken (w : World) (b : Nat) (h : ByteArray) (r : RQ w b h true) : Calls Tryd.prog 14 #[.pointer (some ⟨b, 0, none⟩)] w fun e w' => e = .returned (.tuple #[.string ⟨#[]⟩, .bool false, .int .i64 4]) ∧ w = w' := by
  obtain ⟨c0, c1, c2, c3⟩ := r.cells
  clear r
  go_enter Tryd.func14, Tryd.ntmps14
  go_wp2
  go_ret3
  exact ⟨rfl, rfl⟩
set_option maxRecDepth 100000 in
set_option maxHeartbeats 4000000 in
theorem rnext_any (w : World) (b : Nat) (h : ByteArray) (hs : h.size ≤ 4194304) (r : RQ w b h false) : Calls Tryd.prog 14 #[.pointer (some ⟨b, 0, none⟩)] w fun e w' =>
    e = .returned (nxVal (nextV h.data.toList)) ∧ RQ w' b ⟨(nextV h.data.toList).held.toArray⟩ (decide ((nextV h.data.toList).err ≠ 0)) ∧ w.grownBy w' (some b) := by
  obtain ⟨N, hN⟩ : ∃ N, nextV h.data.toList = N := ⟨_, rfl⟩
  rw [hN]
  have HN := Lib.hid hN
  have R := Lib.hid r
  have hblt : b < w.heap.size := r.lt
  obtain ⟨c0, c1, c2, c3⟩ := r.cells
  have hen := fun w => ends_any h w (by omega)
  have hself : (⟨h.data.toList.toArray⟩ : ByteArray) = h := rfl
  clear r hN
  obtain ⟨at_, hat⟩ : ∃ a, endAt h.data.toList = a := ⟨_, rfl⟩
  simp only [hat] at hen
  have HAT := Lib.hid hat
  clear hat
  have close0 : ∀ {w1 : World}, N = ⟨[], false, 0, h.data.toList⟩ → Below w.heap.size w w1 → RQ w1 b ⟨N.held.toArray⟩ (decide (N.err ≠ 0)) ∧ w.grownBy w1 (some b) := fun e hb => by
    rw [e]
    exact ⟨R.out.below hb, gb_below hb⟩
  have closeE : ∀ {w1 : World} (er : Nat), er ≠ 0 → N = ⟨[], false, er, h.data.toList⟩ → Below w.heap.size w w1 → RQ (w1.setCell ⟨b, 1, none⟩ (.bool true)) b ⟨N.held.toArray⟩ (decide (N.err ≠ 0)) ∧ w.grownBy (w1.setCell ⟨b, 1, none⟩ (.bool true)) (some b) := fun er he e hb => by
    rw [e]
    simp only [decide_eq_true he]
    exact ⟨(R.out.below hb).set1 true, (gb_below hb).trans (gb_set _ _ _ _)⟩
  by_cases ha : at_ < 0
  · have hn1 : N = ⟨[], false, if 1024 ≤ h.data.toList.length then 4 else 0, h.data.toList⟩ := by
      rw [← HN.out]; unfold nextV; rw [if_pos (by rw [HAT.out]; exact ha)]
    by_cases hg : 1024 ≤ h.size
    · rw [if_pos (by rw [← Lib.size_eq]; exact hg)] at hn1
      have u1 : ¬ (h.size : Int) < 1024 := by omega
      have hna : ¬ 0 ≤ at_ := by omega
      have HC := closeE (w1 := w) 4 (by decide) hn1 (Below.refl _ _)
      have HN1 := Lib.hid hn1
      clear hn1 close0 closeE hself
      go_enter Tryd.func14, Tryd.ntmps14
      go_wp2_with (first | (go_at_call 29; refine (hen _).mono ?_; rintro e w1 ⟨rfl, hw⟩; subst hw))
      go_ret3
      exact ⟨by rw [HN1.out]; rfl, HC.1, HC.2⟩
    · rw [if_neg (by rw [← Lib.size_eq]; exact hg)] at hn1
      have u1 : (h.size : Int) < 1024 := by omega
      have HC := close0 (w1 := w) hn1 (Below.refl _ _)
      have HN1 := Lib.hid hn1
      clear hn1 close0 closeE hself
      go_enter Tryd.func14, Tryd.ntmps14
      go_wp2_with (first | (go_at_call 29; refine (hen _).mono ?_; rintro e w1 ⟨rfl, hw⟩; subst hw))
      go_ret3
      exact ⟨by rw [HN1.out]; rfl, HC.1, HC.2⟩
  · obtain ⟨i, rfl⟩ : ∃ i : Nat, at_ = i := ⟨at_.toNat, by omega⟩
    have hroom : i + 4 ≤ h.size := by
      rcases end_at h.data.toList with ⟨g1, _⟩ | ⟨k, g1, _, g3, _⟩
      · rw [HAT.out] at g1; omega
      · rw [HAT.out] at g1
        rw [← Lib.size_eq] at g3
        omega
    have hhd := fun w => length_ref (h.extract 0 i) w (by rw [ByteArray.size_extract]; omega)
    have hx : (h.extract 0 i).data.toList = h.data.toList.take i := by rw [Lib.extract_data, List.drop_zero, Nat.sub_zero]
    rw [hx] at hhd
    obtain ⟨n, hn⟩ : ∃ n, headL (h.data.toList.take i) = n := ⟨_, rfl⟩
    simp only [hn] at hhd
    have hN2 := HN.out
    unfold nextV at hN2
    rw [HAT.out, if_neg (by omega)] at hN2
    simp only [Int.toNat_natCast] at hN2
    rw [hn] at hN2
    have hnl : n < 1000000000000000000 := by rw [← hn]; exact headGo_lt _ _ _ (by omega)
    have i0 : (i : Int) ≤ (h.size : Int) := by omega
    clear hn hx ha HN HAT hself
    by_cases h1 : n < 0
    · rw [if_pos h1] at hN2
      have HN1 := Lib.hid hN2.symm
      have CL := fun w1 hb => closeE (w1 := w1) 4 (by decide) hN2.symm hb
      have nm : ¬ 262144 < n := by omega
      clear hN2 close0 closeE
      go_enter Tryd.func14, Tryd.ntmps14
      go_wp2_with (first
        | (go_at_call 29; refine (hen _).mono ?_; rintro e w1 ⟨rfl, hw⟩; subst hw)
        | (go_at_call 30; refine (hhd _).mono ?_; rintro e w2 ⟨rfl, hb2⟩
           obtain ⟨d0, d1, d2, d3⟩ := (R.out.below hb2).cells))
      go_ret3
      exact ⟨by rw [HN1.out]; rfl, (CL _ hb2).1, (CL _ hb2).2⟩
    · rw [if_neg h1] at hN2
      by_cases h3 : 262144 < n
      · rw [if_pos h3] at hN2
        have HN1 := Lib.hid hN2.symm
        have CL := fun w1 hb => closeE (w1 := w1) 3 (by decide) hN2.symm hb
        clear hN2 close0 closeE
        go_enter Tryd.func14, Tryd.ntmps14
        go_wp2_with (first
          | (go_at_call 29; refine (hen _).mono ?_; rintro e w1 ⟨rfl, hw⟩; subst hw)
          | (go_at_call 30; refine (hhd _).mono ?_; rintro e w2 ⟨rfl, hb2⟩
             obtain ⟨d0, d1, d2, d3⟩ := (R.out.below hb2).cells))
        go_ret3
        exact ⟨by rw [HN1.out]; rfl, (CL _ hb2).1, (CL _ hb2).2⟩
      · rw [if_neg h3] at hN2
        obtain ⟨m, rfl⟩ : ∃ m : Nat, n = m := ⟨n.toNat, by omega⟩
        simp only [Int.toNat_natCast] at hN2
        rw [← Lib.size_eq] at hN2
        have hm : (m : Int) ≤ 262144 := by omega
        clear hnl h1 h3
        by_cases h4 : h.size < i + 4 + m
        · rw [if_pos h4] at hN2
          have HN1 := Lib.hid hN2.symm
          have u4 : (h.size : Int) < (i : Int) + 4 + (m : Int) := by omega
          have CL := fun w1 hb => close0 (w1 := w1) hN2.symm hb
          clear hN2 close0 closeE
          go_enter Tryd.func14, Tryd.ntmps14
          go_wp2_with (first
            | (go_at_call 29; refine (hen _).mono ?_; rintro e w1 ⟨rfl, hw⟩; subst hw)
            | (go_at_call 30; refine (hhd _).mono ?_; rintro e w2 ⟨rfl, hb2⟩
               obtain ⟨d0, d1, d2, d3⟩ := (R.out.below hb2).cells))
          go_ret3
          exact ⟨by rw [HN1.out]; rfl, (CL _ hb2).1, (CL _ hb2).2⟩
        · rw [if_neg h4] at hN2
          have HN1 := Lib.hid hN2.symm
          have u4 : ¬ (h.size : Int) < (i : Int) + 4 + (m : Int) := by omega
          have i1 : (i : Int) + 4 + (m : Int) ≤ (h.size : Int) := by omega
          have q3 : ((i : Int) + 4 + (m : Int)).toNat = i + 4 + m := by omega
          clear hN2 close0 closeE
          go_enter Tryd.func14, Tryd.ntmps14
          go_wp2_with (first
            | (go_at_call 29; refine (hen _).mono ?_; rintro e w1 ⟨rfl, hw⟩; subst hw)
            | (go_at_call 30; refine (hhd _).mono ?_; rintro e w2 ⟨rfl, hb2⟩
               have r2 := R.out.below hb2
               obtain ⟨d0, d1, d2, d3⟩ := r2.cells
               have R2 := Lib.hid r2
               clear r2))
          go_ret3
          refine ⟨?_, ?_, (gb_below hb2).trans (gb_set _ _ _ _)⟩
          · rw [HN1.out]
            have e : h.extract (i + 4) (i + 4 + m) = ⟨((h.data.toList.drop (i + 4)).take m).toArray⟩ := by rw [ext_list, Nat.add_sub_cancel_left]
            show _ = Ending.returned (Value.tuple #[.string ⟨((h.data.toList.drop (i + 4)).take m).toArray⟩, .bool true, .int .i64 0])
            rw [← e]
            rfl
          · rw [HN1.out]
            have e : h.extract (i + 4 + m) h.size = ⟨(h.data.toList.drop (i + 4 + m)).toArray⟩ := ext_rest _ _
            show RQ _ b ⟨(h.data.toList.drop (i + 4 + m)).toArray⟩ false
            rw [← e]
            exact R2.out.set0 _
end Go.Proofs.Fr
