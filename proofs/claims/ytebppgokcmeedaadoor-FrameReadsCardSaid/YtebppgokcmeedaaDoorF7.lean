/- FrameTakes: the walk; and same. -/
import Derived.Test.YtebppgokcmeedaaDoorF6
namespace Go.Proofs.Fr
open Go.RowKit Go.Proofs Go.Lib

theorem strs_at {w : World} {B : Nat} {v : Value} {l : List (List UInt8)} (h : w.ownsRow B 9 1 v l.length (strCells l)) (hp : 0 < l.length) :
    ∃ g cap, v = .slice (some ⟨g, 0, none⟩) l.length cap ∧ l.length ≤ cap ∧ g < w.heap.size ∧ ∀ (k : Nat) (x : List UInt8), l[k]? = some x → w.cell? ⟨g, k, none⟩ = some (.string ⟨x.toArray⟩) := by
  rcases h.2 with ⟨_, h2⟩ | ⟨g, cap, cur, h1, h2, h3, h4, h5, h6, h7⟩
  · omega
  · subst h1
    refine ⟨g, cap, rfl, h4, (Array.getElem?_eq_some_iff.1 h3).1, fun k x hk => ?_⟩
    have hk2 := (List.getElem?_eq_some_iff.1 hk).1
    rw [h.cellAt k (by omega)]
    unfold strCells
    rw [List.getElem?_map, hk]
    rfl
def sumL (l : List (List UInt8)) : Nat := (l.map fun b => b.length + 19).sum
theorem sumL_snoc (l : List (List UInt8)) (x : List UInt8) : sumL (l ++ [x]) = sumL l + (x.length + 19) := by simp [sumL]
theorem sumL_le (l : List (List UInt8)) : sumL l ≤ (l.map fun b => b.length + 20).sum := by
  induction l with
  | nil => simp [sumL]
  | cons x t ih =>
    unfold sumL at *
    simp only [List.map_cons, List.sum_cons]
    omega
theorem sumL_take (l : List (List UInt8)) (k : Nat) : sumL (l.take k) ≤ sumL l := by
  conv => rhs; rw [← List.take_append_drop k l]
  unfold sumL
  rw [List.map_append, List.sum_append]
  omega
theorem size_mk' (l : List UInt8) : (⟨l.toArray⟩ : ByteArray).size = l.length := by simp [ByteArray.size]
set_option maxRecDepth 100000 in
set_option maxHeartbeats 2000000 in
theorem takes_walk (s0 : ByteArray) (w : World) (hT : MaxV w) (hs0 : s0.size ≤ 9223372036854775807) : Calls Tryd.prog 5 #[.string s0] w fun e w' => e = .returned (.bool true) ∧ Below w.heap.size w w' := by
  have hcut := cut_any s0 w hs0
  obtain ⟨s, hs⟩ : ∃ s, s0.extract 0 (min s0.size 3000) = s := ⟨_, rfl⟩
  have hsz : s.size ≤ 3000 := by rw [← hs, ByteArray.size_extract]; omega
  rw [hs] at hcut
  clear hs
  have hlt := hT.lt
  obtain ⟨bs, er, h', hD⟩ := Dr.ex _ s.data.toList (Nat.le_refl _)
  have hfew := hD.few
  have hdsz := hD.size
  rw [← Lib.size_eq] at hfew hdsz
  have hsum := sumL_le bs
  have hpu := fun w b r => push_any w b ⟨#[]⟩ s r (by rw [size_mk']; simp; omega)
  simp only [empty_add] at hpu
  obtain ⟨H, hH⟩ : ∃ H : ByteArray, (⟨h'.toArray⟩ : ByteArray) = H := ⟨_, rfl⟩
  have hHs : H.size = h'.length := by rw [← hH, size_mk']
  have hall := fun w hw b hb r => all_any w hw b hb s (by omega) r hD (by omega)
  rw [hH] at hall
  have hc : sumL bs + H.size ≤ s.size := by omega
  have hb2 : bs.length ≤ 3000 := by omega
  clear hD hdsz hH hHs hfew
  go_enter Tryd.func5, Tryd.ntmps5
  go_wp2_with (first
    | (go_at_call 10; refine hcut.mono ?_; rintro e w1 ⟨rfl, hw⟩; subst hw)
    | (go_at_call 9; refine (new_any _).mono ?_; rintro e w1 ⟨rfl, hw1⟩
       have r1 : RD w1 w.heap.size ⟨#[]⟩ false := (by rw [hw1]; exact RD.new w)
       have b1 : Below w.heap.size w w1 := (by rw [hw1]; exact (Below.refl _ _).alloc (Nat.le_refl _) _)
       clear hw1)
    | (go_at_call 11; refine (hpu _ _ r1).mono ?_; rintro e w2 ⟨rfl, r2, g2⟩
       have b2 := b1.trans (below_gb (Nat.le_refl _) b1.size g2)
       have m2 := hT.below b2)
    | (go_at_call 18; refine (hall _ m2 _ hlt r2).mono ?_; rintro e w3 ⟨v, rfl, ho, r3, g3⟩
       obtain ⟨p, cap, rfl⟩ := row_shape ho
       have b3 := b2.trans (below_gb (Nat.le_refl _) b2.size g3)))
  go_loop [6, 7] (fun a i => ∃ k : Nat, i = .int .i64 k ∧ k ≤ bs.length ∧ a = .int .i64 (sumL (bs.take k) : Nat)) (fun _ i => bs.length - (RowKit.intOf i).toNat)
  case atStart => exact ⟨0, rfl, Nat.zero_le _, rfl⟩
  case round =>
    obtain ⟨k, rfl, hk, rfl⟩ := hrel
    by_cases hkn : (k : Int) < (bs.length : Int)
    · have hkl : k < bs.length := by omega
      obtain ⟨x, hx⟩ : ∃ x, bs[k]? = some x := ⟨_, List.getElem?_eq_getElem hkl⟩
      obtain ⟨g, cap', hv, hcap, hg, hcell⟩ := strs_at ho (by omega)
      cases hv
      have hc1 := hcell k x hx
      have hst : sumL (bs.take (k + 1)) = sumL (bs.take k) + (x.length + 19) := by
        rw [List.take_add_one, hx]
        exact sumL_snoc _ _
      have h1 := sumL_take bs (k + 1)
      obtain ⟨X, hX⟩ : ∃ X : ByteArray, (⟨x.toArray⟩ : ByteArray) = X := ⟨_, rfl⟩
      have hXs : X.size = x.length := by rw [← hX, size_mk']
      rw [hX] at hc1
      obtain ⟨a, ha⟩ : ∃ a, sumL (bs.take k) = a := ⟨_, rfl⟩
      rw [ha] at hst
      simp only [ha]
      have h2 : (a : Int) + (X.size : Int) + 19 ≤ 3000 := by omega
      have HST := Lib.hid hst
      have HXS := Lib.hid hXs
      clear hx hcell hst hX hXs ha
      go_wp2
      go_round
      case rel =>
        refine ⟨k + 1, by go_num, by omega, ?_⟩
        rw [HST.out, ← HXS.out]
        go_num
      case measure => simp [RowKit.intOf]; omega
    · have hke : bs.take k = bs := List.take_of_length_le (by omega)
      have hh := held_any _ _ _ _ r3
      have hbk := broken_any _ _ _ _ r3
      obtain ⟨a, ha⟩ : ∃ a, sumL (bs.take k) = a := ⟨_, rfl⟩
      rw [hke] at ha
      rw [ha] at hc
      simp only [hke, ha]
      have u1 : decide ((s.size : Int) < (a : Int) + (H.size : Int)) = false := by simp; omega
      have h2 : (a : Int) + (H.size : Int) ≤ 3000 := by omega
      clear hke ha ho
      by_cases he : er = 0
      · subst he
        have hp := push_any w3 _ H ⟨#[120]⟩ r3 (by have : (⟨#[120]⟩ : ByteArray).size = 1 := rfl; omega)
        have hz3 := b3.size
        clear r3
        go_wp2_with (first
          | (go_at_call 15; refine hh.mono ?_; rintro e w4 ⟨rfl, hw⟩; subst hw)
          | (go_at_call 16; refine hbk.mono ?_; rintro e w4 ⟨rfl, hw⟩; subst hw)
          | (go_at_call 11; refine hp.mono ?_; rintro e w5 ⟨rfl, r5, g5⟩
             have b5 := b3.trans (below_gb (Nat.le_refl _) hz3 g5))
          | (go_at_call 17; refine (awake_any _ (hT.below b5)).mono ?_; rintro e w6 ⟨rfl, b6⟩))
        go_ret
        exact ⟨rfl, b5.trans (b6.mono b5.size)⟩
      · have hde : decide (er ≠ 0) = true := decide_eq_true he
        rw [hde] at hbk r3
        have hp := push_broken w3 _ H ⟨#[120]⟩ r3
        have e0 : ((er : Int) != 0) = true := by simpa using he
        have e1 : ((er : Int) == 0) = false := by simpa using he
        clear r3 he hde
        go_wp2_with (first
          | (go_at_call 15; refine hh.mono ?_; rintro e w4 ⟨rfl, hw⟩; subst hw)
          | (go_at_call 16; refine hbk.mono ?_; rintro e w4 ⟨rfl, hw⟩; subst hw)
          | (go_at_call 11; refine hp.mono ?_; rintro e w5 ⟨rfl, hw⟩; subst hw)
          | (go_at_call 17; refine (awake_any _ (hT.below b3)).mono ?_; rintro e w6 ⟨rfl, b6⟩))
        go_ret
        exact ⟨rfl, b3.trans (b6.mono b3.size)⟩
end Go.Proofs.Fr
