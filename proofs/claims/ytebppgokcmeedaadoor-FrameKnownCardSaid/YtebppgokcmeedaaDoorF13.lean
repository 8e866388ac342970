/- FrameKnown's walk. -/
import Derived.Test.YtebppgokcmeedaaDoorF12
import Derived.Lib.Repeat
namespace Go.Proofs.Fr
open Go.RowKit Go.Maps Go.Proofs Go.Lib

def repB (c : UInt8) (n : Nat) : ByteArray := ⟨(repeatL [c] n).toArray⟩
theorem next_s1 : nextV (⟨#[67, 111, 110, 116, 101, 110, 116, 45, 76, 101, 110, 103, 116, 104, 58, 32, 50, 13, 10, 13, 10, 104]⟩ : ByteArray).data.toList = ⟨[], false, 0, (⟨#[67, 111, 110, 116, 101, 110, 116, 45, 76, 101, 110, 103, 116, 104, 58, 32, 50, 13, 10, 13, 10, 104]⟩ : ByteArray).data.toList⟩ := by decide +kernel
theorem next_s2 : nextV (⟨#[67, 111, 110, 116, 101, 110, 116, 45, 76, 101, 110, 103, 116, 104, 58, 32, 50, 13, 10, 13, 10, 104, 105, 67]⟩ : ByteArray).data.toList = ⟨[104, 105], true, 0, [67]⟩ := by decide +kernel
theorem next_c : nextV (⟨#[67]⟩ : ByteArray).data.toList = ⟨[], false, 0, [67]⟩ := by decide +kernel
theorem next_s3 : nextV (⟨#[67, 79, 78, 84, 69, 78, 84, 45, 84, 89, 80, 69, 58, 32, 120, 13, 10, 99, 111, 110, 116, 101, 110, 116, 45, 108, 101, 110, 103, 116, 104, 58, 48, 48, 48, 50, 13, 10, 13, 10, 104, 105]⟩ : ByteArray).data.toList = ⟨[104, 105], true, 0, []⟩ := by decide +kernel
theorem join_s2 : (⟨#[67, 111, 110, 116, 101, 110, 116, 45, 76, 101, 110, 103, 116, 104, 58, 32, 50, 13, 10, 13, 10, 104]⟩ : ByteArray) ++ ⟨#[105, 67]⟩ = ⟨#[67, 111, 110, 116, 101, 110, 116, 45, 76, 101, 110, 103, 116, 104, 58, 32, 50, 13, 10, 13, 10, 104, 105, 67]⟩ := by decide +kernel
theorem bads_bad : ∀ S ∈ [(⟨#[13, 10, 13, 10]⟩ : ByteArray), (⟨#[67, 111, 110, 116, 101, 110, 116, 45, 76, 101, 110, 103, 116, 104, 58, 32, 50, 13, 10, 67, 111, 110, 116, 101, 110, 116, 45, 76, 101, 110, 103, 116, 104, 58, 32, 50, 13, 10, 13, 10]⟩ : ByteArray), (⟨#[67, 111, 110, 116, 101, 110, 116, 45, 84, 121, 112, 101, 58, 32, 120, 13, 10, 13, 10]⟩ : ByteArray), (⟨#[67, 111, 110, 116, 101, 110, 116, 45, 76, 101, 110, 103, 116, 104, 58, 32, 13, 10, 13, 10]⟩ : ByteArray), (⟨#[67, 111, 110, 116, 101, 110, 116, 45, 76, 101, 110, 103, 116, 104, 58, 32, 50, 32, 13, 10, 13, 10]⟩ : ByteArray), (⟨#[67, 111, 110, 116, 101, 110, 116, 45, 76, 101, 110, 103, 116, 104, 32, 50, 13, 10, 13, 10]⟩ : ByteArray), (⟨#[67, 111, 110, 116, 101, 110, 116, 45, 76, 101, 110, 103, 116, 104, 58, 32, 43, 50, 13, 10, 13, 10]⟩ : ByteArray), (⟨#[67, 111, 110, 116, 101, 110, 116, 45, 76, 101, 110, 103, 116, 104, 58, 32, 49, 50, 51, 52, 53, 54, 55, 56, 57, 48, 49, 50, 51, 52, 53, 54, 55, 56, 57, 13, 10, 13, 10]⟩ : ByteArray), (⟨#[67, 111, 110, 116, 101, 110, 116, 45, 76, 101, 110, 103, 116, 104, 58, 32, 50, 13, 10, 88, 58, 32, 121, 13, 10, 13, 10]⟩ : ByteArray), (⟨#[67, 111, 110, 116, 101, 110, 116, 45, 76, 101, 110, 103, 116, 104, 58, 32, 50, 13, 10, 67, 111, 110, 116, 101, 110, 116, 45, 84, 121, 112, 101, 58, 32, 127, 13, 10, 13, 10]⟩ : ByteArray), (⟨#[67, 111, 110, 116, 101, 110, 116, 45, 76, 101, 110, 103, 116, 104, 58, 32, 50, 10, 13, 10, 13, 10]⟩ : ByteArray)], Bad 4 S := by
  unfold Bad
  decide +kernel
set_option maxRecDepth 1000000 in
theorem bad_rep : Bad 4 (repB 97 1024) := by
  unfold Bad
  decide +kernel
theorem bad_long : Bad 3 ⟨#[67, 111, 110, 116, 101, 110, 116, 45, 76, 101, 110, 103, 116, 104, 58, 32, 50, 54, 50, 49, 52, 53, 13, 10, 13, 10]⟩ := by
  unfold Bad
  decide +kernel
set_option maxRecDepth 1000000 in
theorem next_most : nextV ((⟨#[67, 111, 110, 116, 101, 110, 116, 45, 76, 101, 110, 103, 116, 104, 58, 32, 48, 13, 10, 67, 111, 110, 116, 101, 110, 116, 45, 84, 121, 112, 101, 58]⟩ : ByteArray) ++ repB 120 988 ++ ⟨#[13, 10, 13, 10]⟩).data.toList = ⟨[], true, 0, []⟩ := by decide +kernel
theorem size_most : (repB 120 988).size = 988 := by decide +kernel
set_option maxRecDepth 1000000 in
theorem bad_more : Bad 4 ((⟨#[67, 111, 110, 116, 101, 110, 116, 45, 76, 101, 110, 103, 116, 104, 58, 32, 48, 13, 10, 67, 111, 110, 116, 101, 110, 116, 45, 84, 121, 112, 101, 58]⟩ : ByteArray) ++ repB 120 989 ++ ⟨#[13, 10, 13, 10]⟩) := by
  unfold Bad
  decide +kernel
theorem size_more : (repB 120 989).size = 989 := by decide +kernel
set_option maxRecDepth 1000000 in
theorem next_few : (nextV (repB 97 1023).data.toList).ok = false ∧ (nextV (repB 97 1023).data.toList).err = 0 := by decide +kernel
theorem put_hi : (⟨(putL (⟨#[104, 105]⟩ : ByteArray).data.toList).toArray⟩ : ByteArray) = ⟨#[67, 111, 110, 116, 101, 110, 116, 45, 76, 101, 110, 103, 116, 104, 58, 32, 50, 13, 10, 13, 10, 104, 105]⟩ := by decide +kernel
theorem repeat_any (c : UInt8) (n : Nat) (w : World) (hn : n ≤ 4000) : Calls Tryd.prog 22 #[.string ⟨#[c]⟩, .int .i64 (n : Int)] w fun e w' => e = .returned (.string (repB c n)) ∧ Below w.heap.size w w' :=
  Tryd.strings_Repeat ⟨#[c]⟩ n w (by omega) (by show 1 * n ≤ _; omega)
/-- the row of bad texts -/
theorem bads_at (w : World) (R : ByteArray) (hR : Bad 4 R) (k : Nat) (hk : k < 12) : ∃ S, (w.alloc (.cells #[Value.string ⟨#[13, 10, 13, 10]⟩, Value.string ⟨#[67, 111, 110, 116, 101, 110, 116, 45, 76, 101, 110, 103, 116, 104, 58, 32, 50, 13, 10, 67, 111, 110, 116, 101, 110, 116, 45, 76, 101, 110, 103, 116, 104, 58, 32, 50, 13, 10, 13, 10]⟩, Value.string ⟨#[67, 111, 110, 116, 101, 110, 116, 45, 84, 121, 112, 101, 58, 32, 120, 13, 10, 13, 10]⟩, Value.string ⟨#[67, 111, 110, 116, 101, 110, 116, 45, 76, 101, 110, 103, 116, 104, 58, 32, 13, 10, 13, 10]⟩, Value.string ⟨#[67, 111, 110, 116, 101, 110, 116, 45, 76, 101, 110, 103, 116, 104, 58, 32, 50, 32, 13, 10, 13, 10]⟩, Value.string ⟨#[67, 111, 110, 116, 101, 110, 116, 45, 76, 101, 110, 103, 116, 104, 32, 50, 13, 10, 13, 10]⟩, Value.string ⟨#[67, 111, 110, 116, 101, 110, 116, 45, 76, 101, 110, 103, 116, 104, 58, 32, 43, 50, 13, 10, 13, 10]⟩, Value.string ⟨#[67, 111, 110, 116, 101, 110, 116, 45, 76, 101, 110, 103, 116, 104, 58, 32, 49, 50, 51, 52, 53, 54, 55, 56, 57, 48, 49, 50, 51, 52, 53, 54, 55, 56, 57, 13, 10, 13, 10]⟩, Value.string ⟨#[67, 111, 110, 116, 101, 110, 116, 45, 76, 101, 110, 103, 116, 104, 58, 32, 50, 13, 10, 88, 58, 32, 121, 13, 10, 13, 10]⟩, Value.string ⟨#[67, 111, 110, 116, 101, 110, 116, 45, 76, 101, 110, 103, 116, 104, 58, 32, 50, 13, 10, 67, 111, 110, 116, 101, 110, 116, 45, 84, 121, 112, 101, 58, 32, 127, 13, 10, 13, 10]⟩, Value.string ⟨#[67, 111, 110, 116, 101, 110, 116, 45, 76, 101, 110, 103, 116, 104, 58, 32, 50, 10, 13, 10, 13, 10]⟩, Value.string R] 9)).cell? ⟨w.heap.size, k, none⟩ = some (.string S) ∧ Bad 4 S := by
  have hrow := alloc_new w (.cells #[Value.string ⟨#[13, 10, 13, 10]⟩, Value.string ⟨#[67, 111, 110, 116, 101, 110, 116, 45, 76, 101, 110, 103, 116, 104, 58, 32, 50, 13, 10, 67, 111, 110, 116, 101, 110, 116, 45, 76, 101, 110, 103, 116, 104, 58, 32, 50, 13, 10, 13, 10]⟩, Value.string ⟨#[67, 111, 110, 116, 101, 110, 116, 45, 84, 121, 112, 101, 58, 32, 120, 13, 10, 13, 10]⟩, Value.string ⟨#[67, 111, 110, 116, 101, 110, 116, 45, 76, 101, 110, 103, 116, 104, 58, 32, 13, 10, 13, 10]⟩, Value.string ⟨#[67, 111, 110, 116, 101, 110, 116, 45, 76, 101, 110, 103, 116, 104, 58, 32, 50, 32, 13, 10, 13, 10]⟩, Value.string ⟨#[67, 111, 110, 116, 101, 110, 116, 45, 76, 101, 110, 103, 116, 104, 32, 50, 13, 10, 13, 10]⟩, Value.string ⟨#[67, 111, 110, 116, 101, 110, 116, 45, 76, 101, 110, 103, 116, 104, 58, 32, 43, 50, 13, 10, 13, 10]⟩, Value.string ⟨#[67, 111, 110, 116, 101, 110, 116, 45, 76, 101, 110, 103, 116, 104, 58, 32, 49, 50, 51, 52, 53, 54, 55, 56, 57, 48, 49, 50, 51, 52, 53, 54, 55, 56, 57, 13, 10, 13, 10]⟩, Value.string ⟨#[67, 111, 110, 116, 101, 110, 116, 45, 76, 101, 110, 103, 116, 104, 58, 32, 50, 13, 10, 88, 58, 32, 121, 13, 10, 13, 10]⟩, Value.string ⟨#[67, 111, 110, 116, 101, 110, 116, 45, 76, 101, 110, 103, 116, 104, 58, 32, 50, 13, 10, 67, 111, 110, 116, 101, 110, 116, 45, 84, 121, 112, 101, 58, 32, 127, 13, 10, 13, 10]⟩, Value.string ⟨#[67, 111, 110, 116, 101, 110, 116, 45, 76, 101, 110, 103, 116, 104, 58, 32, 50, 10, 13, 10, 13, 10]⟩, Value.string R] 9) w.heap.size rfl
  rw [cell_of_row _ _ k _ _ _ hrow]
  have hb := bads_bad
  simp only [List.forall_mem_cons] at hb
  obtain ⟨h0, h1, h2, h3, h4, h5, h6, h7, h8, h9, h10, _⟩ := hb
  match k, hk with
  | 0, _ => exact ⟨_, rfl, h0⟩
  | 1, _ => exact ⟨_, rfl, h1⟩
  | 2, _ => exact ⟨_, rfl, h2⟩
  | 3, _ => exact ⟨_, rfl, h3⟩
  | 4, _ => exact ⟨_, rfl, h4⟩
  | 5, _ => exact ⟨_, rfl, h5⟩
  | 6, _ => exact ⟨_, rfl, h6⟩
  | 7, _ => exact ⟨_, rfl, h7⟩
  | 8, _ => exact ⟨_, rfl, h8⟩
  | 9, _ => exact ⟨_, rfl, h9⟩
  | 10, _ => exact ⟨_, rfl, h10⟩
  | 11, _ => exact ⟨_, rfl, hR⟩
set_option maxRecDepth 100000 in
set_option maxHeartbeats 4000000 in
theorem known_walk (w : World) (hT : MaxV w) (hTen : TenV w) : Calls Tryd.prog 8 #[] w fun e w' => e = .returned (.bool true) ∧ Below w.heap.size w w' := by
  have hlt := hT.lt
  have hput := put_any ⟨#[104, 105]⟩ w (by decide) hTen
  rw [put_hi] at hput
  have hd0 : decide ((0 : Nat) ≠ 0) = false := rfl
  have hn1 := fun w hw b hb r => next_any w hw b hb ⟨#[67, 111, 110, 116, 101, 110, 116, 45, 76, 101, 110, 103, 116, 104, 58, 32, 50, 13, 10, 13, 10, 104]⟩ (by decide) r
  rw [next_s1] at hn1
  simp only [nxVal, hd0] at hn1
  have hn2 := fun w hw b hb r => next_any w hw b hb ⟨#[67, 111, 110, 116, 101, 110, 116, 45, 76, 101, 110, 103, 116, 104, 58, 32, 50, 13, 10, 13, 10, 104, 105, 67]⟩ (by decide) r
  rw [next_s2] at hn2
  simp only [nxVal, hd0] at hn2
  have hnc := fun w hw b hb r => next_any w hw b hb ⟨#[67]⟩ (by decide) r
  rw [next_c] at hnc
  simp only [nxVal, hd0] at hnc
  have hn3 := fun w hw b hb r => next_any w hw b hb ⟨#[67, 79, 78, 84, 69, 78, 84, 45, 84, 89, 80, 69, 58, 32, 120, 13, 10, 99, 111, 110, 116, 101, 110, 116, 45, 108, 101, 110, 103, 116, 104, 58, 48, 48, 48, 50, 13, 10, 13, 10, 104, 105]⟩ (by decide) r
  rw [next_s3] at hn3
  simp only [nxVal, hd0] at hn3
  have hp1 := fun w b r => push_any w b ⟨#[]⟩ ⟨#[67, 111, 110, 116, 101, 110, 116, 45, 76, 101, 110, 103, 116, 104, 58, 32, 50, 13, 10, 13, 10, 104]⟩ r (by decide)
  have hp2 := fun w b r => push_any w b ⟨#[67, 111, 110, 116, 101, 110, 116, 45, 76, 101, 110, 103, 116, 104, 58, 32, 50, 13, 10, 13, 10, 104]⟩ ⟨#[105, 67]⟩ r (by decide)
  have hp3 := fun w b r => push_any w b ⟨#[]⟩ ⟨#[67, 79, 78, 84, 69, 78, 84, 45, 84, 89, 80, 69, 58, 32, 120, 13, 10, 99, 111, 110, 116, 101, 110, 116, 45, 108, 101, 110, 103, 116, 104, 58, 48, 48, 48, 50, 13, 10, 13, 10, 104, 105]⟩ r (by decide)
  simp only [empty_add, join_s2] at hp1 hp2 hp3
  have hrep := fun w => repeat_any 97 1024 w (by decide)
  obtain ⟨R, hR, hRb⟩ : ∃ R, repB 97 1024 = R ∧ Bad 4 R := ⟨_, rfl, bad_rep⟩
  rw [hR] at hrep
  clear hR hd0
  go_enter Tryd.func8, Tryd.ntmps8
  go_wp2_with (first
    | (go_at_call 22; refine (hrep _).mono ?_; rintro e w13 ⟨rfl, hb13⟩
       have b13 := b12.trans (hb13.mono b12.size)
       clear hb13 r12)
    | (go_at_call 15; refine (held_any _ _ _ _ r12).mono ?_; rintro e wx ⟨rfl, hw⟩; subst hw)
    | (go_at_call 13; refine (hn3 _ (hT.below b11) _ (by have := b9.size; omega) q11).mono ?_; rintro e w12 ⟨rfl, q12, g12⟩
       have b12 := b11.trans (below_gb (by have := b9.size; omega) b11.size g12)
       have r12 := r11.kept g12 (by intro e; have := Option.some.inj e; have := r9.lt; omega)
       clear g12 r11 q11 q12)
    | (go_at_call 11; refine (hp3 _ _ q10).mono ?_; rintro e w11 ⟨rfl, q11, g11⟩
       have b11 := b10.trans (below_gb (by have := b9.size; omega) b10.size g11)
       have r11 := r10.kept g11 (by intro e; have := Option.some.inj e; have := r9.lt; omega)
       clear g11 r10 q10)
    | (go_at_call 9; refine (new_any _).mono ?_; rintro e w10 ⟨rfl, hw10⟩
       have q10 : RD w10 w9.heap.size ⟨#[]⟩ false := (by rw [hw10]; exact RD.new w9)
       have b910 : Below w9.heap.size w9 w10 := (by rw [hw10]; exact (Below.refl _ _).alloc (Nat.le_refl _) _)
       have r10 := r9.below b910
       have b10 := b9.trans (b910.mono b9.size)
       clear hw10 b910)
    | (go_at_call 13; refine (hnc _ (hT.below b8) _ (by have := b1.size; omega) r8).mono ?_; rintro e w9 ⟨rfl, r9, g9⟩
       have b9 := b8.trans (below_gb b1.size b8.size g9)
       clear g9 r8)
    | (go_at_call 13; refine (hn2 _ (hT.below b7) _ (by have := b1.size; omega) r7).mono ?_; rintro e w8 ⟨rfl, r8, g8⟩
       have b8 := b7.trans (below_gb b1.size b7.size g8)
       clear g8 r7)
    | (go_at_call 11; refine (hp2 _ _ r6).mono ?_; rintro e w7 ⟨rfl, r7, g7⟩
       have b7 := b6.trans (below_gb b1.size b6.size g7)
       clear g7 r6)
    | (go_at_call 13; refine (hn1 _ (hT.below b5) _ (by have := b1.size; omega) r5).mono ?_; rintro e w6 ⟨rfl, r6, g6⟩
       have b6 := b5.trans (below_gb b1.size b5.size g6)
       clear g6 r5)
    | (go_at_call 11; refine (hp1 _ _ r4).mono ?_; rintro e w5 ⟨rfl, r5, g5⟩
       have b5 := b4.trans (below_gb b1.size b4.size g5)
       clear g5 r4)
    | (go_at_call 9; refine (new_any _).mono ?_; rintro e w4 ⟨rfl, hw4⟩
       have r4 : RD w4 w1.heap.size ⟨#[]⟩ false := (by rw [hw4]; exact RD.new w1)
       have b4 : Below w.heap.size w w4 := (by rw [hw4]; exact b1.trans ((Below.refl w1.heap.size w1).alloc (Nat.le_refl _) _ |>.mono b1.size))
       clear hw4)
    | (go_at_call 20; refine hput.mono ?_; rintro e w1 ⟨rfl, b1⟩))
  have hbads := bads_at w13 R hRb
  have bA : Below w.heap.size w (w13.alloc (.cells #[Value.string ⟨#[13, 10, 13, 10]⟩, Value.string ⟨#[67, 111, 110, 116, 101, 110, 116, 45, 76, 101, 110, 103, 116, 104, 58, 32, 50, 13, 10, 67, 111, 110, 116, 101, 110, 116, 45, 76, 101, 110, 103, 116, 104, 58, 32, 50, 13, 10, 13, 10]⟩, Value.string ⟨#[67, 111, 110, 116, 101, 110, 116, 45, 84, 121, 112, 101, 58, 32, 120, 13, 10, 13, 10]⟩, Value.string ⟨#[67, 111, 110, 116, 101, 110, 116, 45, 76, 101, 110, 103, 116, 104, 58, 32, 13, 10, 13, 10]⟩, Value.string ⟨#[67, 111, 110, 116, 101, 110, 116, 45, 76, 101, 110, 103, 116, 104, 58, 32, 50, 32, 13, 10, 13, 10]⟩, Value.string ⟨#[67, 111, 110, 116, 101, 110, 116, 45, 76, 101, 110, 103, 116, 104, 32, 50, 13, 10, 13, 10]⟩, Value.string ⟨#[67, 111, 110, 116, 101, 110, 116, 45, 76, 101, 110, 103, 116, 104, 58, 32, 43, 50, 13, 10, 13, 10]⟩, Value.string ⟨#[67, 111, 110, 116, 101, 110, 116, 45, 76, 101, 110, 103, 116, 104, 58, 32, 49, 50, 51, 52, 53, 54, 55, 56, 57, 48, 49, 50, 51, 52, 53, 54, 55, 56, 57, 13, 10, 13, 10]⟩, Value.string ⟨#[67, 111, 110, 116, 101, 110, 116, 45, 76, 101, 110, 103, 116, 104, 58, 32, 50, 13, 10, 88, 58, 32, 121, 13, 10, 13, 10]⟩, Value.string ⟨#[67, 111, 110, 116, 101, 110, 116, 45, 76, 101, 110, 103, 116, 104, 58, 32, 50, 13, 10, 67, 111, 110, 116, 101, 110, 116, 45, 84, 121, 112, 101, 58, 32, 127, 13, 10, 13, 10]⟩, Value.string ⟨#[67, 111, 110, 116, 101, 110, 116, 45, 76, 101, 110, 103, 116, 104, 58, 32, 50, 10, 13, 10, 13, 10]⟩, Value.string R] 9)) := b13.trans ((Below.refl w13.heap.size w13).alloc (Nat.le_refl _) _ |>.mono b13.size)
  have hzA : w13.heap.size < (w13.alloc (.cells #[Value.string ⟨#[13, 10, 13, 10]⟩, Value.string ⟨#[67, 111, 110, 116, 101, 110, 116, 45, 76, 101, 110, 103, 116, 104, 58, 32, 50, 13, 10, 67, 111, 110, 116, 101, 110, 116, 45, 76, 101, 110, 103, 116, 104, 58, 32, 50, 13, 10, 13, 10]⟩, Value.string ⟨#[67, 111, 110, 116, 101, 110, 116, 45, 84, 121, 112, 101, 58, 32, 120, 13, 10, 13, 10]⟩, Value.string ⟨#[67, 111, 110, 116, 101, 110, 116, 45, 76, 101, 110, 103, 116, 104, 58, 32, 13, 10, 13, 10]⟩, Value.string ⟨#[67, 111, 110, 116, 101, 110, 116, 45, 76, 101, 110, 103, 116, 104, 58, 32, 50, 32, 13, 10, 13, 10]⟩, Value.string ⟨#[67, 111, 110, 116, 101, 110, 116, 45, 76, 101, 110, 103, 116, 104, 32, 50, 13, 10, 13, 10]⟩, Value.string ⟨#[67, 111, 110, 116, 101, 110, 116, 45, 76, 101, 110, 103, 116, 104, 58, 32, 43, 50, 13, 10, 13, 10]⟩, Value.string ⟨#[67, 111, 110, 116, 101, 110, 116, 45, 76, 101, 110, 103, 116, 104, 58, 32, 49, 50, 51, 52, 53, 54, 55, 56, 57, 48, 49, 50, 51, 52, 53, 54, 55, 56, 57, 13, 10, 13, 10]⟩, Value.string ⟨#[67, 111, 110, 116, 101, 110, 116, 45, 76, 101, 110, 103, 116, 104, 58, 32, 50, 13, 10, 88, 58, 32, 121, 13, 10, 13, 10]⟩, Value.string ⟨#[67, 111, 110, 116, 101, 110, 116, 45, 76, 101, 110, 103, 116, 104, 58, 32, 50, 13, 10, 67, 111, 110, 116, 101, 110, 116, 45, 84, 121, 112, 101, 58, 32, 127, 13, 10, 13, 10]⟩, Value.string ⟨#[67, 111, 110, 116, 101, 110, 116, 45, 76, 101, 110, 103, 116, 104, 58, 32, 50, 10, 13, 10, 13, 10]⟩, Value.string R] 9)).heap.size := by simp
  generalize w13.alloc (.cells #[Value.string ⟨#[13, 10, 13, 10]⟩, Value.string ⟨#[67, 111, 110, 116, 101, 110, 116, 45, 76, 101, 110, 103, 116, 104, 58, 32, 50, 13, 10, 67, 111, 110, 116, 101, 110, 116, 45, 76, 101, 110, 103, 116, 104, 58, 32, 50, 13, 10, 13, 10]⟩, Value.string ⟨#[67, 111, 110, 116, 101, 110, 116, 45, 84, 121, 112, 101, 58, 32, 120, 13, 10, 13, 10]⟩, Value.string ⟨#[67, 111, 110, 116, 101, 110, 116, 45, 76, 101, 110, 103, 116, 104, 58, 32, 13, 10, 13, 10]⟩, Value.string ⟨#[67, 111, 110, 116, 101, 110, 116, 45, 76, 101, 110, 103, 116, 104, 58, 32, 50, 32, 13, 10, 13, 10]⟩, Value.string ⟨#[67, 111, 110, 116, 101, 110, 116, 45, 76, 101, 110, 103, 116, 104, 32, 50, 13, 10, 13, 10]⟩, Value.string ⟨#[67, 111, 110, 116, 101, 110, 116, 45, 76, 101, 110, 103, 116, 104, 58, 32, 43, 50, 13, 10, 13, 10]⟩, Value.string ⟨#[67, 111, 110, 116, 101, 110, 116, 45, 76, 101, 110, 103, 116, 104, 58, 32, 49, 50, 51, 52, 53, 54, 55, 56, 57, 48, 49, 50, 51, 52, 53, 54, 55, 56, 57, 13, 10, 13, 10]⟩, Value.string ⟨#[67, 111, 110, 116, 101, 110, 116, 45, 76, 101, 110, 103, 116, 104, 58, 32, 50, 13, 10, 88, 58, 32, 121, 13, 10, 13, 10]⟩, Value.string ⟨#[67, 111, 110, 116, 101, 110, 116, 45, 76, 101, 110, 103, 116, 104, 58, 32, 50, 13, 10, 67, 111, 110, 116, 101, 110, 116, 45, 84, 121, 112, 101, 58, 32, 127, 13, 10, 13, 10]⟩, Value.string ⟨#[67, 111, 110, 116, 101, 110, 116, 45, 76, 101, 110, 103, 116, 104, 58, 32, 50, 10, 13, 10, 13, 10]⟩, Value.string R] 9) = A at hbads bA hzA ⊢
  have HB := Lib.hid hbads
  clear hbads hn1 hn2 hnc hn3 hp1 hp2 hp3 hput
  go_loopw [16] (fun v wx => ∃ k : Nat, v = .int .i64 k ∧ k ≤ 12 ∧ Below A.heap.size A wx) (fun v _ => 12 - (RowKit.intOf v).toNat)
  case atStart => exact ⟨0, rfl, Nat.zero_le _, Below.refl _ _⟩
  case round =>
    obtain ⟨k, rfl, hk, hB⟩ := hrel
    by_cases hlt2 : (k : Int) < 12
    · obtain ⟨S, hc, hS⟩ := HB.out k (by omega)
      have hc1 := (hB.cell (p := ⟨w13.heap.size, k, none⟩) hzA).trans hc
      have hbr := fun w hw => breaks_any w hw S 4 (by decide) hS
      clear hc
      go_wp2_with (first
        | (go_at_call 23; refine (hbr _ (hT.below (bA.trans (hB.mono bA.size)))).mono ?_; rintro e w14 ⟨rfl, hb14⟩))
      go_roundw
      case rel => exact ⟨k + 1, by go_num, by omega, hB.trans (hb14.mono hB.size)⟩
      case measure => simp [RowKit.intOf]; omega
    · obtain ⟨V, rfl⟩ : ∃ V, V = wr := ⟨_, rfl⟩
      have bV : Below w.heap.size w V := bA.trans (hB.mono bA.size)
      have mV := hT.below bV
      have hd0 : decide ((0 : Nat) ≠ 0) = false := rfl
      obtain ⟨R1, hR1, hs1⟩ : ∃ R1, repB 120 988 = R1 ∧ R1.size = 988 := ⟨_, rfl, size_most⟩
      obtain ⟨R2, hR2, hs2⟩ : ∃ R2, repB 120 989 = R2 ∧ R2.size = 989 := ⟨_, rfl, size_more⟩
      obtain ⟨R3, hR3⟩ : ∃ R3, repB 97 1023 = R3 := ⟨_, rfl⟩
      have hr1 := fun w => repeat_any 120 988 w (by decide)
      have hr2 := fun w => repeat_any 120 989 w (by decide)
      have hr3 := fun w => repeat_any 97 1023 w (by decide)
      have hm := next_most
      have hbm := bad_more
      have hnf := next_few
      rw [hR1] at hr1 hm
      rw [hR2] at hr2 hbm
      rw [hR3] at hr3 hnf
      have hs3 : R3.size = 1023 := by rw [← hR3]; decide +kernel
      obtain ⟨M, hM⟩ : ∃ M : ByteArray, (⟨#[67, 111, 110, 116, 101, 110, 116, 45, 76, 101, 110, 103, 116, 104, 58, 32, 48, 13, 10, 67, 111, 110, 116, 101, 110, 116, 45, 84, 121, 112, 101, 58]⟩ : ByteArray) ++ R1 ++ ⟨#[13, 10, 13, 10]⟩ = M := ⟨_, rfl⟩
      obtain ⟨M2, hM2⟩ : ∃ M2 : ByteArray, (⟨#[67, 111, 110, 116, 101, 110, 116, 45, 76, 101, 110, 103, 116, 104, 58, 32, 48, 13, 10, 67, 111, 110, 116, 101, 110, 116, 45, 84, 121, 112, 101, 58]⟩ : ByteArray) ++ R2 ++ ⟨#[13, 10, 13, 10]⟩ = M2 := ⟨_, rfl⟩
      have hMs : M.size ≤ 2000 := by
        rw [← hM, ByteArray.size_append, ByteArray.size_append, hs1]
        decide
      rw [hM] at hm
      rw [hM2] at hbm
      have hpm := fun w b r => push_any w b ⟨#[]⟩ M r (by rw [size_mk']; simp only [List.length_nil]; omega)
      have hnm := fun w hw b hb r => next_any w hw b hb M (by omega) r
      rw [hm] at hnm
      have hpf := fun w b r => push_any w b ⟨#[]⟩ R3 r (by rw [size_mk']; simp only [List.length_nil]; omega)
      have hnf2 := fun w hw b hb r => next_any w hw b hb R3 (by omega) r
      simp only [nxVal, hnf.1, hnf.2] at hnf2
      rw [(next_held _ hnf.1).2] at hnf2
      simp only [nxVal, hd0] at hnm
      simp only [empty_add] at hpm hpf
      have hlong := fun w hw => breaks_any w hw _ 3 (by decide) bad_long
      have hmore := fun w hw => breaks_any w hw _ 4 (by decide) hbm
      clear b1 b4 b5 b6 b7 b8 b9 b10 b11 b12
      clear hm hbm hnf hR1 hR2 hR3 HB hB hd0
      go_wp2_with (first
        | (go_at_call 17; refine (awake_any _ (hT.below b12)).mono ?_; rintro e wZ ⟨rfl, bZ⟩)
        | (go_at_call 16; refine (broken_made _ _ e12).mono ?_; rintro e wx ⟨rfl, hw⟩; subst hw)
        | (have GU := b12; clear GU; go_at_call 15; refine (held_nil _).mono ?_; rintro e wx ⟨rfl, hw⟩; subst hw)
        | (have GU := b12; clear GU; go_at_call 11; (with_reducible show Calls _ _ #[Value.pointer none, _] _ _); refine (push_nil _ _).mono ?_; rintro e wx ⟨rfl, hw⟩; subst hw)
        | (go_at_call 11; refine (push_made _ _ _ e12).mono ?_; rintro e wx ⟨rfl, hw⟩; subst hw)
        | (have GU := b11; clear GU; go_at_call 23; refine (hmore _ (hT.below b11)).mono ?_; rintro e y12 ⟨rfl, hb12⟩
           have b12 := b11.trans (hb12.mono b11.size)
           have e12 := e11.below hb12
           clear hb12 e11)
        | (have GU := b10; clear GU; go_at_call 22; refine (hr2 _).mono ?_; rintro e y11 ⟨rfl, hb11⟩
           have b11 := b10.trans (hb11.mono b10.size)
           have e11 := e10.below hb11
           clear hb11 e10)
        | (have GU := b9; clear GU; go_at_call 23; refine (hlong _ (hT.below b9)).mono ?_; rintro e y10 ⟨rfl, hb10⟩
           have b10 := b9.trans (hb10.mono b9.size)
           have e10 := e9.below hb10
           clear hb10 e9)
        | (have GU := b7; clear GU; go_at_call 13; refine (next_nil _).mono ?_; rintro e y9 ⟨rfl, hb9⟩
           have e8 : RE (y7.alloc (.cells #[.string ⟨#[]⟩, .bool false, .bool false] 54)) y7.heap.size := alloc_new _ _ _ rfl
           have b9 := (b7.trans ((Below.refl y7.heap.size y7).alloc (Nat.le_refl _) (.cells #[.string ⟨#[]⟩, .bool false, .bool false] 54) |>.mono b7.size)).trans (hb9.mono (by have := b7.size; simp; omega))
           have e9 := e8.below hb9
           clear hb9 e8)
        | (go_at_call 13; refine (hnf2 _ (hT.below b6) _ (by omega) r6).mono ?_; rintro e y7 ⟨rfl, r7, g7⟩
           have b7 := b6.trans (below_gb (by omega) b6.size g7)
           clear g7 r6 r7)
        | (go_at_call 11; refine (hpf _ _ r5).mono ?_; rintro e y6 ⟨rfl, r6, g6⟩
           have b6 := b5.trans (below_gb (by omega) b5.size g6)
           clear g6 r5)
        | (have GU := b4; clear GU; go_at_call 22; refine (hr3 _).mono ?_; rintro e y5 ⟨rfl, hb5⟩
           have b5 := b4.trans (hb5.mono b4.size)
           have r5 := r4.below hb5
           clear hb5 r4)
        | (have GU := b3; clear GU; go_at_call 9; refine (new_any _).mono ?_; rintro e y4 ⟨rfl, hy4⟩
           have z3 : w.heap.size ≤ y3.heap.size := b3.size
           have r4 : RD y4 y3.heap.size ⟨#[]⟩ false := (by rw [hy4]; exact RD.new y3)
           have b4 : Below w.heap.size w y4 := (by rw [hy4]; exact b3.trans ((Below.refl y3.heap.size y3).alloc (Nat.le_refl _) _ |>.mono b3.size))
           clear hy4)
        | (go_at_call 13; refine (hnm _ (hT.below b2) _ (by omega) r2).mono ?_; rintro e y3 ⟨rfl, r3, g3⟩
           have b3 := b2.trans (below_gb (by omega) b2.size g3)
           clear g3 r2 r3)
        | (go_at_call 11; refine (hpm _ _ r1).mono ?_; rintro e y2 ⟨rfl, r2, g2⟩
           have b2 := b1.trans (below_gb (by omega) b1.size g2)
           clear g2 r1)
        | (have GU := b0; clear GU; go_at_call 22; refine (hr1 _).mono ?_; rintro e y1 ⟨rfl, hb1⟩
           have b1 := b0.trans (hb1.mono b0.size)
           have r1 := r0.below hb1
           clear hb1 r0)
        | (go_at_call 9; refine (new_any _).mono ?_; rintro e y0 ⟨rfl, hy0⟩
           have zV : w.heap.size ≤ V.heap.size := bV.size
           have r0 : RD y0 V.heap.size ⟨#[]⟩ false := (by rw [hy0]; exact RD.new V)
           have b0 : Below w.heap.size w y0 := (by rw [hy0]; exact bV.trans ((Below.refl V.heap.size V).alloc (Nat.le_refl _) _ |>.mono bV.size))
           clear hy0))
      go_ret
      exact ⟨rfl, b12.trans (bZ.mono b12.size)⟩
end Go.Proofs.Fr
