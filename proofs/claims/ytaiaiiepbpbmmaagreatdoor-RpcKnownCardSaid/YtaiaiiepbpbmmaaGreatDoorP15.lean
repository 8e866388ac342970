/- RpcKnown: the walk. Printed by gen_p15.py. -/
import Derived.Test.YtaiaiiepbpbmmaaGreatDoorP15a
namespace Go.Proofs.Rp
open Go.RowKit Go.Maps Go.Lib Go.Proofs.Utf Go.Proofs.Jt Go.Proofs

set_option maxRecDepth 100000 in
set_option maxHeartbeats 16000000 in
theorem known_walk {w : World} (hT : Tabs w) (hE : ErrV w) (hTen : TenV w) (hWV : WordV w) : Calls Tryz.prog 10 #[] w fun e w' => e = .returned (.bool true) ∧ Below w.heap.size w w' := by
  obtain ⟨U1, hU1⟩ : ∃ V, w.alloc (.cells #[.int .i64 0, .int .i64 0, .string ⟨#[]⟩] 57) = V := ⟨_, rfl⟩
  have hz1 : U1.heap.size = w.heap.size + 1 := (by rw [← hU1]; simp)
  obtain ⟨V0, hV0⟩ : ∃ V, U1.alloc (.cells #[.int .i64 0, .int .i64 0, .string ⟨#[]⟩] 57) = V := ⟨_, rfl⟩
  have u1 := alloc_b hU1
  have v0 := alloc_b hV0
  have hne : w.heap.size ≠ w.heap.size + 1 := (by omega)
  have hmz := row_of hU1 V0 v0
  have hiz := row_of hV0 V0 (Below.refl _ _)
  rw [hz1] at hiz
  have b30 : Below w.heap.size w V0 := Below.on u1 v0
  have HT : Hid (∀ V, Below w.heap.size w V → Tabs V ∧ ErrV V ∧ TenV V ∧ WordV V) := Lib.hid fun V hV => ⟨hT.below hV, hE.below hV, hTen.below hV, hWV.below hV⟩
  have t1 : putB.toList = [123, 34, 106, 115, 111, 110, 114, 112, 99, 34, 58, 34, 50, 46, 48, 34, 44, 34, 105, 100, 34, 58, 34, 120, 34, 44, 34, 109, 101, 116, 104, 111, 100, 34, 58, 34, 109, 34, 44, 34, 112, 97, 114, 97, 109, 115, 34, 58, 91, 49, 93, 125] := by rw [ByteArray.toList_eq]; decide
  have t2 : failB.toList = [123, 34, 106, 115, 111, 110, 114, 112, 99, 34, 58, 34, 50, 46, 48, 34, 44, 34, 105, 100, 34, 58, 110, 117, 108, 108, 44, 34, 101, 114, 114, 111, 114, 34, 58, 123, 34, 99, 111, 100, 101, 34, 58, 45, 51, 50, 55, 48, 48, 44, 34, 109, 101, 115, 115, 97, 103, 101, 34, 58, 34, 112, 97, 114, 115, 101, 32, 101, 114, 114, 111, 114, 34, 125, 125] := by rw [ByteArray.toList_eq]; decide
  clear hT hE hTen hWV
  go_enter Tryz.func10, Tryz.ntmps10
  go_upto_region 2 with (first
    | (refine store_id rfl (.tmp 1) (.tmp 14) rfl w.heap.size rfl (.int .i64 0) (.int .i64 0) (.string ⟨#[]⟩) rfl rfl ⟨_, _, _, hmz⟩ (fun V1 hV1 hgV1 _ => ?_)
       have hiz1 := (hgV1.block (w.heap.size + 1) (Array.getElem?_eq_some_iff.1 hiz).1 (fun e => hne (Option.some.inj e).symm)).trans hiz
       have b31 := below_gbz b30 (Nat.le_refl _) hgV1)
    | (refine store_id rfl (.tmp 2) (.tmp 15) rfl (w.heap.size + 1) rfl (.int .i64 1) (.int .i64 1) (.string ⟨#[]⟩) rfl rfl ⟨_, _, _, hiz1⟩ (fun V2 hV2 hgV2 _ => ?_)
       have hm2 := (hgV2.block w.heap.size (Array.getElem?_eq_some_iff.1 hV1).1 (fun e => hne (Option.some.inj e))).trans hV1
       have b32 := below_gbz b31 (Nat.le_succ _) hgV2))
  have HN : Hid (∀ V, Below V2.heap.size V2 V → _) := Lib.hid fun V hV => And.intro (cells3 (((hV.block _ (Array.getElem?_eq_some_iff.1 hm2).1)).trans hm2)) (cells3 (((hV.block _ (Array.getElem?_eq_some_iff.1 hV2).1)).trans hV2))
  have HB2 := Lib.hid b32
  have hB : Below V2.heap.size V2 V2 := Below.refl _ _
  clear hmz hiz hiz1 hV1 hm2 hV2 b30 b31 b32
  obtain ⟨⟨n0, n1, n2, _⟩, m0, m1, m2, _⟩ := HN.out _ hB
  go_upto_region 6 with (first
    | (go_at_call 34; refine (works_any _ (HT.out _ (Below.on HB2.out hB)).1 (HT.out _ (Below.on HB2.out hB)).2.1 (HT.out _ (Below.on HB2.out hB)).2.2.1).mono ?_; rintro e wn ⟨rfl, hb⟩; replace hB := Below.on hB hb; clear hb n0 n1 n2 m0 m1 m2; obtain ⟨⟨n0, n1, n2, _⟩, m0, m1, m2, _⟩ := HN.out _ hB)
    | (go_at_call 49; refine (is_lit _ _ _ _ _ _ (HT.out _ (Below.on HB2.out hB)).1 (HT.out _ (Below.on HB2.out hB)).2.1 (by decide) (by decide +kernel)).mono ?_; rintro e wn ⟨rfl, hb⟩; replace hB := Below.on hB hb; clear hb n0 n1 n2 m0 m1 m2; obtain ⟨⟨n0, n1, n2, _⟩, m0, m1, m2, _⟩ := HN.out _ hB))
  clear n0 n1 n2 m0 m1 m2
  obtain ⟨G1, hG1⟩ : ∃ V, wn.alloc (.cells #[.int .i64 3, .string ⟨#[49]⟩, .slice none 0 0, .slice none 0 0] 25) = V := ⟨_, rfl⟩
  have hzG : G1.heap.size = wn.heap.size + 1 := (by rw [← hG1]; simp)
  obtain ⟨G2, hG2⟩ : ∃ V, G1.alloc (.cells #[.int .i64 0, .string ⟨#[]⟩, .slice none 0 0, .slice none 0 0] 25) = V := ⟨_, rfl⟩
  have g1 := alloc_b hG1
  have g2 := alloc_b hG2
  have hr1 := row_of hG1 G2 g2
  have hr2 : JBox G2 (wn.heap.size + 1) := by rw [← hG2, ← hzG]; exact JBox.alloc _ _ _ _ _
  have b40 := Below.on g1 g2
  have hBW := hB
  clear hB
  go_upto_region 7 with (first
    | (refine store_val rfl (.tmp 3) (.tmp 53) rfl (wn.heap.size + 1) rfl (.int .i64 5) (.string ⟨#[]⟩) (.slice none 0 0) (.slice (some ⟨wn.heap.size, 0, none⟩) 1 1) rfl rfl hr2 (fun V4 hV4 hgV4 _ => ?_)))
  have b41 := below_gbz b40 (Nat.le_succ _) hgV4
  have hr4 := (hgV4.block wn.heap.size (Array.getElem?_eq_some_iff.1 hr1).1 (fun e => by have := Option.some.inj e; omega)).trans hr1
  obtain ⟨p0, p1, p2, p3⟩ := cells4 hV4
  have hB4 := Below.on hBW b41
  have HB4 := Lib.hid (Below.on HB2.out hB4)
  have hki := arr1_ki hr4
  have h39 : Calls Tryz.prog 39 #[.agg #[.int .i64 1, .int .i64 2, .int .i64 0, .string ⟨#[120]⟩, .string ⟨#[109]⟩, .int .i64 5, .string ⟨#[]⟩, .slice none 0 0, .slice (some ⟨wn.heap.size, 0, none⟩) 1 1]] V4 fun e w' => e = .returned (.tuple #[.string putB, .int .i64 0]) ∧ Below V4.heap.size V4 w' :=
    putM_any 1 ⟨2, 0, [120]⟩ [109] arr1 ⟨#[120]⟩ ⟨#[109]⟩ ⟨#[]⟩ rfl rfl rfl (by decide) (by decide) (by decide) (by decide) (by decide) (HT.out _ HB4.out).1 (HT.out _ HB4.out).2.2.1 hki putB 0 put_lit
  clear hr1 hr2 hr4 hV4 hki g1 g2 b40 b41 hBW
  go_upto_region 8 with (first
    | (go_at_call 39; refine h39.mono ?_; rintro e w5 ⟨rfl, hb5⟩))
  have hB5 := Below.on hB4 hb5
  clear h39 p0 p1 p2 p3
  obtain ⟨⟨n0, n1, n2, _⟩, m0, m1, m2, _⟩ := HN.out _ hB5
  have b5 := Below.on HB2.out hB5
  have h45 : Calls Tryz.prog 45 #[.agg #[.int .i64 0, .int .i64 0, .string ⟨#[]⟩], .int .i64 (-32700), .agg #[.int .i64 0, .string ⟨#[]⟩, .slice none 0 0, .slice none 0 0]] w5 fun e w' => e = .returned (.tuple #[.string failB, .int .i64 0]) ∧ Below w5.heap.size w5 w' :=
    fail_any id0 ⟨#[]⟩ rfl (by decide) (by decide) (by decide) (-32700) (by decide) (by decide) _ rfl (fun V hV => words_any (-32700) _ rfl V (HT.out V (Below.on b5 hV)).2.2.2) (HT.out _ b5).1 (HT.out _ b5).2.2.1 (v := jn 0) (T := ⟨#[]⟩) (ki_leaf rfl rfl) (by decide) rfl failB 0 fail_lit
  go_upto_region 11 with (first
    | (go_at_call 45; refine h45.mono ?_; rintro e w6 ⟨rfl, hb6⟩))
  have hB6 := Below.on hB5 hb6
  have b6 := Below.on HB2.out hB6
  clear h45 n0 n1 n2 m0 m1 m2
  go_upto_region 12 with (first
    | (go_at_call 50; refine (seven_any _).mono ?_; rintro e w7 ⟨rfl, hb7⟩
       have b7 := Below.on b6 hb7
       have h45b : Calls Tryz.prog 45 #[.agg #[.int .i64 1, .int .i64 7, .string ⟨#[]⟩], .int .i64 5, .agg #[.int .i64 0, .string ⟨#[]⟩, .slice none 0 0, .slice none 0 0]] w7 fun e w' => e = .returned (.tuple #[.string ⟨#[]⟩, .int .i64 2]) ∧ Below w7.heap.size w7 w' :=
         fail_any id7 ⟨#[]⟩ rfl (by decide) (by decide) (by decide) 5 (by decide) (by decide) _ rfl (fun V hV => words_any 5 _ rfl V (HT.out V (Below.on b7 hV)).2.2.2) (HT.out _ b7).1 (HT.out _ b7).2.2.1 (v := jn 0) (T := ⟨#[]⟩) (ki_leaf rfl rfl) (by decide) rfl ⟨#[]⟩ 2 fail_bad)
    | (go_at_call 45; refine h45b.mono ?_; rintro e w8 ⟨rfl, hb8⟩))
  have hB8 := Below.on (Below.on hB6 hb7) hb8
  have b8 := Below.on HB2.out hB8
  clear h45b
  obtain ⟨⟨n0, n1, n2, _⟩, m0, m1, m2, _⟩ := HN.out _ hB8
  have h39b : Calls Tryz.prog 39 #[.agg #[.int .i64 3, .int .i64 1, .int .i64 1, .string ⟨#[]⟩, .string ⟨#[]⟩, .int .i64 0, .string ⟨#[]⟩, .slice none 0 0, .slice none 0 0]] w8 fun e w' => e = .returned (.tuple #[.string ⟨#[]⟩, .int .i64 2]) ∧ Below w8.heap.size w8 w' :=
    putM_any 3 ⟨1, 1, []⟩ [] (jn 0) ⟨#[]⟩ ⟨#[]⟩ ⟨#[]⟩ rfl rfl rfl (by decide) (by decide) (by decide) (by decide) (by decide) (HT.out _ b8).1 (HT.out _ b8).2.2.1 (ki_leaf rfl rfl) ⟨#[]⟩ 2 put_bad
  go_upto_region 13 with (first
    | (go_at_call 39; refine h39b.mono ?_; rintro e w9 ⟨rfl, hb9⟩))
  have b9 := Below.on b8 hb9
  clear h39b n0 n1 n2 m0 m1 m2
  have h43 : Calls Tryz.prog 43 #[.agg #[.int .i64 3, .int .i64 0, .string ⟨#[]⟩], .agg #[.int .i64 0, .string ⟨#[]⟩, .slice none 0 0, .slice none 0 0]] w9 fun e w' => e = .returned (.tuple #[.string ⟨#[]⟩, .int .i64 2]) ∧ Below w9.heap.size w9 w' :=
    result_any ⟨3, 0, []⟩ ⟨#[]⟩ rfl (by decide) (by decide) (by decide) (HT.out _ b9).1 (HT.out _ b9).2.2.1 (v := jn 0) (T := ⟨#[]⟩) (ki_leaf rfl rfl) (by decide) rfl ⟨#[]⟩ 2 res_bad
  go_upto_region 14 with (first
    | (go_at_call 43; refine h43.mono ?_; rintro e wa ⟨rfl, hba⟩))
  have ba := Below.on b9 hba
  clear h43
  go_wp2_with (first
    | (go_at_call 34; refine (works_any _ (HT.out _ ba).1 (HT.out _ ba).2.1 (HT.out _ ba).2.2.1).mono ?_; rintro e wb ⟨rfl, hbb⟩))
  go_ret
  exact ⟨rfl, Below.on ba hbb⟩
end Go.Proofs.Rp
