/- RpcReplies: the law's their; the walk. Printed by gen_q6.py. -/
import Derived.Test.YtaiaiiepbpbmmaaGreatDoorQ5
import Derived.Test.YtaiaiiepbpbmmaaGreatDoorP11
import Derived.Test.YtaiaiiepbpbmmaaGreatDoorQT
namespace Go.Proofs.Rp
open Go.RowKit Go.Maps Go.Lib Go.Proofs.Utf Go.Proofs.Jt Go.Proofs

set_option maxRecDepth 100000 in
set_option maxHeartbeats 16000000 in
theorem replies_walk {w : World} (i : IdV) (I : ByteArray) (hI : (⟨i.s.toArray⟩ : ByteArray) = I) (hi0 : -9223372036854775808 ≤ i.n) (hi1 : i.n ≤ 9223372036854775807)
 (c : Int) (hc0 : -9223372036854775808 ≤ c) (hc1 : c ≤ 9223372036854775807) {v : JV} {T : ByteArray} (hT2 : (⟨v.str.toArray⟩ : ByteArray) = T) (hpl : v.str.length ≤ maxLen) {kp ip : Option Addr} {kc ic : Nat} (hT : Tabs w) (hE : ErrV w) (hTen : TenV w) (hWV : WordV w) (hK : KI w v kp kc ip ic) :
 Calls Tryz.prog 8 #[.agg #[.int .i64 i.k, .int .i64 i.n, .string I], .agg #[.int .i64 v.kind, .string T, .slice kp v.keys.length kc, .slice ip v.items.length ic], .int .i64 c] w fun e w' => e = .returned (.bool true) ∧ Below w.heap.size w w' := by
 obtain ⟨W1, hW1⟩ : ∃ W, w.alloc (.cells #[.int .i64 i.k, .int .i64 i.n, .string I] 57) = W := ⟨_, rfl⟩
 obtain ⟨W, hW⟩ : ∃ W, W1.alloc (.cells #[.int .i64 v.kind, .string T, .slice kp v.keys.length kc, .slice ip v.items.length ic] 25) = W := ⟨_, rfl⟩
 have bW1 := alloc_b hW1
 have bW2 := alloc_b hW
 have bW := Below.on bW1 bW2
 have hz1 : W1.heap.size = w.heap.size + 1 := by rw [← hW1]; simp
 have hzW : W.heap.size = w.heap.size + 2 := by rw [← hW]; simp; omega
 have hbi : ∀ V, Below W.heap.size W V → _ := fun V hV => cells3 (row_of hW1 V (Below.on bW2 hV))
 have hbv := box_of hW
 rw [hz1] at hbv
 have HI := Lib.hid hbi
 have HV := Lib.hid hbv
 have HT : Hid (∀ V, Below W.heap.size W V → Tabs V ∧ ErrV V ∧ TenV V ∧ WordV V) := Lib.hid fun V hV => ⟨hT.below (Below.on bW hV), hE.below (Below.on bW hV), hTen.below (Below.on bW hV), hWV.below (Below.on bW hV)⟩
 have HK : Hid (∀ V, Below W.heap.size W V → KI V v kp kc ip ic) := Lib.hid fun V hV => hK.stay (Below.on bW hV)
 have HBW := Lib.hid bW
 have hfew := few38_any (HK.out W (Below.refl _ _)) hpl hT2
 subst hW1
 obtain ⟨x0, x1, x2, _⟩ := hbi W (Below.refl _ _)
 obtain ⟨d0, d1, d2, d3⟩ := hbv W (Below.refl _ _)
 have HS := Lib.hid (And.intro hI hT2)
 have HBD := Lib.hid (And.intro hi0 (And.intro hi1 (And.intro hc0 hc1)))
 have his : i.s.length = I.size := by rw [← hI, arr_size]
 clear hI hT2 hi0 hi1 hc0 hc1 hT hE hTen hWV hK bW bW1 bW2 hbi hbv hz1 hzW
 by_cases hf : 0 < v.sz 1500
 · rw [decide_eq_true hf] at hfew
   have hpw := few_wt hf
   clear hf
   by_cases hIb : 1500 < I.size
   · clear his hpw hpl
     go_enter Tryz.func8, Tryz.ntmps8
     go_wp2_with (first
      | (go_at_call 38; refine (hfew _ (Below.refl _ _)).mono ?_; rintro e w1 ⟨rfl, hb1⟩; clear x0 x1 x2 d0 d1 d2 d3; obtain ⟨x0, x1, x2, _⟩ := HI.out w1 hb1; obtain ⟨d0, d1, d2, d3⟩ := HV.out w1 hb1)
      | (go_at_call 34; refine (works_any _ (HT.out _ hb1).1 (HT.out _ hb1).2.1 (HT.out _ hb1).2.2.1).mono ?_; rintro e w9 ⟨rfl, hb9⟩))
     go_ret
     exact ⟨rfl, Below.on HBW.out (Below.on hb1 hb9)⟩
   · obtain ⟨A, ea, hra⟩ : ∃ (X : ByteArray) (n : Nat), resV i v = (X.data.toList, n) := ⟨⟨(resV i v).1.toArray⟩, (resV i v).2, by simp⟩
     obtain ⟨C, g, hrc⟩ : ∃ (X : ByteArray) (n : Nat), failV i c v = (X.data.toList, n) := ⟨⟨(failV i c v).1.toArray⟩, (failV i c v).2, by simp⟩
     obtain ⟨WB, hWB⟩ : ∃ B : ByteArray, (⟨(wordsV c).toArray⟩ : ByteArray) = B := ⟨_, rfl⟩
     have HW : Hid (i.s.length ≤ 1500 ∧ v.wt ≤ 1500 ∧ v.str.length ≤ maxLen) := Lib.hid ⟨by omega, by omega, hpl⟩
     have HR := Lib.hid (And.intro hra (And.intro hrc hWB))
     have hcp := copy_is (HK.out W (Below.refl _ _)) (by omega) hpl HS.out.2
     clear his hpw hra hrc hWB hpl
     go_enter Tryz.func8, Tryz.ntmps8
     go_upto_region 4 with (first
      | (go_at_call 38; refine (hfew _ (Below.refl _ _)).mono ?_; rintro e w1 ⟨rfl, hb1⟩; clear x0 x1 x2 d0 d1 d2 d3; obtain ⟨x0, x1, x2, _⟩ := HI.out w1 hb1; obtain ⟨d0, d1, d2, d3⟩ := HV.out w1 hb1)
      | (go_at_call 16; refine (hcp _ hb1).mono ?_; rintro e w2 ⟨kq, kd, iq, id, rfl, hkq, hb2⟩
         obtain ⟨W3, hW3⟩ : ∃ V, w2.alloc (.cells #[.int .i64 0, .string ⟨#[]⟩, .slice none 0 0, .slice none 0 0] 25) = V := ⟨_, rfl⟩
         have bW3 := alloc_b hW3
         have hj3 : JBox W3 w2.heap.size := (by rw [← hW3]; exact JBox.alloc _ _ _ _ _)
         have HJ3 := Lib.hid hj3
         clear hj3)
      | (refine store_val rfl (.tmp 7) (.tmp 27) rfl w2.heap.size rfl (.int .i64 v.kind) (.string T) (.slice kq v.keys.length kd) (.slice iq v.items.length id) rfl rfl HJ3.out (fun V3 hx3 hg3 _ => ?_)))
     obtain ⟨zp, hzp⟩ : ∃ z, w2.heap.size = z := ⟨_, rfl⟩
     rw [hzp] at hx3 hg3 ⊢
     have hb12 := Below.on hb1 hb2
     have b3 : Below W.heap.size W V3 := below_gbz (Below.on hb12 bW3) (by have := hb12.size; omega) hg3
     have hkq3 : KI V3 v kq kd iq id := hkq.ki.stay (below_gbz bW3 (by omega) hg3)
     have HKQ : Hid (∀ V, Below V3.heap.size V3 V → KI V v kq kd iq id) := Lib.hid fun V hV => hkq3.stay hV
     have HXP : Hid (∀ V, Below V3.heap.size V3 V → _) := Lib.hid fun V hV => cells4 ((hV.block _ (ltS hx3)).trans hx3)
     have hvl := HW.out.2.2
     have hA := result_any i I HS.out.1 HBD.out.1 HBD.out.2.1 (by have := HW.out; omega) (HT.out V3 b3).1 (HT.out V3 b3).2.2.1 (HK.out V3 b3) (by have := HW.out; omega) HS.out.2 A ea HR.out.1
     clear hkq hkq3 hb2 hb12 bW3 hx3 hg3 hW3 hcp hfew hb1 hzp
     clear x0 x1 x2 d0 d1 d2 d3
     obtain ⟨x0, x1, x2, _⟩ := HI.out V3 b3
     obtain ⟨d0, d1, d2, d3⟩ := HV.out V3 b3
     go_upto_region 5 with (first
      | (go_at_call 43; refine hA.mono ?_; rintro e w4 ⟨rfl, hb4⟩))
     have HS8 : Hid (∀ V, Below V3.heap.size V3 V → (V.cell? ⟨w.heap.size, 0, none⟩ = some (.int .i64 i.k) ∧ V.cell? ⟨w.heap.size, 1, none⟩ = some (.int .i64 i.n) ∧ V.cell? ⟨w.heap.size, 2, none⟩ = some (.string I) ∧ V.cell? ⟨w.heap.size + 1, 0, none⟩ = some (.int .i64 v.kind) ∧ V.cell? ⟨w.heap.size + 1, 1, none⟩ = some (.string T) ∧ V.cell? ⟨w.heap.size + 1, 2, none⟩ = some (.slice kp v.keys.length kc) ∧ V.cell? ⟨w.heap.size + 1, 3, none⟩ = some (.slice ip v.items.length ic) ∧ V.cell? ⟨zp, 0, none⟩ = some (.int .i64 v.kind) ∧ V.cell? ⟨zp, 1, none⟩ = some (.string T) ∧ V.cell? ⟨zp, 2, none⟩ = some (.slice kq v.keys.length kd) ∧ V.cell? ⟨zp, 3, none⟩ = some (.slice iq v.items.length id))) := Lib.hid fun V hV => by
      obtain ⟨a0, a1, a2, _⟩ := HI.out V (Below.on b3 hV)
      obtain ⟨a3, a4, a5, a6⟩ := HV.out V (Below.on b3 hV)
      obtain ⟨a7, a8, a9, aa⟩ := HXP.out V hV
      exact ⟨a0, a1, a2, a3, a4, a5, a6, a7, a8, a9, aa⟩
     clear hA x0 x1 x2 d0 d1 d2 d3
     have HD := HS8.out _ hb4.drew
     have hb0 : Below V3.heap.size V3 w4.drew := hb4.drew
     clear hb4
     go_region_held3 (fun V => V.cell? ⟨w.heap.size, 0, none⟩ = some (.int .i64 i.k) ∧ V.cell? ⟨w.heap.size, 1, none⟩ = some (.int .i64 i.n) ∧ V.cell? ⟨w.heap.size, 2, none⟩ = some (.string I) ∧ V.cell? ⟨w.heap.size + 1, 0, none⟩ = some (.int .i64 v.kind) ∧ V.cell? ⟨w.heap.size + 1, 1, none⟩ = some (.string T) ∧ V.cell? ⟨w.heap.size + 1, 2, none⟩ = some (.slice kp v.keys.length kc) ∧ V.cell? ⟨w.heap.size + 1, 3, none⟩ = some (.slice ip v.items.length ic) ∧ V.cell? ⟨zp, 0, none⟩ = some (.int .i64 v.kind) ∧ V.cell? ⟨zp, 1, none⟩ = some (.string T) ∧ V.cell? ⟨zp, 2, none⟩ = some (.slice kq v.keys.length kd) ∧ V.cell? ⟨zp, 3, none⟩ = some (.slice iq v.items.length id)) (first | exact HS8.out _ (by assumption)) (first
      | (go_at_call 41; refine (their_any _ _ _ _).mono ?_; rintro e w5 ⟨rfl, hb5⟩; have hb0 := Below.on hb0 hb5
         have h44 := rresult_any i I HS.out.1 HBD.out.1 HBD.out.2.1 (by have := HW.out; omega) (HKQ.out w5 hb0) (by have := HW.out; omega) HS.out.2 A ea HR.out.1)
      | (go_at_call 44; refine h44.mono ?_; rintro e w6 ⟨rfl, hb6⟩; have hb0 := Below.on hb0 hb6))
     clear HD
     go_upto_region 6 with fail
     have b6 := Below.on b3 hb0
     have hC := fail_any i I HS.out.1 HBD.out.1 HBD.out.2.1 (by have := HW.out; omega) c HBD.out.2.2.1 HBD.out.2.2.2 WB HR.out.2.2 (fun V hV => words_any c WB HR.out.2.2 V (HT.out V (Below.on b6 hV)).2.2.2) (HT.out w6 b6).1 (HT.out w6 b6).2.2.1 (HK.out w6 b6) (by have := HW.out; omega) HS.out.2 C g HR.out.2.1
     obtain ⟨x0, x1, x2, d0, d1, d2, d3, p0, p1, p2, p3⟩ := HS8.out w6 hb0
     go_upto_region 7 with (first
      | (go_at_call 45; refine hC.mono ?_; rintro e w7 ⟨rfl, hb7⟩))
     clear hC x0 x1 x2 d0 d1 d2 d3 p0 p1 p2 p3
     have hb1 : Below V3.heap.size V3 w7.drew := Below.on hb0 hb7.drew
     have HD := HS8.out _ hb1
     clear hb7 hb0 b6
     go_region_held3 (fun V => V.cell? ⟨w.heap.size, 0, none⟩ = some (.int .i64 i.k) ∧ V.cell? ⟨w.heap.size, 1, none⟩ = some (.int .i64 i.n) ∧ V.cell? ⟨w.heap.size, 2, none⟩ = some (.string I) ∧ V.cell? ⟨w.heap.size + 1, 0, none⟩ = some (.int .i64 v.kind) ∧ V.cell? ⟨w.heap.size + 1, 1, none⟩ = some (.string T) ∧ V.cell? ⟨w.heap.size + 1, 2, none⟩ = some (.slice kp v.keys.length kc) ∧ V.cell? ⟨w.heap.size + 1, 3, none⟩ = some (.slice ip v.items.length ic) ∧ V.cell? ⟨zp, 0, none⟩ = some (.int .i64 v.kind) ∧ V.cell? ⟨zp, 1, none⟩ = some (.string T) ∧ V.cell? ⟨zp, 2, none⟩ = some (.slice kq v.keys.length kd) ∧ V.cell? ⟨zp, 3, none⟩ = some (.slice iq v.items.length id)) (first | exact HS8.out _ (by assumption)) (first
      | (go_at_call 41; refine (their_any _ _ _ _).mono ?_; rintro e w8 ⟨rfl, hb8⟩; have hb1 := Below.on hb1 hb8
         have h46 := rfail_any i I HS.out.1 HBD.out.1 HBD.out.2.1 (by have := HW.out; omega) c HBD.out.2.2.1 HBD.out.2.2.2 (HKQ.out w8 hb1) (by have := HW.out; omega) HS.out.2 C g HR.out.2.1)
      | (go_at_call 46; refine h46.mono ?_; rintro e w9 ⟨rfl, hb9⟩; have hb1 := Below.on hb1 hb9))
     clear HD
     go_upto_region 8 with fail
     obtain ⟨s1, s2⟩ := str_same A
     obtain ⟨s3, s4⟩ := str_same C
     obtain ⟨s5, s6⟩ := str_same WB
     have b9 := Below.on b3 hb1
     go_wp2_with (first
      | (go_at_call 47; refine (words_any c WB HR.out.2.2 _ (HT.out _ b9).2.2.2).mono ?_; rintro e wa ⟨rfl, hba⟩)
      | (go_at_call 48; refine (rwords_any c WB HR.out.2.2 _).mono ?_; rintro e wb ⟨rfl, hbb⟩
         have hb2 := Below.on (Below.on hb1 hba) hbb
         obtain ⟨x0, x1, x2, d0, d1, d2, d3, p0, p1, p2, p3⟩ := HS8.out wb hb2
         have heq := equal_is (HK.out wb (Below.on b3 hb2)) (HKQ.out wb hb2) HS.out.2 HS.out.2 wb (Below.refl _ _)
         rw [(eqV_iff v v).2 rfl] at heq)
      | (go_at_call 24; refine heq.mono ?_; rintro e wc ⟨rfl, hbc⟩; have bc := Below.on b3 (Below.on hb2 hbc))
      | (go_at_call 34; refine (works_any _ (HT.out _ bc).1 (HT.out _ bc).2.1 (HT.out _ bc).2.2.1).mono ?_; rintro e wd ⟨rfl, hbd⟩))
     go_ret
     exact ⟨rfl, Below.on HBW.out (Below.on bc hbd)⟩
 · rw [decide_eq_false hf] at hfew
   clear hf his hpl
   go_enter Tryz.func8, Tryz.ntmps8
   go_wp2_with (first
    | (go_at_call 38; refine (hfew _ (Below.refl _ _)).mono ?_; rintro e w1 ⟨rfl, hb1⟩; clear x0 x1 x2 d0 d1 d2 d3; obtain ⟨x0, x1, x2, _⟩ := HI.out w1 hb1; obtain ⟨d0, d1, d2, d3⟩ := HV.out w1 hb1)
    | (go_at_call 34; refine (works_any _ (HT.out _ hb1).1 (HT.out _ hb1).2.1 (HT.out _ hb1).2.2.1).mono ?_; rintro e w9 ⟨rfl, hb9⟩))
   go_ret
   exact ⟨rfl, Below.on HBW.out (Below.on hb1 hb9)⟩
end Go.Proofs.Rp
