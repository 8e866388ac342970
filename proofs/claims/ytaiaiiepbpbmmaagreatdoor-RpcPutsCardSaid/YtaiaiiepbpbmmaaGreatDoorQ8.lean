/- RpcPuts: the walk. Printed by gen_q8.py. -/
import Derived.Test.YtaiaiiepbpbmmaaGreatDoorQ7
import Derived.Test.YtaiaiiepbpbmmaaGreatDoorQT
import Derived.Test.YtaiaiiepbpbmmaaGreatDoorP9
namespace Go.Proofs.Rp
open Go.RowKit Go.Maps Go.Lib Go.Proofs.Utf Go.Proofs.Jt Go.Proofs

set_option maxRecDepth 100000 in
set_option maxHeartbeats 16000000 in
theorem puts_walk24 {w : World} (k : Int) (i : IdV) (ms : List UInt8) (p : JV) (I M P : ByteArray) (hI : (⟨i.s.toArray⟩ : ByteArray) = I) (hM : (⟨ms.toArray⟩ : ByteArray) = M) (hP : (⟨p.str.toArray⟩ : ByteArray) = P)
 (h0 : -9223372036854775808 ≤ i.n) (h1 : i.n ≤ 9223372036854775807) (hpl : p.str.length ≤ maxLen) {kp ip : Option Addr} {kc ic : Nat} (hT : Tabs w) (hE : ErrV w) (hTen : TenV w) (hK : KI w p kp kc ip ic) :
 Calls Tryz.prog 6 #[.agg #[.int .i64 k, .int .i64 i.k, .int .i64 i.n, .string I, .string M, .int .i64 p.kind, .string P, .slice kp p.keys.length kc, .slice ip p.items.length ic]] w fun e w' => e = .returned (.bool true) ∧ Below w.heap.size w w' := by
 obtain ⟨W, hW⟩ : ∃ W, w.alloc (.cells #[.int .i64 k, .int .i64 i.k, .int .i64 i.n, .string I, .string M, .int .i64 p.kind, .string P, .slice kp p.keys.length kc, .slice ip p.items.length ic] 59) = W := ⟨_, rfl⟩
 have bW := alloc_b hW
 have hzW : W.heap.size = w.heap.size + 1 := by rw [← hW]; simp
 have HB : Hid (∀ V, Below W.heap.size W V → _) := Lib.hid fun V hV => cells9 (row_of hW V hV)
 have HT : Hid (∀ V, Below W.heap.size W V → Tabs V ∧ ErrV V ∧ TenV V) := Lib.hid fun V hV => ⟨hT.below (Below.on bW hV), hE.below (Below.on bW hV), hTen.below (Below.on bW hV)⟩
 have HK : Hid (∀ V, Below W.heap.size W V → KI V p kp kc ip ic) := Lib.hid fun V hV => hK.stay (Below.on bW hV)
 have HBW := Lib.hid bW
 have hfew := few38_any (HK.out W (Below.refl _ _)) hpl hP
 obtain ⟨m0, m1, m2, m3, m4, m5, m6, m7, m8⟩ := HB.out W (Below.refl _ _)
 have HS := Lib.hid (And.intro hI (And.intro hM hP))
 have HBD := Lib.hid (And.intro h0 h1)
 have his : i.s.length = I.size := by rw [← hI, arr_size]
 have hml : ms.length = M.size := by rw [← hM, arr_size]
 clear hI hM hP h0 h1 hT hE hTen hK bW hzW
 by_cases hf : 0 < p.sz 1500
 · rw [decide_eq_true hf] at hfew
   have hpw := few_wt hf
   clear hf
   by_cases hM : 1500 < M.size
   · clear his hml hpw hpl
     go_enter Tryz.func6, Tryz.ntmps6
     go_wp2_with (first
      | (go_at_call 38; refine (hfew _ (Below.refl _ _)).mono ?_; rintro e w1 ⟨rfl, hb1⟩; clear m0 m1 m2 m3 m4 m5 m6 m7 m8; obtain ⟨m0, m1, m2, m3, m4, m5, m6, m7, m8⟩ := HB.out w1 hb1)
      | (go_at_call 34; refine (works_any _ (HT.out _ hb1).1 (HT.out _ hb1).2.1 (HT.out _ hb1).2.2).mono ?_; rintro e w9 ⟨rfl, hb9⟩))
     go_ret
     exact ⟨rfl, Below.on HBW.out (Below.on hb1 hb9)⟩
   · by_cases hI : 1500 < I.size
     · clear his hml hpw hpl
       go_enter Tryz.func6, Tryz.ntmps6
       go_wp2_with (first
        | (go_at_call 38; refine (hfew _ (Below.refl _ _)).mono ?_; rintro e w1 ⟨rfl, hb1⟩; clear m0 m1 m2 m3 m4 m5 m6 m7 m8; obtain ⟨m0, m1, m2, m3, m4, m5, m6, m7, m8⟩ := HB.out w1 hb1)
        | (go_at_call 34; refine (works_any _ (HT.out _ hb1).1 (HT.out _ hb1).2.1 (HT.out _ hb1).2.2).mono ?_; rintro e w9 ⟨rfl, hb9⟩))
       go_ret
       exact ⟨rfl, Below.on HBW.out (Below.on hb1 hb9)⟩
     · obtain ⟨X, n, hr⟩ : ∃ (X : ByteArray) (n : Nat), putM ⟨k, i, ms, p⟩ = (X.data.toList, n) := ⟨⟨(putM ⟨k, i, ms, p⟩).1.toArray⟩, (putM ⟨k, i, ms, p⟩).2, by simp⟩
       have HW : Hid (i.s.length ≤ 1500 ∧ ms.length ≤ 1500 ∧ p.wt ≤ 1500) := Lib.hid (by omega)
       have HR := Lib.hid hr
       have hcp := copy_is (HK.out W (Below.refl _ _)) (by omega) hpl HS.out.2.2
       clear his hml hpw hr hpl
       go_enter Tryz.func6, Tryz.ntmps6
       go_upto_region 4 with (first
        | (go_at_call 38; refine (hfew _ (Below.refl _ _)).mono ?_; rintro e w1 ⟨rfl, hb1⟩; clear m0 m1 m2 m3 m4 m5 m6 m7 m8; obtain ⟨m0, m1, m2, m3, m4, m5, m6, m7, m8⟩ := HB.out w1 hb1)
        | (go_at_call 16; refine (hcp _ hb1).mono ?_; rintro e w2 ⟨kq, kd, iq, id, rfl, hkq, hb2⟩
           obtain ⟨W3, hW3⟩ : ∃ V, w2.alloc (.cells #[.int .i64 0, .string ⟨#[]⟩, .slice none 0 0, .slice none 0 0] 25) = V := ⟨_, rfl⟩
           have bW3 := alloc_b hW3
           have hj3 : JBox W3 w2.heap.size := (by rw [← hW3]; exact JBox.alloc _ _ _ _ _)
           have HJ3 := Lib.hid hj3
           clear hj3)
        | (refine store_val rfl (.tmp 3) (.tmp 28) rfl w2.heap.size rfl (.int .i64 p.kind) (.string P) (.slice kq p.keys.length kd) (.slice iq p.items.length id) rfl rfl HJ3.out (fun V3 hx3 hg3 _ => ?_)))
       obtain ⟨zp, hzp⟩ : ∃ z, w2.heap.size = z := ⟨_, rfl⟩
       rw [hzp] at hx3 hg3 ⊢
       have hb12 := Below.on hb1 hb2
       have b3 : Below W.heap.size W V3 := below_gbz (Below.on hb12 bW3) (by have := hb12.size; omega) hg3
       have hkq3 : KI V3 p kq kd iq id := hkq.ki.stay (below_gbz bW3 (by omega) hg3)
       have HKQ : Hid (∀ V, Below V3.heap.size V3 V → KI V p kq kd iq id) := Lib.hid fun V hV => hkq3.stay hV
       have HXP : Hid (∀ V, Below V3.heap.size V3 V → _) := Lib.hid fun V hV => cells4 ((hV.block _ (ltS hx3)).trans hx3)
       have hA := putM_any k i ms p I M P HS.out.1 HS.out.2.1 HS.out.2.2 HBD.out.1 HBD.out.2 (by have := HW.out; omega) (by have := HW.out; omega) (by have := HW.out; omega) (HT.out V3 b3).1 (HT.out V3 b3).2.2 (HK.out V3 b3) X n HR.out
       clear hkq hkq3 hb2 hb12 bW3 hx3 hg3 hW3 hcp hfew hb1 hzp m0 m1 m2 m3 m4 m5 m6 m7 m8
       obtain ⟨m0, m1, m2, m3, m4, m5, m6, m7, m8⟩ := HB.out V3 b3
       go_upto_region 5 with (first
        | (go_at_call 39; refine hA.mono ?_; rintro e w4 ⟨rfl, hb4⟩))
       have HS8 : Hid (∀ V, Below V3.heap.size V3 V → (V.cell? ⟨w.heap.size, 0, none⟩ = some (.int .i64 k) ∧ V.cell? ⟨w.heap.size, 1, none⟩ = some (.int .i64 i.k) ∧ V.cell? ⟨w.heap.size, 2, none⟩ = some (.int .i64 i.n) ∧ V.cell? ⟨w.heap.size, 3, none⟩ = some (.string I) ∧ V.cell? ⟨w.heap.size, 4, none⟩ = some (.string M) ∧ V.cell? ⟨w.heap.size, 5, none⟩ = some (.int .i64 p.kind) ∧ V.cell? ⟨w.heap.size, 6, none⟩ = some (.string P) ∧ V.cell? ⟨w.heap.size, 7, none⟩ = some (.slice kp p.keys.length kc) ∧ V.cell? ⟨w.heap.size, 8, none⟩ = some (.slice ip p.items.length ic) ∧ V.cell? ⟨zp, 0, none⟩ = some (.int .i64 p.kind) ∧ V.cell? ⟨zp, 1, none⟩ = some (.string P) ∧ V.cell? ⟨zp, 2, none⟩ = some (.slice kq p.keys.length kd) ∧ V.cell? ⟨zp, 3, none⟩ = some (.slice iq p.items.length id))) := Lib.hid fun V hV => by
        obtain ⟨m0, m1, m2, m3, m4, m5, m6, m7, m8⟩ := HB.out V (Below.on b3 hV)
        obtain ⟨a7, a8, a9, aa⟩ := HXP.out V hV
        exact ⟨m0, m1, m2, m3, m4, m5, m6, m7, m8, a7, a8, a9, aa⟩
       clear hA m0 m1 m2 m3 m4 m5 m6 m7 m8
       have HD := HS8.out _ hb4.drew
       have hb0 : Below V3.heap.size V3 w4.drew := hb4.drew
       clear hb4
       go_region_held3 (fun V => V.cell? ⟨w.heap.size, 0, none⟩ = some (.int .i64 k) ∧ V.cell? ⟨w.heap.size, 1, none⟩ = some (.int .i64 i.k) ∧ V.cell? ⟨w.heap.size, 2, none⟩ = some (.int .i64 i.n) ∧ V.cell? ⟨w.heap.size, 3, none⟩ = some (.string I) ∧ V.cell? ⟨w.heap.size, 4, none⟩ = some (.string M) ∧ V.cell? ⟨w.heap.size, 5, none⟩ = some (.int .i64 p.kind) ∧ V.cell? ⟨w.heap.size, 6, none⟩ = some (.string P) ∧ V.cell? ⟨w.heap.size, 7, none⟩ = some (.slice kp p.keys.length kc) ∧ V.cell? ⟨w.heap.size, 8, none⟩ = some (.slice ip p.items.length ic) ∧ V.cell? ⟨zp, 0, none⟩ = some (.int .i64 p.kind) ∧ V.cell? ⟨zp, 1, none⟩ = some (.string P) ∧ V.cell? ⟨zp, 2, none⟩ = some (.slice kq p.keys.length kd) ∧ V.cell? ⟨zp, 3, none⟩ = some (.slice iq p.items.length id)) (first | exact HS8.out _ (by assumption)) (first
        | (go_at_call 41; refine (their_any _ _ _ _).mono ?_; rintro e w5 ⟨rfl, hb5⟩; have hb0 := Below.on hb0 hb5
           have h40 := rputM_any k i ms p I M P HS.out.1 HS.out.2.1 HS.out.2.2 HBD.out.1 HBD.out.2 (by have := HW.out; omega) (by have := HW.out; omega) (by have := HW.out; omega) (HKQ.out w5 hb0) X n HR.out)
        | (go_at_call 40; refine h40.mono ?_; rintro e w6 ⟨rfl, hb6⟩; have hb0 := Below.on hb0 hb6))
       clear HD
       go_upto_region 6 with fail
       have b6 := Below.on b3 hb0
       obtain ⟨s1, s2⟩ := str_same X
       obtain ⟨m0, m1, m2, m3, m4, m5, m6, m7, m8, a7, a8, a9, aa⟩ := HS8.out w6 hb0
       have heq := equal_is (HK.out w6 b6) (HKQ.out w6 hb0) HS.out.2.2 HS.out.2.2 w6 (Below.refl _ _)
       rw [(eqV_iff p p).2 rfl] at heq
       go_wp2_with (first
        | (go_at_call 24; refine heq.mono ?_; rintro e wc ⟨rfl, hbc⟩; have bc := Below.on b6 hbc)
        | (go_at_call 34; refine (works_any _ (HT.out _ bc).1 (HT.out _ bc).2.1 (HT.out _ bc).2.2).mono ?_; rintro e wd ⟨rfl, hbd⟩))
       go_ret
       exact ⟨rfl, Below.on HBW.out (Below.on bc hbd)⟩
 · rw [decide_eq_false hf] at hfew
   clear hf his hml hpl
   go_enter Tryz.func6, Tryz.ntmps6
   go_wp2_with (first
    | (go_at_call 38; refine (hfew _ (Below.refl _ _)).mono ?_; rintro e w1 ⟨rfl, hb1⟩; clear m0 m1 m2 m3 m4 m5 m6 m7 m8; obtain ⟨m0, m1, m2, m3, m4, m5, m6, m7, m8⟩ := HB.out w1 hb1)
    | (go_at_call 34; refine (works_any _ (HT.out _ hb1).1 (HT.out _ hb1).2.1 (HT.out _ hb1).2.2).mono ?_; rintro e w9 ⟨rfl, hb9⟩))
   go_ret
   exact ⟨rfl, Below.on HBW.out (Below.on hb1 hb9)⟩
end Go.Proofs.Rp
