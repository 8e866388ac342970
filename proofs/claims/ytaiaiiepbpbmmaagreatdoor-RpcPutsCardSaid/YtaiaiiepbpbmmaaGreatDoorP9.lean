/- rpc.Put. Printed by gen_p9.py. -/
import Derived.Test.YtaiaiiepbpbmmaaGreatDoorP8
import Derived.Deep.CutBlock
namespace Go.Proofs.Rp
open Go.RowKit Go.Maps Go.Lib Go.Proofs.Utf Go.Proofs.Jt Go.Proofs

set_option maxRecDepth 100000 in
set_option maxHeartbeats 16000000 in
theorem putM_any {w : World} (k : Int) (i : IdV) (ms : List UInt8) (p : JV) (I M P : ByteArray) (hI : (⟨i.s.toArray⟩ : ByteArray) = I) (hM : (⟨ms.toArray⟩ : ByteArray) = M) (hP : (⟨p.str.toArray⟩ : ByteArray) = P)
 (h0 : -9223372036854775808 ≤ i.n) (h1 : i.n ≤ 9223372036854775807) (his : i.s.length ≤ 100000) (hml : ms.length ≤ 100000) (hwt : p.wt ≤ 100000) {kp ip : Option Addr} {kc ic : Nat} (hT : Tabs w) (hTen : TenV w) (hK : KI w p kp kc ip ic) (X : ByteArray) (n : Nat) (hr : putM ⟨k, i, ms, p⟩ = (X.data.toList, n)) :
 Calls Tryz.prog 39 #[.agg #[.int .i64 k, .int .i64 i.k, .int .i64 i.n, .string I, .string M, .int .i64 p.kind, .string P, .slice kp p.keys.length kc, .slice ip p.items.length ic]] w fun e w' => e = .returned (.tuple #[.string X, .int .i64 n]) ∧ Below w.heap.size w w' := by
 obtain ⟨W, hW⟩ : ∃ W, w.alloc (.cells #[.int .i64 k, .int .i64 i.k, .int .i64 i.n, .string I, .string M, .int .i64 p.kind, .string P, .slice kp p.keys.length kc, .slice ip p.items.length ic] 59) = W := ⟨_, rfl⟩
 have bW := alloc_b hW
 have HB : Hid (∀ V, Below W.heap.size W V → _) := Lib.hid fun V hV => cells9 (row_of hW V hV)
 have HT : Hid (∀ V, Below W.heap.size W V → Tabs V) := Lib.hid fun V hV => hT.below (Below.on bW hV)
 have HTen : Hid (∀ V, Below W.heap.size W V → TenV V) := Lib.hid fun V hV => hTen.below (Below.on bW hV)
 have HK : Hid (∀ V, Below W.heap.size W V → KI V p kp kc ip ic) := Lib.hid fun V hV => hK.stay (Below.on bW hV)
 have HBW := Lib.hid bW
 obtain ⟨VS, hVS⟩ : ∃ B : ByteArray, (⟨i.val.str.toArray⟩ : ByteArray) = B := ⟨_, rfl⟩
 obtain ⟨Q, hQ⟩ : ∃ Q, (decide (p.kind = 0) || decide (p.kind = 5) || decide (p.kind = 6)) = Q := ⟨_, rfl⟩
 obtain ⟨bm, hbm⟩ : ∃ b, i.may = b := ⟨_, rfl⟩
 obtain ⟨B, hB0⟩ : ∃ B, MsgV.okay ⟨k, i, ms, p⟩ = B := ⟨_, rfl⟩
 have hmay := may_any i I hI W
 rw [hbm] at hmay
 have h94 : ∀ V, Calls Tryz.prog 94 #[.agg #[.int .i64 p.kind, .string P, .slice kp p.keys.length kc, .slice ip p.items.length ic]] V fun e w' => e = .returned (.bool Q) ∧ Below V.heap.size V w' := fun V => by
  have := params_any p.kind P kp ip p.keys.length kc p.items.length ic V
  rw [hQ] at this
  exact this
 have HOKE : Hid (MsgV.okay ⟨k, i, ms, p⟩ = B) := Lib.hid hB0
 have HB0 : Hid (((decide (k = 1) || decide (k = 2)) && bm && (decide (k = 1) == decide (i.k ≠ 0)) && Q) = B) := Lib.hid (by rw [← hB0, ← hbm, ← hQ]; rfl)
 have HR := Lib.hid hr
 have HS := Lib.hid (And.intro hI (And.intro hVS (And.intro hM hP)))
 have HBD := Lib.hid (And.intro h0 h1)
 obtain ⟨hvk, hvi⟩ := val_nil i
 have HN := Lib.hid (And.intro hvk hvi)
 have HW : Hid (i.val.wt ≤ 100100 ∧ (txtV ms).wt ≤ 100100 ∧ p.wt ≤ 100000) := Lib.hid (by
  have h2 := (val_wt h0 h1).1
  have h3 : (txtV ms).wt ≤ 100 + ms.length := (val_wt (i := ⟨2, 0, ms⟩) (by show (-9223372036854775808 : Int) ≤ 0; decide) (by show (0 : Int) ≤ _; decide)).1
  omega)
 have HL : Hid (i.val.str.length ≤ maxLen ∧ ms.length ≤ maxLen ∧ p.str.length ≤ maxLen) := Lib.hid (by
  have h2 := (val_wt h0 h1).2
  have h3 := str_wt p
  unfold maxLen
  omega)
 obtain ⟨m0, m1, m2, m3, m4, m5, m6, m7, m8⟩ := HB.out W (Below.refl _ _)
 clear hI hM hP hVS hQ hbm hB0 hvk hvi h0 h1 his hml hwt hT hTen hK hr bW
 go_enter Tryz.func39, Tryz.ntmps39
 go_upto_region 1 with fail
 go_cut [35] (fun x wx => x = .bool (!B) ∧ Below W.heap.size W wx)
 case first =>
  by_cases k1 : k = 1
  · have n1 : (k != 1) = false := by simp [k1]
    have e1 : (k == 1) = true := by simp [k1]
    subst k1
    cases bm with
    | false =>
     obtain rfl : B = false := by rw [← HB0.out]; simp
     go_wp2_with (first
      | (go_at_call 98; refine hmay.mono ?_; rintro e w1 ⟨rfl, hb1⟩; clear m0 m1 m2 m3 m4 m5 m6 m7 m8; obtain ⟨m0, m1, m2, m3, m4, m5, m6, m7, m8⟩ := HB.out w1 hb1)
      | (go_at_call 94; refine (h94 _).mono ?_; rintro e w2 ⟨rfl, hb2⟩))
     go_meet
     exact ⟨rfl, hb1⟩
    | true =>
     by_cases ik : i.k = 0
     · have j1 : (i.k != 0) = false := by simp [ik]
       obtain rfl : B = false := by rw [← HB0.out]; simp [ik]
       clear ik
       go_wp2_with (first
        | (go_at_call 98; refine hmay.mono ?_; rintro e w1 ⟨rfl, hb1⟩; clear m0 m1 m2 m3 m4 m5 m6 m7 m8; obtain ⟨m0, m1, m2, m3, m4, m5, m6, m7, m8⟩ := HB.out w1 hb1)
        | (go_at_call 94; refine (h94 _).mono ?_; rintro e w2 ⟨rfl, hb2⟩))
       go_meet
       exact ⟨rfl, hb1⟩
     · have j1 : (i.k != 0) = true := by simp [ik]
       have hBQ : B = Q := by rw [← HB0.out]; simp [ik]
       subst hBQ
       clear ik
       cases B with
       | false =>
        go_wp2_with (first
         | (go_at_call 98; refine hmay.mono ?_; rintro e w1 ⟨rfl, hb1⟩; clear m0 m1 m2 m3 m4 m5 m6 m7 m8; obtain ⟨m0, m1, m2, m3, m4, m5, m6, m7, m8⟩ := HB.out w1 hb1)
         | (go_at_call 94; refine (h94 _).mono ?_; rintro e w2 ⟨rfl, hb2⟩))
        go_meet
        exact ⟨rfl, Below.on hb1 hb2⟩
       | true =>
        go_wp2_with (first
         | (go_at_call 98; refine hmay.mono ?_; rintro e w1 ⟨rfl, hb1⟩; clear m0 m1 m2 m3 m4 m5 m6 m7 m8; obtain ⟨m0, m1, m2, m3, m4, m5, m6, m7, m8⟩ := HB.out w1 hb1)
         | (go_at_call 94; refine (h94 _).mono ?_; rintro e w2 ⟨rfl, hb2⟩))
        go_meet
        exact ⟨rfl, Below.on hb1 hb2⟩
  · have n1 : (k != 1) = true := by simp [k1]
    have e1 : (k == 1) = false := by simp [k1]
    by_cases k2 : k = 2
    · subst k2
      cases bm with
      | false =>
       obtain rfl : B = false := by rw [← HB0.out]; simp
       go_wp2_with (first
        | (go_at_call 98; refine hmay.mono ?_; rintro e w1 ⟨rfl, hb1⟩; clear m0 m1 m2 m3 m4 m5 m6 m7 m8; obtain ⟨m0, m1, m2, m3, m4, m5, m6, m7, m8⟩ := HB.out w1 hb1)
        | (go_at_call 94; refine (h94 _).mono ?_; rintro e w2 ⟨rfl, hb2⟩))
       go_meet
       exact ⟨rfl, hb1⟩
      | true =>
       by_cases ik : i.k = 0
       · have j1 : (i.k != 0) = false := by simp [ik]
         have hBQ : B = Q := by rw [← HB0.out]; simp [ik]
         subst hBQ
         clear ik
         cases B with
         | false =>
          go_wp2_with (first
           | (go_at_call 98; refine hmay.mono ?_; rintro e w1 ⟨rfl, hb1⟩; clear m0 m1 m2 m3 m4 m5 m6 m7 m8; obtain ⟨m0, m1, m2, m3, m4, m5, m6, m7, m8⟩ := HB.out w1 hb1)
           | (go_at_call 94; refine (h94 _).mono ?_; rintro e w2 ⟨rfl, hb2⟩))
          go_meet
          exact ⟨rfl, Below.on hb1 hb2⟩
         | true =>
          go_wp2_with (first
           | (go_at_call 98; refine hmay.mono ?_; rintro e w1 ⟨rfl, hb1⟩; clear m0 m1 m2 m3 m4 m5 m6 m7 m8; obtain ⟨m0, m1, m2, m3, m4, m5, m6, m7, m8⟩ := HB.out w1 hb1)
           | (go_at_call 94; refine (h94 _).mono ?_; rintro e w2 ⟨rfl, hb2⟩))
          go_meet
          exact ⟨rfl, Below.on hb1 hb2⟩
       · have j1 : (i.k != 0) = true := by simp [ik]
         obtain rfl : B = false := by rw [← HB0.out]; simp [ik]
         clear ik
         go_wp2_with (first
          | (go_at_call 98; refine hmay.mono ?_; rintro e w1 ⟨rfl, hb1⟩; clear m0 m1 m2 m3 m4 m5 m6 m7 m8; obtain ⟨m0, m1, m2, m3, m4, m5, m6, m7, m8⟩ := HB.out w1 hb1)
          | (go_at_call 94; refine (h94 _).mono ?_; rintro e w2 ⟨rfl, hb2⟩))
         go_meet
         exact ⟨rfl, hb1⟩
    · have n2 : (k != 2) = true := by simp [k2]
      obtain rfl : B = false := by rw [← HB0.out]; simp [k1, k2]
      go_wp2_with fail
      go_meet
      exact ⟨rfl, Below.refl _ _⟩
 case rest =>
  obtain ⟨rfl, hbc⟩ := hcut
  cases B with
  | false =>
   have hr2 : X = ⟨#[]⟩ ∧ n = 2 := by
    have hr := HR.out
    unfold putM at hr
    rw [if_neg (by rw [HOKE.out]; simp)] at hr
    exact ⟨ByteArray.ext (Array.toList_inj.1 (congrArg Prod.fst hr).symm), (congrArg Prod.snd hr).symm⟩
   obtain ⟨rfl, rfl⟩ := hr2
   go_wp2_with fail
   go_ret2
   exact ⟨rfl, Below.on HBW.out hbc⟩
  | true =>
   have HOK := HOKE
   clear m0 m1 m2 m3 m4 m5 m6 m7 m8 hmay h94
   have hk : k = 1 ∨ k = 2 := by
    have := HB0.out
    by_cases k1 : k = 1
    · exact .inl k1
    · by_cases k2 : k = 2
      · exact .inr k2
      · simp [k1, k2] at this
   obtain ⟨m0, m1, m2, m3, m4, m5, m6, m7, m8⟩ := HB.out wc hbc
   rcases hk with rfl | rfl
   · by_cases p0 : p.kind = 0
     · have q0 : (p.kind != 0) = false := by simp [p0]
       have hput : putV (.mk 6 [] [kVer, kId, kMethod] [txtV v20, i.val, txtV ms]) = (X.data.toList, n) := by
        have := HR.out
        unfold putM at this
        rw [if_pos HOK.out] at this
        rw [← this]
        unfold MsgV.keys MsgV.items
        simp [p0]
       have HPUT := Lib.hid hput
       have HWT : Hid ((JV.mk 6 [] [kVer, kId, kMethod] [txtV v20, i.val, txtV ms]).wt ≤ 1000000) := Lib.hid (by
        rw [JV.wt]
        simp only [keysW, wtL, kVer, kId, kMethod, List.length_cons, List.length_nil]
        have : (txtV v20).wt = 4 := rfl
        have h1 := HW.out
        omega)
       clear hput
       go_upto_region 4 with (first
        | (go_at_call 99; refine (message_new _).mono ?_; rintro e w2 ⟨lo, tb, ob, p1, q1, p2, q2, rfl, hop, hb2⟩; have HO2 := Lib.hid hop; have b2 := Below.on hbc hb2; clear hop))
       clear m0 m1 m2 m3 m4 m5 m6 m7 m8
       obtain ⟨m0, m1, m2, m3, m4, m5, m6, m7, m8⟩ := HB.out w2 b2
       have hval := value_any i I VS HS.out.1 HS.out.2.1 HBD.out.1 HBD.out.2 w2 (HTen.out w2 b2)
       go_upto_region 6 with (first
        | (go_at_call 100; refine hval.mono ?_; rintro e w3 ⟨rfl, hb3⟩
           have had := add_leaf (HO2.out.below hb3) ⟨#[105, 100]⟩ i.val VS HS.out.2.1 HN.out.1 HN.out.2 (by decide) (by decide))
        | (go_at_call 154; refine had.mono ?_; rintro e w4 ⟨rfl, p3, q3, p4, q4, hop4, hb4⟩; have HO4 := Lib.hid hop4; have bc4 : Below wc.heap.size wc w4 := Below.on hb2 hb3 |>.trans hb4; have b4 := Below.on hbc bc4; clear hop4))
       clear had hval m0 m1 m2 m3 m4 m5 m6 m7 m8
       obtain ⟨m0, m1, m2, m3, m4, m5, m6, m7, m8⟩ := HB.out w4 b4
       have htx := text_any M w4
       go_upto_region 7 with (first
        | (go_at_call 101; refine htx.mono ?_; rintro e w5 ⟨rfl, hb5⟩
           have had2 := add_leaf (HO4.out.below hb5) ⟨#[109, 101, 116, 104, 111, 100]⟩ (txtV ms) M HS.out.2.2.1 rfl rfl (by decide) (by show 2 ≤ 1000; decide))
        | (go_at_call 154; refine had2.mono ?_; rintro e w6 ⟨rfl, p5, q5, p6, q6, hop6, hb6⟩; have HO6 := Lib.hid hop6; have bc6 : Below wc.heap.size wc w6 := (Below.on bc4 hb5).trans hb6; have b6 := Below.on hbc bc6; clear hop6))
       clear had2 htx m0 m1 m2 m3 m4 m5 m6 m7 m8
       obtain ⟨m0, m1, m2, m3, m4, m5, m6, m7, m8⟩ := HB.out w6 b6
       go_upto_region 9 with fail
       have HO7 := HO6
       have b7 := b6
       have bc7 := bc6
       have hop : OP wc.heap.size w6 lo tb ob [kVer, kId, kMethod] [leafC (txtV v20), leafC i.val, leafC (txtV ms)] p5 q5 p6 q6 := HO7.out
       obtain ⟨o0, o1, o2, o3⟩ := cells4 hop.ho
       have hki : KI w6 (.mk 6 [] [kVer, kId, kMethod] [txtV v20, i.val, txtV ms]) p5 q5 p6 q6 := hop.ki (fun c hc => by
        simp only [List.mem_cons, List.not_mem_nil, or_false] at hc
        rcases hc with rfl | rfl | rfl
        · exact leaf_ok rfl rfl (by decide)
        · exact leaf_ok HN.out.1 HN.out.2 HL.out.1
        · exact leaf_ok rfl rfl HL.out.2.1) ⟨(by show 3 ≤ maxLen; decide), by decide, keys_short (by decide)⟩
       have h84 : Calls Tryz.prog 84 #[.agg #[.int .i64 6, .string ⟨#[]⟩, .slice p5 3 q5, .slice p6 3 q6]] w6 fun e w'' => e = .returned (.tuple #[.string X, .int .i64 (n : Nat)]) ∧ Below w6.heap.size w6 w'' := put_is (HT.out w6 b7) hki HWT.out (S := ⟨#[]⟩) rfl HPUT.out w6 (Below.refl _ _)
       simp only [List.length_cons, List.length_nil] at o2 o3
       clear m0 m1 m2 m3 m4 m5 m6 m7 m8
       go_wp2_with (first
        | (go_at_call 84; refine h84.mono ?_; rintro e w9 ⟨rfl, hb9⟩))
       go_ret2
       exact ⟨rfl, Below.on HBW.out (Below.on b7 hb9)⟩
     · have q0 : (p.kind != 0) = true := by simp [p0]
       have hput : putV (.mk 6 [] [kVer, kId, kMethod, kParams] [txtV v20, i.val, txtV ms, p]) = (X.data.toList, n) := by
        have := HR.out
        unfold putM at this
        rw [if_pos HOK.out] at this
        rw [← this]
        unfold MsgV.keys MsgV.items
        simp [p0]
       have HPUT := Lib.hid hput
       have HWT : Hid ((JV.mk 6 [] [kVer, kId, kMethod, kParams] [txtV v20, i.val, txtV ms, p]).wt ≤ 1000000) := Lib.hid (by
        rw [JV.wt]
        simp only [keysW, wtL, kVer, kId, kMethod, kParams, List.length_cons, List.length_nil]
        have : (txtV v20).wt = 4 := rfl
        have h1 := HW.out
        omega)
       clear hput
       go_upto_region 4 with (first
        | (go_at_call 99; refine (message_new _).mono ?_; rintro e w2 ⟨lo, tb, ob, p1, q1, p2, q2, rfl, hop, hb2⟩; have HO2 := Lib.hid hop; have b2 := Below.on hbc hb2; clear hop))
       clear m0 m1 m2 m3 m4 m5 m6 m7 m8
       obtain ⟨m0, m1, m2, m3, m4, m5, m6, m7, m8⟩ := HB.out w2 b2
       have hval := value_any i I VS HS.out.1 HS.out.2.1 HBD.out.1 HBD.out.2 w2 (HTen.out w2 b2)
       go_upto_region 6 with (first
        | (go_at_call 100; refine hval.mono ?_; rintro e w3 ⟨rfl, hb3⟩
           have had := add_leaf (HO2.out.below hb3) ⟨#[105, 100]⟩ i.val VS HS.out.2.1 HN.out.1 HN.out.2 (by decide) (by decide))
        | (go_at_call 154; refine had.mono ?_; rintro e w4 ⟨rfl, p3, q3, p4, q4, hop4, hb4⟩; have HO4 := Lib.hid hop4; have bc4 : Below wc.heap.size wc w4 := Below.on hb2 hb3 |>.trans hb4; have b4 := Below.on hbc bc4; clear hop4))
       clear had hval m0 m1 m2 m3 m4 m5 m6 m7 m8
       obtain ⟨m0, m1, m2, m3, m4, m5, m6, m7, m8⟩ := HB.out w4 b4
       have htx := text_any M w4
       go_upto_region 7 with (first
        | (go_at_call 101; refine htx.mono ?_; rintro e w5 ⟨rfl, hb5⟩
           have had2 := add_leaf (HO4.out.below hb5) ⟨#[109, 101, 116, 104, 111, 100]⟩ (txtV ms) M HS.out.2.2.1 rfl rfl (by decide) (by show 2 ≤ 1000; decide))
        | (go_at_call 154; refine had2.mono ?_; rintro e w6 ⟨rfl, p5, q5, p6, q6, hop6, hb6⟩; have HO6 := Lib.hid hop6; have bc6 : Below wc.heap.size wc w6 := (Below.on bc4 hb5).trans hb6; have b6 := Below.on hbc bc6; clear hop6))
       clear had2 htx m0 m1 m2 m3 m4 m5 m6 m7 m8
       obtain ⟨m0, m1, m2, m3, m4, m5, m6, m7, m8⟩ := HB.out w6 b6
       have had3 := add_any HO6.out ⟨#[112, 97, 114, 97, 109, 115]⟩ ⟨p, kp, kc, ip, ic⟩ P HS.out.2.2.2 (by decide) (by show 3 ≤ 1000; decide)
       go_upto_region 9 with (first
        | (go_at_call 154; refine had3.mono ?_; rintro e w7 ⟨rfl, p7, q7, p8, q8, hop7, hb7⟩; have HO7 := Lib.hid hop7; have bc7 : Below wc.heap.size wc w7 := bc6.trans hb7; have b7 := Below.on hbc bc7; clear hop7))
       clear had3
       have hop : OP wc.heap.size w7 lo tb ob [kVer, kId, kMethod, kParams] [leafC (txtV v20), leafC i.val, leafC (txtV ms), ⟨p, kp, kc, ip, ic⟩] p7 q7 p8 q8 := HO7.out
       obtain ⟨o0, o1, o2, o3⟩ := cells4 hop.ho
       have hki : KI w7 (.mk 6 [] [kVer, kId, kMethod, kParams] [txtV v20, i.val, txtV ms, p]) p7 q7 p8 q8 := hop.ki (fun c hc => by
        simp only [List.mem_cons, List.not_mem_nil, or_false] at hc
        rcases hc with rfl | rfl | rfl | rfl
        · exact leaf_ok rfl rfl (by decide)
        · exact leaf_ok HN.out.1 HN.out.2 HL.out.1
        · exact leaf_ok rfl rfl HL.out.2.1
        · exact ⟨HK.out w7 b7, HL.out.2.2⟩) ⟨(by show 4 ≤ maxLen; decide), by decide, keys_short (by decide)⟩
       have h84 : Calls Tryz.prog 84 #[.agg #[.int .i64 6, .string ⟨#[]⟩, .slice p7 4 q7, .slice p8 4 q8]] w7 fun e w'' => e = .returned (.tuple #[.string X, .int .i64 (n : Nat)]) ∧ Below w7.heap.size w7 w'' := put_is (HT.out w7 b7) hki HWT.out (S := ⟨#[]⟩) rfl HPUT.out w7 (Below.refl _ _)
       simp only [List.length_cons, List.length_nil] at o2 o3
       clear m0 m1 m2 m3 m4 m5 m6 m7 m8
       go_wp2_with (first
        | (go_at_call 84; refine h84.mono ?_; rintro e w9 ⟨rfl, hb9⟩))
       go_ret2
       exact ⟨rfl, Below.on HBW.out (Below.on b7 hb9)⟩
   · by_cases p0 : p.kind = 0
     · have q0 : (p.kind != 0) = false := by simp [p0]
       have hput : putV (.mk 6 [] [kVer, kMethod] [txtV v20, txtV ms]) = (X.data.toList, n) := by
        have := HR.out
        unfold putM at this
        rw [if_pos HOK.out] at this
        rw [← this]
        unfold MsgV.keys MsgV.items
        simp [p0]
       have HPUT := Lib.hid hput
       have HWT : Hid ((JV.mk 6 [] [kVer, kMethod] [txtV v20, txtV ms]).wt ≤ 1000000) := Lib.hid (by
        rw [JV.wt]
        simp only [keysW, wtL, kVer, kMethod, List.length_cons, List.length_nil]
        have : (txtV v20).wt = 4 := rfl
        have h1 := HW.out
        omega)
       clear hput
       go_upto_region 4 with (first
        | (go_at_call 99; refine (message_new _).mono ?_; rintro e w2 ⟨lo, tb, ob, p1, q1, p2, q2, rfl, hop, hb2⟩; have HO2 := Lib.hid hop; have b2 := Below.on hbc hb2; clear hop))
       clear m0 m1 m2 m3 m4 m5 m6 m7 m8
       obtain ⟨m0, m1, m2, m3, m4, m5, m6, m7, m8⟩ := HB.out w2 b2
       go_upto_region 6 with fail
       have HO4 := HO2
       have bc4 := hb2
       have b4 := b2
       have htx := text_any M w2
       go_upto_region 7 with (first
        | (go_at_call 101; refine htx.mono ?_; rintro e w5 ⟨rfl, hb5⟩
           have had2 := add_leaf (HO4.out.below hb5) ⟨#[109, 101, 116, 104, 111, 100]⟩ (txtV ms) M HS.out.2.2.1 rfl rfl (by decide) (by show 1 ≤ 1000; decide))
        | (go_at_call 154; refine had2.mono ?_; rintro e w6 ⟨rfl, p5, q5, p6, q6, hop6, hb6⟩; have HO6 := Lib.hid hop6; have bc6 : Below wc.heap.size wc w6 := (Below.on bc4 hb5).trans hb6; have b6 := Below.on hbc bc6; clear hop6))
       clear had2 htx m0 m1 m2 m3 m4 m5 m6 m7 m8
       obtain ⟨m0, m1, m2, m3, m4, m5, m6, m7, m8⟩ := HB.out w6 b6
       go_upto_region 9 with fail
       have HO7 := HO6
       have b7 := b6
       have bc7 := bc6
       have hop : OP wc.heap.size w6 lo tb ob [kVer, kMethod] [leafC (txtV v20), leafC (txtV ms)] p5 q5 p6 q6 := HO7.out
       obtain ⟨o0, o1, o2, o3⟩ := cells4 hop.ho
       have hki : KI w6 (.mk 6 [] [kVer, kMethod] [txtV v20, txtV ms]) p5 q5 p6 q6 := hop.ki (fun c hc => by
        simp only [List.mem_cons, List.not_mem_nil, or_false] at hc
        rcases hc with rfl | rfl
        · exact leaf_ok rfl rfl (by decide)
        · exact leaf_ok rfl rfl HL.out.2.1) ⟨(by show 2 ≤ maxLen; decide), by decide, keys_short (by decide)⟩
       have h84 : Calls Tryz.prog 84 #[.agg #[.int .i64 6, .string ⟨#[]⟩, .slice p5 2 q5, .slice p6 2 q6]] w6 fun e w'' => e = .returned (.tuple #[.string X, .int .i64 (n : Nat)]) ∧ Below w6.heap.size w6 w'' := put_is (HT.out w6 b7) hki HWT.out (S := ⟨#[]⟩) rfl HPUT.out w6 (Below.refl _ _)
       simp only [List.length_cons, List.length_nil] at o2 o3
       clear m0 m1 m2 m3 m4 m5 m6 m7 m8
       go_wp2_with (first
        | (go_at_call 84; refine h84.mono ?_; rintro e w9 ⟨rfl, hb9⟩))
       go_ret2
       exact ⟨rfl, Below.on HBW.out (Below.on b7 hb9)⟩
     · have q0 : (p.kind != 0) = true := by simp [p0]
       have hput : putV (.mk 6 [] [kVer, kMethod, kParams] [txtV v20, txtV ms, p]) = (X.data.toList, n) := by
        have := HR.out
        unfold putM at this
        rw [if_pos HOK.out] at this
        rw [← this]
        unfold MsgV.keys MsgV.items
        simp [p0]
       have HPUT := Lib.hid hput
       have HWT : Hid ((JV.mk 6 [] [kVer, kMethod, kParams] [txtV v20, txtV ms, p]).wt ≤ 1000000) := Lib.hid (by
        rw [JV.wt]
        simp only [keysW, wtL, kVer, kMethod, kParams, List.length_cons, List.length_nil]
        have : (txtV v20).wt = 4 := rfl
        have h1 := HW.out
        omega)
       clear hput
       go_upto_region 4 with (first
        | (go_at_call 99; refine (message_new _).mono ?_; rintro e w2 ⟨lo, tb, ob, p1, q1, p2, q2, rfl, hop, hb2⟩; have HO2 := Lib.hid hop; have b2 := Below.on hbc hb2; clear hop))
       clear m0 m1 m2 m3 m4 m5 m6 m7 m8
       obtain ⟨m0, m1, m2, m3, m4, m5, m6, m7, m8⟩ := HB.out w2 b2
       go_upto_region 6 with fail
       have HO4 := HO2
       have bc4 := hb2
       have b4 := b2
       have htx := text_any M w2
       go_upto_region 7 with (first
        | (go_at_call 101; refine htx.mono ?_; rintro e w5 ⟨rfl, hb5⟩
           have had2 := add_leaf (HO4.out.below hb5) ⟨#[109, 101, 116, 104, 111, 100]⟩ (txtV ms) M HS.out.2.2.1 rfl rfl (by decide) (by show 1 ≤ 1000; decide))
        | (go_at_call 154; refine had2.mono ?_; rintro e w6 ⟨rfl, p5, q5, p6, q6, hop6, hb6⟩; have HO6 := Lib.hid hop6; have bc6 : Below wc.heap.size wc w6 := (Below.on bc4 hb5).trans hb6; have b6 := Below.on hbc bc6; clear hop6))
       clear had2 htx m0 m1 m2 m3 m4 m5 m6 m7 m8
       obtain ⟨m0, m1, m2, m3, m4, m5, m6, m7, m8⟩ := HB.out w6 b6
       have had3 := add_any HO6.out ⟨#[112, 97, 114, 97, 109, 115]⟩ ⟨p, kp, kc, ip, ic⟩ P HS.out.2.2.2 (by decide) (by show 2 ≤ 1000; decide)
       go_upto_region 9 with (first
        | (go_at_call 154; refine had3.mono ?_; rintro e w7 ⟨rfl, p7, q7, p8, q8, hop7, hb7⟩; have HO7 := Lib.hid hop7; have bc7 : Below wc.heap.size wc w7 := bc6.trans hb7; have b7 := Below.on hbc bc7; clear hop7))
       clear had3
       have hop : OP wc.heap.size w7 lo tb ob [kVer, kMethod, kParams] [leafC (txtV v20), leafC (txtV ms), ⟨p, kp, kc, ip, ic⟩] p7 q7 p8 q8 := HO7.out
       obtain ⟨o0, o1, o2, o3⟩ := cells4 hop.ho
       have hki : KI w7 (.mk 6 [] [kVer, kMethod, kParams] [txtV v20, txtV ms, p]) p7 q7 p8 q8 := hop.ki (fun c hc => by
        simp only [List.mem_cons, List.not_mem_nil, or_false] at hc
        rcases hc with rfl | rfl | rfl
        · exact leaf_ok rfl rfl (by decide)
        · exact leaf_ok rfl rfl HL.out.2.1
        · exact ⟨HK.out w7 b7, HL.out.2.2⟩) ⟨(by show 3 ≤ maxLen; decide), by decide, keys_short (by decide)⟩
       have h84 : Calls Tryz.prog 84 #[.agg #[.int .i64 6, .string ⟨#[]⟩, .slice p7 3 q7, .slice p8 3 q8]] w7 fun e w'' => e = .returned (.tuple #[.string X, .int .i64 (n : Nat)]) ∧ Below w7.heap.size w7 w'' := put_is (HT.out w7 b7) hki HWT.out (S := ⟨#[]⟩) rfl HPUT.out w7 (Below.refl _ _)
       simp only [List.length_cons, List.length_nil] at o2 o3
       clear m0 m1 m2 m3 m4 m5 m6 m7 m8
       go_wp2_with (first
        | (go_at_call 84; refine h84.mono ?_; rintro e w9 ⟨rfl, hb9⟩))
       go_ret2
       exact ⟨rfl, Below.on HBW.out (Below.on b7 hb9)⟩
end Go.Proofs.Rp
