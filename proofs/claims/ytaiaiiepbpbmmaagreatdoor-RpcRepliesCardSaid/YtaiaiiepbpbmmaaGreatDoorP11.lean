/- rpc.Fail, over a contract for rpc.Words. Printed by gen_p11.py. -/
import Derived.Test.YtaiaiiepbpbmmaaGreatDoorPX
namespace Go.Proofs.Rp
open Go.RowKit Go.Maps Go.Lib Go.Proofs.Utf Go.Proofs.Jt Go.Proofs

set_option maxRecDepth 100000 in
set_option maxHeartbeats 16000000 in
theorem fail_any {w : World} (i : IdV) (S : ByteArray) (hS : (⟨i.s.toArray⟩ : ByteArray) = S) (h0 : -9223372036854775808 ≤ i.n) (h1 : i.n ≤ 9223372036854775807) (his : i.s.length ≤ 100000)
 (c : Int) (hc0 : -9223372036854775808 ≤ c) (hc1 : c ≤ 9223372036854775807) (WB : ByteArray) (hWB : (⟨(wordsV c).toArray⟩ : ByteArray) = WB) (hWD : ∀ V, Below w.heap.size w V → Calls Tryz.prog 47 #[.int .i64 c] V fun e w' => e = .returned (.string WB) ∧ Below V.heap.size V w')
 {v : JV} {T : ByteArray} {kp ip : Option Addr} {kc ic : Nat} (hT : Tabs w) (hTen : TenV w) (hK : KI w v kp kc ip ic) (hwt : v.wt ≤ 100000) (hT2 : (⟨v.str.toArray⟩ : ByteArray) = T) (X : ByteArray) (n : Nat) (hr : failV i c v = (X.data.toList, n)) :
 Calls Tryz.prog 45 #[.agg #[.int .i64 i.k, .int .i64 i.n, .string S], .int .i64 c, .agg #[.int .i64 v.kind, .string T, .slice kp v.keys.length kc, .slice ip v.items.length ic]] w fun e w' => e = .returned (.tuple #[.string X, .int .i64 n]) ∧ Below w.heap.size w w' := by
 obtain ⟨W1, hW1⟩ : ∃ W, w.alloc (.cells #[.int .i64 i.k, .int .i64 i.n, .string S] 57) = W := ⟨_, rfl⟩
 obtain ⟨W, hW⟩ : ∃ W, W1.alloc (.cells #[.int .i64 v.kind, .string T, .slice kp v.keys.length kc, .slice ip v.items.length ic] 25) = W := ⟨_, rfl⟩
 have bW1 := alloc_b hW1
 have bW2 := alloc_b hW
 have bW := Below.on bW1 bW2
 have hz1 : W1.heap.size = w.heap.size + 1 := by rw [← hW1]; simp
 have hbi : ∀ V, Below W.heap.size W V → _ := fun V hV => box3_of hW1 V (Below.on bW2 hV)
 have hbv := box_of hW
 rw [hz1] at hbv
 have HI := Lib.hid hbi
 have HV := Lib.hid hbv
 have HT : Hid (∀ V, Below W.heap.size W V → Tabs V) := Lib.hid fun V hV => hT.below (Below.on bW hV)
 have HTen : Hid (∀ V, Below W.heap.size W V → TenV V) := Lib.hid fun V hV => hTen.below (Below.on bW hV)
 have HK : Hid (∀ V, Below W.heap.size W V → KI V v kp kc ip ic) := Lib.hid fun V hV => hK.stay (Below.on bW hV)
 have HWD : Hid (∀ V, Below W.heap.size W V → Calls Tryz.prog 47 #[.int .i64 c] V fun e w' => e = .returned (.string WB) ∧ Below V.heap.size V w') := Lib.hid fun V hV => hWD V (Below.on bW hV)
 have HBW := Lib.hid bW
 subst hW1
 obtain ⟨c0, c1, c2⟩ := hbi W (Below.refl _ _)
 have hmay := may_any i S hS W
 obtain ⟨bm, hbm⟩ : ∃ b, i.may = b := ⟨_, rfl⟩
 rw [hbm] at hmay
 obtain ⟨VS, hVS⟩ : ∃ B : ByteArray, (⟨i.val.str.toArray⟩ : ByteArray) = B := ⟨_, rfl⟩
 obtain ⟨CN, hCN⟩ : ∃ B : ByteArray, (⟨(itoa c).toArray⟩ : ByteArray) = B := ⟨_, rfl⟩
 obtain ⟨hvk, hvi⟩ := val_nil i
 have HS := Lib.hid (And.intro hS (And.intro hVS hT2))
 have HC := Lib.hid (And.intro hCN hWB)
 have HCB := Lib.hid (And.intro hc0 hc1)
 have HN := Lib.hid (And.intro hvk hvi)
 have HBD := Lib.hid (And.intro h0 h1)
 have hwl : (wordsV c).length ≤ 100 := by
  unfold wordsV
  repeat' split
  all_goals decide
 have HWT : Hid ((failO i c v).wt ≤ 1000000) := Lib.hid (by
  have h2 := (val_wt h0 h1).1
  have h3 : (txtV (wordsV c)).wt ≤ 100 + (wordsV c).length := (val_wt (i := ⟨2, 0, wordsV c⟩) (by show (-9223372036854775808 : Int) ≤ 0; decide) (by show (0 : Int) ≤ _; decide)).1
  have h4 : (numJ c).wt ≤ 100 + 0 := (val_wt (i := ⟨1, c, []⟩) hc0 hc1).1
  have h5 : (txtV v20).wt = 4 := rfl
  unfold failO faultO
  rw [JV.wt]
  simp only [keysW, wtL, kVer, kId, kError, List.length_cons, List.length_nil]
  rw [JV.wt]
  split <;> simp only [keysW, wtL, kCode, kMessage, kData, List.length_cons, List.length_nil] <;> omega)
 have HL : Hid ((numJ c).str.length ≤ maxLen ∧ (wordsV c).length ≤ maxLen ∧ i.val.str.length ≤ maxLen ∧ v.str.length ≤ maxLen) := Lib.hid (by
  have h2 := (val_wt h0 h1).2
  have h3 : (itoa c).length ≤ 21 := itoa_len hc0 hc1
  have h4 := str_wt v
  have h5 : (numJ c).str.length = (itoa c).length := rfl
  unfold maxLen
  omega)
 have HR := Lib.hid (And.intro hbm hr)
 rcases nilS hWB with ⟨hw0, rfl⟩ | ⟨hwn, g1, g2⟩
 · have hr2 : X = ⟨#[]⟩ ∧ n = 2 := by
    have hr := HR.out.2
    unfold failV at hr
    rw [if_neg (fun h => h.2 hw0)] at hr
    exact ⟨ByteArray.ext (Array.toList_inj.1 (congrArg Prod.fst hr).symm), (congrArg Prod.snd hr).symm⟩
   obtain ⟨rfl, rfl⟩ := hr2
   clear hr hbm hw0 hwl hbi hbv hz1 bW bW1 bW2 hT hTen hK hS hT2 hwt hWB hWD hVS hCN hvk hvi h0 h1 hc0 hc1 his
   cases bm with
   | false =>
    go_enter Tryz.func45, Tryz.ntmps45
    go_wp2_with (first
     | (go_at_call 98; refine hmay.mono ?_; rintro e w1 ⟨rfl, hb1⟩))
    go_ret2
    exact ⟨rfl, Below.on HBW.out hb1⟩
   | true =>
    go_enter Tryz.func45, Tryz.ntmps45
    go_wp2_with (first
     | (go_at_call 98; refine hmay.mono ?_; rintro e w1 ⟨rfl, hb1⟩; have hw1 := HWD.out w1 hb1)
     | (go_at_call 47; refine hw1.mono ?_; rintro e w2 ⟨rfl, hb2⟩))
    go_ret2
    exact ⟨rfl, Below.on HBW.out (Below.on hb1 hb2)⟩
 · cases bm with
   | false =>
    have hr2 : X = ⟨#[]⟩ ∧ n = 2 := by
     have hr := HR.out.2
     unfold failV at hr
     rw [if_neg (fun h => by rw [HR.out.1] at h; cases h.1)] at hr
     exact ⟨ByteArray.ext (Array.toList_inj.1 (congrArg Prod.fst hr).symm), (congrArg Prod.snd hr).symm⟩
    obtain ⟨rfl, rfl⟩ := hr2
    clear hr hbm hwn hwl hbi hbv hz1 bW bW1 bW2 hT hTen hK hS hT2 hwt hWB hWD hVS hCN hvk hvi h0 h1 hc0 hc1 his
    go_enter Tryz.func45, Tryz.ntmps45
    go_wp2_with (first
     | (go_at_call 98; refine hmay.mono ?_; rintro e w1 ⟨rfl, hb1⟩))
    go_ret2
    exact ⟨rfl, Below.on HBW.out hb1⟩
   | true =>
    have HPUT : Hid (putV (failO i c v) = (X.data.toList, n)) := Lib.hid (by
     have hr := HR.out.2
     unfold failV at hr
     rwa [if_pos ⟨HR.out.1, hwn⟩] at hr)
    clear hr hbm hwn hwl hbi hbv hz1 bW bW1 bW2 hT hTen hK hS hT2 hwt hWB hWD hVS hCN hvk hvi h0 h1 hc0 hc1 his
    by_cases k0 : v.kind = 0
    · have q0 : (v.kind != 0) = false := by simp [k0]
      have hflt : faultO c v = .mk 6 [] [kCode, kMessage] [numJ c, txtV (wordsV c)] := by
       unfold faultO
       simp [k0]
      clear k0
      go_enter Tryz.func45, Tryz.ntmps45
      go_upto_region 4 with (first
       | (go_at_call 98; refine hmay.mono ?_; rintro e w1 ⟨rfl, hb1⟩; have hw1 := HWD.out w1 hb1)
       | (with_reducible (show Calls _ _ _ w1 _); go_at_call 47; refine hw1.mono ?_; rintro e w2 ⟨rfl, hb2⟩; have b2 := Below.on hb1 hb2)
       | (go_at_call 107; refine (object_new _).mono ?_; rintro e w3 ⟨lo, tb, ob, rfl, hop, hb3⟩; have HO3 := Lib.hid hop; have b3 := Below.on b2 hb3; clear hop))
      have hnum := number_any c HCB.out.1 HCB.out.2 CN HC.out.1 w3 (HTen.out w3 b3)
      go_upto_region 5 with (first
       | (go_at_call 108; refine hnum.mono ?_; rintro e w4 ⟨rfl, hb4⟩
          have had := add_leaf (HO3.out.below hb4) ⟨#[99, 111, 100, 101]⟩ (numJ c) CN HC.out.1 rfl rfl (by decide) (by decide))
       | (go_at_call 154; refine had.mono ?_; rintro e w5 ⟨rfl, p1, q1, p2, q2, hop5, hb5⟩; have HO5 := Lib.hid hop5; have c5 : Below w2.heap.size w2 w5 := (Below.on hb3 hb4).trans hb5; have b5 := Below.on b2 c5; clear hop5))
      clear had hnum
      have hw5 := HWD.out w5 b5
      go_upto_region 6 with (first
       | (with_reducible (show Calls _ _ _ w5 _); go_at_call 47; refine hw5.mono ?_; rintro e w6 ⟨rfl, hb6⟩; have htx := text_any WB w6)
       | (with_reducible (show Calls _ _ _ w6 _); go_at_call 101; refine htx.mono ?_; rintro e w7 ⟨rfl, hb7⟩
          have had2 := add_leaf (HO5.out.below (Below.on hb6 hb7)) ⟨#[109, 101, 115, 115, 97, 103, 101]⟩ (txtV (wordsV c)) WB HC.out.2 rfl rfl (by decide) (by show 1 ≤ 1000; decide))
       | (go_at_call 154; refine had2.mono ?_; rintro e w8 ⟨rfl, p3, q3, p4, q4, hop8, hb8⟩; have HO8 := Lib.hid hop8; have c8 : Below w2.heap.size w2 w8 := (Below.on c5 (Below.on hb6 hb7)).trans hb8; have b8 := Below.on b2 c8; clear hop8))
      clear had2 htx hw5
      obtain ⟨d0, d1, d2, d3⟩ := HV.out w8 b8
      go_upto_region 8 with fail
      have HO9 := HO8
      have c9 := c8
      have b9 := b8
      clear d0 d1 d2 d3
      have hopf : OP w2.heap.size w8 lo tb ob [kCode, kMessage] [leafC (numJ c), leafC (txtV (wordsV c))] p3 q3 p4 q4 := HO9.out
      have hkf : KI w8 (faultO c v) p3 q3 p4 q4 := by
       rw [hflt]
       exact hopf.ki (fun c hc => by
        simp only [List.mem_cons, List.not_mem_nil, or_false] at hc
        rcases hc with rfl | rfl
        · exact leaf_ok rfl rfl HL.out.1
        · exact leaf_ok rfl rfl HL.out.2.1) ⟨(by show 2 ≤ maxLen; decide), by decide, keys_short (by decide)⟩
      have HOF := Lib.hid hopf
      have HKF := Lib.hid hkf
      clear hopf hkf
      go_upto_region 9 with (first
       | (go_at_call 99; refine (message_new _).mono ?_; rintro e wa ⟨lo2, tb2, ob2, r1, s1, r2, s2, rfl, hopa, hba⟩; have HOA := Lib.hid hopa; have ba := Below.on b9 hba; clear hopa))
      obtain ⟨c0, c1, c2⟩ := HI.out wa ba
      have hval := value_any i S VS HS.out.1 HS.out.2.1 HBD.out.1 HBD.out.2 wa (HTen.out wa ba)
      go_upto_region 10 with (first
       | (go_at_call 100; refine hval.mono ?_; rintro e wb ⟨rfl, hbb⟩
          have had4 := add_leaf (HOA.out.below hbb) ⟨#[105, 100]⟩ i.val VS HS.out.2.1 HN.out.1 HN.out.2 (by decide) (by decide))
       | (go_at_call 154; refine had4.mono ?_; rintro e wc ⟨rfl, r3, s3, r4, s4, hopc, hbc⟩; have HOC := Lib.hid hopc; have cc9 : Below w8.heap.size w8 wc := (Below.on hba hbb).trans hbc; clear hopc))
      clear had4 hval c0 c1 c2
      obtain ⟨f0, f1, f2, f3⟩ := cells4 (HOF.out.below cc9).ho
      simp only [List.length_cons, List.length_nil] at f2 f3
      have had5 : Calls Tryz.prog 154 #[.string ⟨#[101, 114, 114, 111, 114]⟩, .agg #[.int .i64 6, .string ⟨#[]⟩, .slice p3 2 q3, .slice p4 2 q4], .pointer (some ⟨tb2, 0, none⟩)] wc fun e w' => e = .returned (.tuple #[]) ∧ ∃ kp kc ip ic, OP w8.heap.size w' lo2 tb2 ob2 [kVer, kId, kError] (L20 ++ [leafC i.val] ++ [⟨faultO c v, p3, q3, p4, q4⟩]) kp kc ip ic ∧ Below w8.heap.size wc w' := by
       have := add_any HOC.out ⟨#[101, 114, 114, 111, 114]⟩ ⟨faultO c v, p3, q3, p4, q4⟩ ⟨#[]⟩ rfl (by decide) (by show 2 ≤ 1000; decide)
       simp only [hflt] at this
       rw [hflt]
       exact this
      go_upto_region 11 with (first
       | (go_at_call 154; refine had5.mono ?_; rintro e wd ⟨rfl, r5, s5, r6, s6, hopd, hbd⟩; have HOD := Lib.hid hopd; have c9d : Below w8.heap.size w8 wd := cc9.trans hbd; have bd := Below.on b9 c9d; clear hopd))
      have hopd : OP w8.heap.size wd lo2 tb2 ob2 [kVer, kId, kError] [leafC (txtV v20), leafC i.val, ⟨faultO c v, p3, q3, p4, q4⟩] r5 s5 r6 s6 := HOD.out
      obtain ⟨o0, o1, o2, o3⟩ := cells4 hopd.ho
      have hki : KI wd (failO i c v) r5 s5 r6 s6 := hopd.ki (fun c hc => by
       simp only [List.mem_cons, List.not_mem_nil, or_false] at hc
       rcases hc with rfl | rfl | rfl
       · exact leaf_ok rfl rfl (by decide)
       · exact leaf_ok HN.out.1 HN.out.2 HL.out.2.2.1
       · exact ⟨HKF.out.stay c9d, by show (List.length (α := UInt8) []) ≤ maxLen; decide⟩) ⟨(by show 3 ≤ maxLen; decide), by decide, keys_short (by decide)⟩
      have h84 : Calls Tryz.prog 84 #[.agg #[.int .i64 6, .string ⟨#[]⟩, .slice r5 3 s5, .slice r6 3 s6]] wd fun e w'' => e = .returned (.tuple #[.string X, .int .i64 (n : Nat)]) ∧ Below wd.heap.size wd w'' := put_is (HT.out wd bd) hki HWT.out (S := ⟨#[]⟩) rfl HPUT.out wd (Below.refl _ _)
      simp only [List.length_cons, List.length_nil] at o2 o3
      clear f0 f1 f2 f3 had5
      go_wp2_with (first
       | (go_at_call 84; refine h84.mono ?_; rintro e we ⟨rfl, hbe⟩))
      go_ret2
      exact ⟨rfl, Below.on HBW.out (Below.on bd hbe)⟩
    · have q0 : (v.kind != 0) = true := by simp [k0]
      have hflt : faultO c v = .mk 6 [] [kCode, kMessage, kData] [numJ c, txtV (wordsV c), v] := by
       unfold faultO
       simp [k0]
      clear k0
      go_enter Tryz.func45, Tryz.ntmps45
      go_upto_region 4 with (first
       | (go_at_call 98; refine hmay.mono ?_; rintro e w1 ⟨rfl, hb1⟩; have hw1 := HWD.out w1 hb1)
       | (with_reducible (show Calls _ _ _ w1 _); go_at_call 47; refine hw1.mono ?_; rintro e w2 ⟨rfl, hb2⟩; have b2 := Below.on hb1 hb2)
       | (go_at_call 107; refine (object_new _).mono ?_; rintro e w3 ⟨lo, tb, ob, rfl, hop, hb3⟩; have HO3 := Lib.hid hop; have b3 := Below.on b2 hb3; clear hop))
      have hnum := number_any c HCB.out.1 HCB.out.2 CN HC.out.1 w3 (HTen.out w3 b3)
      go_upto_region 5 with (first
       | (go_at_call 108; refine hnum.mono ?_; rintro e w4 ⟨rfl, hb4⟩
          have had := add_leaf (HO3.out.below hb4) ⟨#[99, 111, 100, 101]⟩ (numJ c) CN HC.out.1 rfl rfl (by decide) (by decide))
       | (go_at_call 154; refine had.mono ?_; rintro e w5 ⟨rfl, p1, q1, p2, q2, hop5, hb5⟩; have HO5 := Lib.hid hop5; have c5 : Below w2.heap.size w2 w5 := (Below.on hb3 hb4).trans hb5; have b5 := Below.on b2 c5; clear hop5))
      clear had hnum
      have hw5 := HWD.out w5 b5
      go_upto_region 6 with (first
       | (with_reducible (show Calls _ _ _ w5 _); go_at_call 47; refine hw5.mono ?_; rintro e w6 ⟨rfl, hb6⟩; have htx := text_any WB w6)
       | (with_reducible (show Calls _ _ _ w6 _); go_at_call 101; refine htx.mono ?_; rintro e w7 ⟨rfl, hb7⟩
          have had2 := add_leaf (HO5.out.below (Below.on hb6 hb7)) ⟨#[109, 101, 115, 115, 97, 103, 101]⟩ (txtV (wordsV c)) WB HC.out.2 rfl rfl (by decide) (by show 1 ≤ 1000; decide))
       | (go_at_call 154; refine had2.mono ?_; rintro e w8 ⟨rfl, p3, q3, p4, q4, hop8, hb8⟩; have HO8 := Lib.hid hop8; have c8 : Below w2.heap.size w2 w8 := (Below.on c5 (Below.on hb6 hb7)).trans hb8; have b8 := Below.on b2 c8; clear hop8))
      clear had2 htx hw5
      obtain ⟨d0, d1, d2, d3⟩ := HV.out w8 b8
      have had3 := add_any HO8.out ⟨#[100, 97, 116, 97]⟩ ⟨v, kp, kc, ip, ic⟩ T HS.out.2.2 (by decide) (by show 2 ≤ 1000; decide)
      go_upto_region 8 with (first
       | (go_at_call 154; refine had3.mono ?_; rintro e w9 ⟨rfl, p5, q5, p6, q6, hop9, hb9⟩; have HO9 := Lib.hid hop9; have c9 : Below w2.heap.size w2 w9 := c8.trans hb9; have b9 := Below.on b2 c9; clear hop9))
      clear had3
      clear d0 d1 d2 d3
      have hopf : OP w2.heap.size w9 lo tb ob [kCode, kMessage, kData] [leafC (numJ c), leafC (txtV (wordsV c)), ⟨v, kp, kc, ip, ic⟩] p5 q5 p6 q6 := HO9.out
      have hkf : KI w9 (faultO c v) p5 q5 p6 q6 := by
       rw [hflt]
       exact hopf.ki (fun c hc => by
        simp only [List.mem_cons, List.not_mem_nil, or_false] at hc
        rcases hc with rfl | rfl | rfl
        · exact leaf_ok rfl rfl HL.out.1
        · exact leaf_ok rfl rfl HL.out.2.1
        · exact ⟨HK.out w9 b9, HL.out.2.2.2⟩) ⟨(by show 3 ≤ maxLen; decide), by decide, keys_short (by decide)⟩
      have HOF := Lib.hid hopf
      have HKF := Lib.hid hkf
      clear hopf hkf
      go_upto_region 9 with (first
       | (go_at_call 99; refine (message_new _).mono ?_; rintro e wa ⟨lo2, tb2, ob2, r1, s1, r2, s2, rfl, hopa, hba⟩; have HOA := Lib.hid hopa; have ba := Below.on b9 hba; clear hopa))
      obtain ⟨c0, c1, c2⟩ := HI.out wa ba
      have hval := value_any i S VS HS.out.1 HS.out.2.1 HBD.out.1 HBD.out.2 wa (HTen.out wa ba)
      go_upto_region 10 with (first
       | (go_at_call 100; refine hval.mono ?_; rintro e wb ⟨rfl, hbb⟩
          have had4 := add_leaf (HOA.out.below hbb) ⟨#[105, 100]⟩ i.val VS HS.out.2.1 HN.out.1 HN.out.2 (by decide) (by decide))
       | (go_at_call 154; refine had4.mono ?_; rintro e wc ⟨rfl, r3, s3, r4, s4, hopc, hbc⟩; have HOC := Lib.hid hopc; have cc9 : Below w9.heap.size w9 wc := (Below.on hba hbb).trans hbc; clear hopc))
      clear had4 hval c0 c1 c2
      obtain ⟨f0, f1, f2, f3⟩ := cells4 (HOF.out.below cc9).ho
      simp only [List.length_cons, List.length_nil] at f2 f3
      have had5 : Calls Tryz.prog 154 #[.string ⟨#[101, 114, 114, 111, 114]⟩, .agg #[.int .i64 6, .string ⟨#[]⟩, .slice p5 3 q5, .slice p6 3 q6], .pointer (some ⟨tb2, 0, none⟩)] wc fun e w' => e = .returned (.tuple #[]) ∧ ∃ kp kc ip ic, OP w9.heap.size w' lo2 tb2 ob2 [kVer, kId, kError] (L20 ++ [leafC i.val] ++ [⟨faultO c v, p5, q5, p6, q6⟩]) kp kc ip ic ∧ Below w9.heap.size wc w' := by
       have := add_any HOC.out ⟨#[101, 114, 114, 111, 114]⟩ ⟨faultO c v, p5, q5, p6, q6⟩ ⟨#[]⟩ rfl (by decide) (by show 2 ≤ 1000; decide)
       simp only [hflt] at this
       rw [hflt]
       exact this
      go_upto_region 11 with (first
       | (go_at_call 154; refine had5.mono ?_; rintro e wd ⟨rfl, r5, s5, r6, s6, hopd, hbd⟩; have HOD := Lib.hid hopd; have c9d : Below w9.heap.size w9 wd := cc9.trans hbd; have bd := Below.on b9 c9d; clear hopd))
      have hopd : OP w9.heap.size wd lo2 tb2 ob2 [kVer, kId, kError] [leafC (txtV v20), leafC i.val, ⟨faultO c v, p5, q5, p6, q6⟩] r5 s5 r6 s6 := HOD.out
      obtain ⟨o0, o1, o2, o3⟩ := cells4 hopd.ho
      have hki : KI wd (failO i c v) r5 s5 r6 s6 := hopd.ki (fun c hc => by
       simp only [List.mem_cons, List.not_mem_nil, or_false] at hc
       rcases hc with rfl | rfl | rfl
       · exact leaf_ok rfl rfl (by decide)
       · exact leaf_ok HN.out.1 HN.out.2 HL.out.2.2.1
       · exact ⟨HKF.out.stay c9d, by show (List.length (α := UInt8) []) ≤ maxLen; decide⟩) ⟨(by show 3 ≤ maxLen; decide), by decide, keys_short (by decide)⟩
      have h84 : Calls Tryz.prog 84 #[.agg #[.int .i64 6, .string ⟨#[]⟩, .slice r5 3 s5, .slice r6 3 s6]] wd fun e w'' => e = .returned (.tuple #[.string X, .int .i64 (n : Nat)]) ∧ Below wd.heap.size wd w'' := put_is (HT.out wd bd) hki HWT.out (S := ⟨#[]⟩) rfl HPUT.out wd (Below.refl _ _)
      simp only [List.length_cons, List.length_nil] at o2 o3
      clear f0 f1 f2 f3 had5
      go_wp2_with (first
       | (go_at_call 84; refine h84.mono ?_; rintro e we ⟨rfl, hbe⟩))
      go_ret2
      exact ⟨rfl, Below.on HBW.out (Below.on bd hbe)⟩
end Go.Proofs.Rp
