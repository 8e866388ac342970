/- emendref24.Put. Printed by gen_q7.py. -/
import Derived.Test.YtaiaiiepbpbmmaaGreatDoorQY
import Derived.Deep.CutBlock
namespace Go.Proofs.Rp
open Go.RowKit Go.Maps Go.Lib Go.Proofs.Utf Go.Proofs.Jt Go.Proofs

set_option maxRecDepth 100000 in
set_option maxHeartbeats 16000000 in
theorem rputM_any {w : World} (k : Int) (i : IdV) (ms : List UInt8) (p : JV) (I M P : ByteArray) (hI : (⟨i.s.toArray⟩ : ByteArray) = I) (hM : (⟨ms.toArray⟩ : ByteArray) = M) (hP : (⟨p.str.toArray⟩ : ByteArray) = P)
 (h0 : -9223372036854775808 ≤ i.n) (h1 : i.n ≤ 9223372036854775807) (his : i.s.length ≤ 10000) (hml : ms.length ≤ 10000) (hwt : p.wt ≤ 10000) {kp ip : Option Addr} {kc ic : Nat} (hK : KI w p kp kc ip ic) (X : ByteArray) (n : Nat) (hr : putM ⟨k, i, ms, p⟩ = (X.data.toList, n)) :
 Calls Tryz.prog 40 #[.agg #[.int .i64 k, .int .i64 i.k, .int .i64 i.n, .string I, .string M, .int .i64 p.kind, .string P, .slice kp p.keys.length kc, .slice ip p.items.length ic]] w fun e w' => e = .returned (.tuple #[.string X, .int .i64 n]) ∧ Below w.heap.size w w' := by
 obtain ⟨W, hW⟩ : ∃ W, w.alloc (.cells #[.int .i64 k, .int .i64 i.k, .int .i64 i.n, .string I, .string M, .int .i64 p.kind, .string P, .slice kp p.keys.length kc, .slice ip p.items.length ic] 64) = W := ⟨_, rfl⟩
 have bW := alloc_b hW
 have HM : Hid (∀ V, Below W.heap.size W V → _) := Lib.hid fun V hV => row_of hW V hV
 have HK : Hid (∀ V, Below W.heap.size W V → KI V p kp kc ip ic) := Lib.hid fun V hV => hK.stay (Below.on bW hV)
 have HBW := Lib.hid bW
 obtain ⟨VS, hVS⟩ : ∃ B : ByteArray, (⟨i.val.str.toArray⟩ : ByteArray) = B := ⟨_, rfl⟩
 obtain ⟨Q, hQ⟩ : ∃ Q, (decide (p.kind = 0) || decide (p.kind = 5) || decide (p.kind = 6)) = Q := ⟨_, rfl⟩
 obtain ⟨bm, hbm⟩ : ∃ b, i.may = b := ⟨_, rfl⟩
 obtain ⟨B1, hB1⟩ : ∃ B, ((decide (k = 1) || decide (k = 2)) && bm && (decide (k = 1) == decide (i.k ≠ 0))) = B := ⟨_, rfl⟩
 have hmay := rmay_any i I hI W
 rw [hbm] at hmay
 have HOKE : Hid (MsgV.okay ⟨k, i, ms, p⟩ = (B1 && Q)) := Lib.hid (by rw [← hB1, ← hbm, ← hQ]; rfl)
 have HB1 := Lib.hid hB1
 have HQ := Lib.hid hQ
 have HR := Lib.hid hr
 have HS := Lib.hid (And.intro hI (And.intro hVS (And.intro hM hP)))
 have HBD := Lib.hid (And.intro h0 h1)
 obtain ⟨hvk, hvi⟩ := val_nil i
 have HN := Lib.hid (And.intro hvk hvi)
 have HW : Hid (i.val.wt ≤ 10100 ∧ (txtV ms).wt ≤ 10100 ∧ p.wt ≤ 10000) := Lib.hid (by
  have h2 := (val_wt h0 h1).1
  have h3 : (txtV ms).wt ≤ 100 + ms.length := (val_wt (i := ⟨2, 0, ms⟩) (by show (-9223372036854775808 : Int) ≤ 0; decide) (by show (0 : Int) ≤ _; decide)).1
  omega)
 have HL : Hid (i.val.str.length ≤ maxLen ∧ ms.length ≤ maxLen ∧ p.str.length ≤ maxLen) := Lib.hid (by
  have h2 := (val_wt h0 h1).2
  have h3 := str_wt p
  unfold maxLen
  omega)
 have hbad : ((B1 && Q) = false) → X = ⟨#[]⟩ ∧ n = 2 := fun hf => by
  have hr := HR.out
  unfold putM at hr
  rw [if_neg (by rw [HOKE.out, hf]; simp)] at hr
  exact ⟨ByteArray.ext (Array.toList_inj.1 (congrArg Prod.fst hr).symm), (congrArg Prod.snd hr).symm⟩
 have HBAD := Lib.hid hbad
 obtain ⟨m0, m1, m2, m3, m4, m5, m6, m7, m8⟩ := cells9 (HM.out W (Below.refl _ _))
 clear hI hM hP hVS hQ hbm hB1 hvk hvi h0 h1 his hml hwt hK hr bW hbad
 go_enter Tryz.func40, Tryz.ntmps40
 go_upto_region 1 with fail
 go_cut [41] (fun x wx => x = .bool (!B1) ∧ Below W.heap.size W wx)
 case first =>
  by_cases k1 : k = 1
  · subst k1
    cases bm with
    | false =>
     obtain rfl : B1 = false := by rw [← HB1.out]; simp
     go_wp2_with (first
      | (go_at_call 102; refine hmay.mono ?_; rintro e w1 ⟨rfl, hb1⟩; clear m0 m1 m2 m3 m4 m5 m6 m7 m8; obtain ⟨m0, m1, m2, m3, m4, m5, m6, m7, m8⟩ := cells9 (HM.out w1 hb1)))
     go_meet
     exact ⟨rfl, hb1⟩
    | true =>
     by_cases ik : i.k = 0
     · have j1 : (i.k != 0) = false := by simp [ik]
       have j2 : (i.k == 0) = true := by simp [ik]
       obtain rfl : B1 = false := by rw [← HB1.out]; simp [ik]
       clear ik
       go_wp2_with (first
        | (go_at_call 102; refine hmay.mono ?_; rintro e w1 ⟨rfl, hb1⟩; clear m0 m1 m2 m3 m4 m5 m6 m7 m8; obtain ⟨m0, m1, m2, m3, m4, m5, m6, m7, m8⟩ := cells9 (HM.out w1 hb1)))
       go_meet
       exact ⟨rfl, hb1⟩
     · have j1 : (i.k != 0) = true := by simp [ik]
       have j2 : (i.k == 0) = false := by simp [ik]
       obtain rfl : B1 = true := by rw [← HB1.out]; simp [ik]
       clear ik
       go_wp2_with (first
        | (go_at_call 102; refine hmay.mono ?_; rintro e w1 ⟨rfl, hb1⟩; clear m0 m1 m2 m3 m4 m5 m6 m7 m8; obtain ⟨m0, m1, m2, m3, m4, m5, m6, m7, m8⟩ := cells9 (HM.out w1 hb1)))
       go_meet
       exact ⟨rfl, hb1⟩
  · have n1 : (k != 1) = true := by simp [k1]
    have e1 : (k == 1) = false := by simp [k1]
    by_cases k2 : k = 2
    · subst k2
      cases bm with
      | false =>
       obtain rfl : B1 = false := by rw [← HB1.out]; simp
       go_wp2_with (first
        | (go_at_call 102; refine hmay.mono ?_; rintro e w1 ⟨rfl, hb1⟩; clear m0 m1 m2 m3 m4 m5 m6 m7 m8; obtain ⟨m0, m1, m2, m3, m4, m5, m6, m7, m8⟩ := cells9 (HM.out w1 hb1)))
       go_meet
       exact ⟨rfl, hb1⟩
      | true =>
       by_cases ik : i.k = 0
       · have j1 : (i.k != 0) = false := by simp [ik]
         have j2 : (i.k == 0) = true := by simp [ik]
         obtain rfl : B1 = true := by rw [← HB1.out]; simp [ik]
         clear ik
         go_wp2_with (first
          | (go_at_call 102; refine hmay.mono ?_; rintro e w1 ⟨rfl, hb1⟩; clear m0 m1 m2 m3 m4 m5 m6 m7 m8; obtain ⟨m0, m1, m2, m3, m4, m5, m6, m7, m8⟩ := cells9 (HM.out w1 hb1)))
         go_meet
         exact ⟨rfl, hb1⟩
       · have j1 : (i.k != 0) = true := by simp [ik]
         have j2 : (i.k == 0) = false := by simp [ik]
         obtain rfl : B1 = false := by rw [← HB1.out]; simp [ik]
         clear ik
         go_wp2_with (first
          | (go_at_call 102; refine hmay.mono ?_; rintro e w1 ⟨rfl, hb1⟩; clear m0 m1 m2 m3 m4 m5 m6 m7 m8; obtain ⟨m0, m1, m2, m3, m4, m5, m6, m7, m8⟩ := cells9 (HM.out w1 hb1)))
         go_meet
         exact ⟨rfl, hb1⟩
    · have n2 : (k != 2) = true := by simp [k2]
      obtain rfl : B1 = false := by rw [← HB1.out]; simp [k1, k2]
      go_wp2_with fail
      go_meet
      exact ⟨rfl, Below.refl _ _⟩
 case rest =>
  obtain ⟨rfl, hbc⟩ := hcut
  clear m0 m1 m2 m3 m4 m5 m6 m7 m8 hmay
  obtain ⟨m0, m1, m2, m3, m4, m5, m6, m7, m8⟩ := cells9 (HM.out wc hbc)
  cases B1 with
  | false =>
   obtain ⟨rfl, rfl⟩ := HBAD.out rfl
   go_wp2_with fail
   go_ret2
   exact ⟨rfl, Below.on HBW.out hbc⟩
  | true =>
   go_upto_region 4 with fail
   have hk : k = 1 ∨ k = 2 := by
    have := HB1.out
    by_cases k1 : k = 1
    · exact .inl k1
    · by_cases k2 : k = 2
      · exact .inr k2
      · simp [k1, k2] at this
   cases Q with
   | false =>
    obtain ⟨rfl, rfl⟩ := HBAD.out rfl
    have hq := HQ.out
    simp only [Bool.or_eq_false_iff, decide_eq_false_iff_not] at hq
    have r0 : (p.kind != 0) = true := by simp [hq.1.1]
    have r5 : (p.kind != 5) = true := by simp [hq.1.2]
    have r6 : (p.kind != 6) = true := by simp [hq.2]
    clear hq
    go_wp2_with fail
    go_ret2
    exact ⟨rfl, Below.on HBW.out hbc⟩
   | true =>
    have HOK : Hid (MsgV.okay ⟨k, i, ms, p⟩ = true) := Lib.hid HOKE.out
    have hp : (p.kind = 0) ∨ ((p.kind != 0) = true ∧ ((p.kind != 5) = false ∨ ((p.kind != 5) = true ∧ (p.kind != 6) = false))) := by
     have hq := HQ.out
     by_cases p0 : p.kind = 0
     · exact .inl p0
     · by_cases p5 : p.kind = 5
       · exact .inr ⟨by simp [p0], .inl (by simp [p5])⟩
       · by_cases p6 : p.kind = 6
         · exact .inr ⟨by simp [p0], .inr ⟨by simp [p5], by simp [p6]⟩⟩
         · simp [p0, p5, p6] at hq
    rcases hp with p0 | ⟨q0, hp⟩
    · have q0 : (p.kind != 0) = false := by simp [p0]
      have P0 := Lib.hid p0
      clear p0
      go_upto_region 6 with fail
      have p0 := P0.out
      rcases hk with rfl | rfl
      · have e1 : Hid True := Lib.hid trivial
        have hput : putV (.mk 6 [] [kVer, kId, kMethod] [txtV v20, i.val, txtV ms]) = (X.data.toList, n) := by
         have := HR.out
         unfold putM at this
         rw [if_pos HOK.out] at this
         rw [← this]
         unfold MsgV.keys MsgV.items
         simp [p0]
        have HPUT := Lib.hid hput
        have HWT : Hid ((JV.mk 6 [] [kVer, kId, kMethod] [txtV v20, i.val, txtV ms]).wt ≤ 100000) := Lib.hid (by
         rw [JV.wt]
         simp only [keysW, wtL, kVer, kId, kMethod, List.length_cons, List.length_nil]
         have : (txtV v20).wt = 4 := rfl
         have h1 := HW.out
         omega)
        clear hput p0
        go_upto_region 7 with (first
         | (go_at_call 103; refine (begun_any _).mono ?_; rintro e w2 ⟨p1, q1, p2, q2, rfl, hor, hb2⟩
            obtain ⟨W3, hW3⟩ : ∃ V, w2.alloc (.cells #[.int .i64 0, .string ⟨#[]⟩, .slice none 0 0, .slice none 0 0] 25) = V := ⟨_, rfl⟩
            have bW3 := alloc_b hW3
            have hj3 : JBox W3 w2.heap.size := (by rw [← hW3]; exact JBox.alloc _ _ _ _ _)
            have HJ3 := Lib.hid hj3
            clear hj3)
         | (refine store_val rfl (.tmp 5) (.tmp 55) rfl w2.heap.size rfl (.int .i64 6) (.string ⟨#[]⟩) (.slice p1 1 q1) (.slice p2 1 q2) rfl rfl HJ3.out (fun V3 hx3 hg3 _ => ?_)))
        obtain ⟨zx, hzp⟩ : ∃ z, w2.heap.size = z := ⟨_, rfl⟩
        have hza : Ap zx p1 p2 := hor.ap (.inr (by omega))
        have hor3 := (hor.below bW3).set hg3 (by rw [hzp]; exact hza)
        rw [hzp] at hx3 hg3 ⊢
        have hzw : W.heap.size ≤ zx := by have := hbc.size; have := hb2.size; omega
        have b3 : Below W.heap.size W V3 := below_gbz (Below.on (Below.on hbc hb2) bW3) hzw hg3
        have hzx : zx < V3.heap.size := (ltS hx3)
        have hzc : W.heap.size ≤ wc.heap.size := hbc.size
        clear hor hb2 bW3 hg3 hzp hW3 m0 m1 m2 m3 m4 m5 m6 m7 m8
        obtain ⟨m0, m1, m2, m3, m4, m5, m6, m7, m8⟩ := cells9 (HM.out V3 b3)
        go_upto_region 8 with fail
        clear m0 m1 m2 m3 m4 m5 m6 m7 m8
        refine wp_region_late (S := (fun V => V.heap[zx]? = some (.cells #[.int .i64 6, .string ⟨#[]⟩, .slice p1 1 q1, .slice p2 1 q2] 25 (0, 0)) ∧ V.heap[w.heap.size]? = some (.cells #[.int .i64 1, .int .i64 i.k, .int .i64 i.n, .string I, .string M, .int .i64 p.kind, .string P, .slice kp p.keys.length kc, .slice ip p.items.length ic] 64 (0, 0)))) 5 (by kernel_rfl) (show (fun V => V.heap[zx]? = some (.cells #[.int .i64 6, .string ⟨#[]⟩, .slice p1 1 q1, .slice p2 1 q2] 25 (0, 0)) ∧ V.heap[w.heap.size]? = some (.cells #[.int .i64 1, .int .i64 i.k, .int .i64 i.n, .string I, .string M, .int .i64 p.kind, .string P, .slice kp p.keys.length kc, .slice ip p.items.length ic] 64 (0, 0))) V3.drew from ⟨hx3, HM.out V3 b3⟩) (fun hHeld => ?_)
        refine wpAnyU_take (i := 0) (oi := { dst := some 59, op := Op.load 25 (Operand.tmp 5), type := 25, pos := "ref.go:129", after := #[], guard := none }) (v := ?_) [4, 5] rfl (by kernel_rfl) (by kernel_rfl) (by kernel_rfl) (by kernel_rfl) (fun _ _ _ h => h) (Or.inl ⟨by rfl, ?_⟩) (by assumption) ?_
        rotate_left
        · intro w hS; obtain ⟨k0, k1, k2, k3⟩ := cells4 hS.1; obtain ⟨m0, m1, m2, m3, m4, m5, m6, m7, m8⟩ := cells9 hS.2; go_simp; with_reducible rfl
        try simp only [Act.put, aSA, aSZ, aSS]
        refine wpAnyU_take (i := 1) (oi := { dst := some 60, op := Op.fieldAddr 64 (Operand.tmp 1) 1, type := 0, pos := "ref.go:129", after := #[], guard := none }) (v := ?_) [2, 3, 4, 5] rfl (by kernel_rfl) (by kernel_rfl) (by kernel_rfl) (by kernel_rfl) (fun _ _ _ h => h) (Or.inl ⟨by rfl, ?_⟩) (by assumption) ?_
        rotate_left
        · intro w hS; obtain ⟨k0, k1, k2, k3⟩ := cells4 hS.1; obtain ⟨m0, m1, m2, m3, m4, m5, m6, m7, m8⟩ := cells9 hS.2; go_simp; with_reducible rfl
        try simp only [Act.put, aSA, aSZ, aSS]
        refine wpAnyU_take (i := 2) (oi := { dst := some 61, op := Op.load 62 (Operand.tmp 60), type := 62, pos := "ref.go:129", after := #[eDa 1], guard := none }) (v := ?_) [3, 4, 5] rfl (by kernel_rfl) (by kernel_rfl) (by kernel_rfl) (by kernel_rfl) (fun _ _ _ h => h) (Or.inl ⟨by rfl, ?_⟩) (by assumption) ?_
        rotate_left
        · intro w hS; obtain ⟨k0, k1, k2, k3⟩ := cells4 hS.1; obtain ⟨m0, m1, m2, m3, m4, m5, m6, m7, m8⟩ := cells9 hS.2; go_simp; with_reducible rfl
        try simp only [Act.put, aSA, aSZ, aSS]
        refine wpAnyU_ready (rs := [3]) (by kernel_rfl) (by simp) (AllReadyU.cons (o := { dst := some 62, op := Op.call { callee := Callee.value (Operand.func 105), args := #[Operand.tmp 61], argTypes := #[62] }, type := 25, pos := "ref.go:129", after := #[eDa 2], guard := none }) rfl (fun K hK => ?_) AllReadyU.nil)
        rw [if_pos (by rfl)]
        go_simp
        (go_at_call 105; refine (rvalue24_any i I VS HS.out.1 HS.out.2.1 HBD.out.1 HBD.out.2 _).mono ?_; rintro e w4 ⟨rfl, hb4⟩; have b34 : Below V3.heap.size V3 w4 := (Below.refl _ _).drew.trans hb4; have hor4 := hor3.below b34)
        refine hK.out _ _ (fun _ => ⟨(b34.block _ hzx).trans hx3, HM.out w4 (Below.on b3 b34)⟩) (fun hS2 => ?_)
        replace hS2 := hS2 (by decide)
        clear hK K
        try simp only [Act.put, aSA, aSZ, aSS]
        refine wpAnyU_ready (rs := [4]) (by kernel_rfl) (by simp) (AllReadyU.cons (o := { dst := some 63, op := Op.call { callee := Callee.value (Operand.func 104), args := #[Operand.tmp 59, Operand.const (Value.string { data := #[105, 100] }), Operand.tmp 62], argTypes := #[25, 9, 25] }, type := 25, pos := "ref.go:129", after := #[eDa 0, eDa 3, eCh 3], guard := none }) rfl (fun K hK => ?_) AllReadyU.nil)
        rw [if_pos (by rfl)]
        go_simp
        (go_at_call 104; refine (with_leaf hor4 ⟨#[105, 100]⟩ i.val VS HS.out.2.1 HN.out.1 HN.out.2 1 2 1 2 rfl rfl rfl rfl (by decide) (by decide)).mono ?_; rintro e w5 ⟨p3, q3, p4, q4, rfl, hor5, hb5, hap5⟩; obtain ⟨hz5, hza5⟩ := hap5 zx (Nat.lt_of_lt_of_le hzx b34.size) hza; have b5 : Below W.heap.size W w5 := (Below.on b3 b34).trans (hb5.mono hzc))
        refine hK.out _ _ (fun _ => ⟨hz5.trans ((b34.block _ hzx).trans hx3), HM.out w5 b5⟩) (fun hS2 => ?_)
        replace hS2 := hS2 (by decide)
        clear hK K
        try simp only [Act.put, aSA, aSZ, aSS]
        refine wpAnyU_ready (rs := [5]) (by kernel_rfl) (by simp) (AllReadyU.cons (o := { dst := none, op := Op.store 25 (Operand.tmp 5) (Operand.tmp 63), type := 0, pos := "ref.go:129", after := #[eDa 4, eCh 4, ePh 0, ePh 1, ePh 2, ePh 3, ePh 4], guard := none }) rfl (fun K hK => ?_) AllReadyU.nil)
        rw [if_pos (by rfl)]
        refine store_val2 (.tmp 5) (.tmp 63) rfl zx rfl (.int .i64 6) (.string ⟨#[]⟩) (.slice p3 2 q3) (.slice p4 2 q4) rfl (by simp [Value.oneCell']) ⟨_, _, _, _, hz5.trans ((b34.block _ hzx).trans hx3)⟩ (fun V6 hx6 hg6 _ => ?_)
        refine hK.out _ _ (fun h => absurd h (by decide)) (fun _ => ?_)
        clear hK K
        try simp only [Act.put]
        have b6 := below_gbz b5 hzw hg6
        have hor6 : OR wc.heap.size V6 [kVer, kId] [leafC (txtV v20), leafC i.val] p3 q3 p4 q4 := hor5.set hg6 hza5
        have hzx6 : zx < V6.heap.size := (ltS hx6)
        clear b34 b5 hor4 hor5 hb4 hb5 hg6 hx3 hor3 hap5 hz5 hza b3 hzx
        refine wpAnyU_done (by kernel_rfl) ?_ _
        go_upto_region 9 with fail
        refine wp_region_late (S := (fun V => V.heap[zx]? = some (.cells #[.int .i64 6, .string ⟨#[]⟩, .slice p3 2 q3, .slice p4 2 q4] 25 (0, 0)) ∧ V.heap[w.heap.size]? = some (.cells #[.int .i64 1, .int .i64 i.k, .int .i64 i.n, .string I, .string M, .int .i64 p.kind, .string P, .slice kp p.keys.length kc, .slice ip p.items.length ic] 64 (0, 0)))) 5 (by kernel_rfl) (show (fun V => V.heap[zx]? = some (.cells #[.int .i64 6, .string ⟨#[]⟩, .slice p3 2 q3, .slice p4 2 q4] 25 (0, 0)) ∧ V.heap[w.heap.size]? = some (.cells #[.int .i64 1, .int .i64 i.k, .int .i64 i.n, .string I, .string M, .int .i64 p.kind, .string P, .slice kp p.keys.length kc, .slice ip p.items.length ic] 64 (0, 0))) V6.drew from ⟨hx6, HM.out V6 b6⟩) (fun hHeld => ?_)
        refine wpAnyU_take (i := 0) (oi := { dst := some 64, op := Op.load 25 (Operand.tmp 5), type := 25, pos := "ref.go:131", after := #[], guard := none }) (v := ?_) [4, 5] rfl (by kernel_rfl) (by kernel_rfl) (by kernel_rfl) (by kernel_rfl) (fun _ _ _ h => h) (Or.inl ⟨by rfl, ?_⟩) (by assumption) ?_
        rotate_left
        · intro w hS; obtain ⟨k0, k1, k2, k3⟩ := cells4 hS.1; obtain ⟨m0, m1, m2, m3, m4, m5, m6, m7, m8⟩ := cells9 hS.2; go_simp; with_reducible rfl
        try simp only [Act.put, aSA, aSZ, aSS]
        refine wpAnyU_take (i := 1) (oi := { dst := some 65, op := Op.fieldAddr 64 (Operand.tmp 1) 2, type := 0, pos := "ref.go:131", after := #[], guard := none }) (v := ?_) [2, 3, 4, 5] rfl (by kernel_rfl) (by kernel_rfl) (by kernel_rfl) (by kernel_rfl) (fun _ _ _ h => h) (Or.inl ⟨by rfl, ?_⟩) (by assumption) ?_
        rotate_left
        · intro w hS; obtain ⟨k0, k1, k2, k3⟩ := cells4 hS.1; obtain ⟨m0, m1, m2, m3, m4, m5, m6, m7, m8⟩ := cells9 hS.2; go_simp; with_reducible rfl
        try simp only [Act.put, aSA, aSZ, aSS]
        refine wpAnyU_take (i := 2) (oi := { dst := some 66, op := Op.load 9 (Operand.tmp 65), type := 9, pos := "ref.go:131", after := #[eDa 1], guard := none }) (v := ?_) [3, 4, 5] rfl (by kernel_rfl) (by kernel_rfl) (by kernel_rfl) (by kernel_rfl) (fun _ _ _ h => h) (Or.inl ⟨by rfl, ?_⟩) (by assumption) ?_
        rotate_left
        · intro w hS; obtain ⟨k0, k1, k2, k3⟩ := cells4 hS.1; obtain ⟨m0, m1, m2, m3, m4, m5, m6, m7, m8⟩ := cells9 hS.2; go_simp; with_reducible rfl
        try simp only [Act.put, aSA, aSZ, aSS]
        refine wpAnyU_ready (rs := [3]) (by kernel_rfl) (by simp) (AllReadyU.cons (o := { dst := some 67, op := Op.call { callee := Callee.value (Operand.func 97), args := #[Operand.tmp 66], argTypes := #[9] }, type := 25, pos := "ref.go:131", after := #[eDa 2], guard := none }) rfl (fun K hK => ?_) AllReadyU.nil)
        rw [if_pos (by rfl)]
        go_simp
        (go_at_call 97; refine (rtxt_any M _).mono ?_; rintro e w7 ⟨rfl, hb7⟩; have b37 : Below V6.heap.size V6 w7 := (Below.refl _ _).drew.trans hb7; have hor7 := hor6.below b37)
        refine hK.out _ _ (fun _ => ⟨(b37.block _ hzx6).trans hx6, HM.out w7 (Below.on b6 b37)⟩) (fun hS2 => ?_)
        replace hS2 := hS2 (by decide)
        clear hK K
        try simp only [Act.put, aSA, aSZ, aSS]
        refine wpAnyU_ready (rs := [4]) (by kernel_rfl) (by simp) (AllReadyU.cons (o := { dst := some 68, op := Op.call { callee := Callee.value (Operand.func 104), args := #[Operand.tmp 64, Operand.const (Value.string { data := #[109, 101, 116, 104, 111, 100] }), Operand.tmp 67], argTypes := #[25, 9, 25] }, type := 25, pos := "ref.go:131", after := #[eDa 0, eDa 3, eCh 3], guard := none }) rfl (fun K hK => ?_) AllReadyU.nil)
        rw [if_pos (by rfl)]
        go_simp
        (go_at_call 104; refine (with_leaf hor7 ⟨#[109, 101, 116, 104, 111, 100]⟩ (txtV ms) M HS.out.2.2.1 rfl rfl 2 3 2 3 rfl rfl rfl rfl (by decide) (by decide)).mono ?_; rintro e w8 ⟨p5, q5, p6, q6, rfl, hor8, hb8, hap8⟩; obtain ⟨hz8, hza8⟩ := hap8 zx (Nat.lt_of_lt_of_le hzx6 b37.size) hza5; have b8 : Below W.heap.size W w8 := (Below.on b6 b37).trans (hb8.mono hzc))
        refine hK.out _ _ (fun _ => ⟨hz8.trans ((b37.block _ hzx6).trans hx6), HM.out w8 b8⟩) (fun hS2 => ?_)
        replace hS2 := hS2 (by decide)
        clear hK K
        try simp only [Act.put, aSA, aSZ, aSS]
        refine wpAnyU_ready (rs := [5]) (by kernel_rfl) (by simp) (AllReadyU.cons (o := { dst := none, op := Op.store 25 (Operand.tmp 5) (Operand.tmp 68), type := 0, pos := "ref.go:131", after := #[eDa 4, eCh 4, ePh 0, ePh 1, ePh 2, ePh 3, ePh 4], guard := none }) rfl (fun K hK => ?_) AllReadyU.nil)
        rw [if_pos (by rfl)]
        refine store_val2 (.tmp 5) (.tmp 68) rfl zx rfl (.int .i64 6) (.string ⟨#[]⟩) (.slice p5 3 q5) (.slice p6 3 q6) rfl (by simp [Value.oneCell']) ⟨_, _, _, _, hz8.trans ((b37.block _ hzx6).trans hx6)⟩ (fun V9 hx9 hg9 _ => ?_)
        refine hK.out _ _ (fun h => absurd h (by decide)) (fun _ => ?_)
        clear hK K
        try simp only [Act.put]
        have b9 := below_gbz b8 hzw hg9
        have hor9 : OR wc.heap.size V9 [kVer, kId, kMethod] [leafC (txtV v20), leafC i.val, leafC (txtV ms)] p5 q5 p6 q6 := hor8.set hg9 hza8
        have hzx9 : zx < V9.heap.size := (ltS hx9)
        clear b37 b8 hor7 hor8 hb7 hb8 hg9 hx6 hor6 hap8 hz8 hza5 hzx6
        refine wpAnyU_done (by kernel_rfl) ?_ _
        go_upto_region 12 with fail
        obtain ⟨k0, k1, k2, k3⟩ := cells4 hx9
        have bz := b9
        have horz := hor9
        have hki : KI V9 (.mk 6 [] [kVer, kId, kMethod] [txtV v20, i.val, txtV ms]) p5 q5 p6 q6 := horz.ki (fun c hc => by
         simp only [List.mem_cons, List.not_mem_nil, or_false] at hc
         rcases hc with rfl | rfl | rfl
         · exact leaf_ok rfl rfl (by decide)
         · exact leaf_ok HN.out.1 HN.out.2 HL.out.1
         · exact leaf_ok rfl rfl HL.out.2.1) ⟨(by show 3 ≤ maxLen; decide), by show 3 ≤ maxLen; decide, keys_short (by decide)⟩
        have h106 : Calls Tryz.prog 106 #[.agg #[.int .i64 6, .string ⟨#[]⟩, .slice p5 3 q5, .slice p6 3 q6]] V9 fun e w'' => e = .returned (.tuple #[.string X, .int .i64 (n : Nat)]) ∧ Below V9.heap.size V9 w'' := rput_is hki HWT.out (S := ⟨#[]⟩) rfl HPUT.out V9 (Below.refl _ _)
        clear hki horz
        go_wp2_with (first
         | (go_at_call 106; refine h106.mono ?_; rintro e wy ⟨rfl, hby⟩))
        go_ret2
        exact ⟨rfl, Below.on HBW.out (Below.on bz hby)⟩
      · have e1 : Hid True := Lib.hid trivial
        have hput : putV (.mk 6 [] [kVer, kMethod] [txtV v20, txtV ms]) = (X.data.toList, n) := by
         have := HR.out
         unfold putM at this
         rw [if_pos HOK.out] at this
         rw [← this]
         unfold MsgV.keys MsgV.items
         simp [p0]
        have HPUT := Lib.hid hput
        have HWT : Hid ((JV.mk 6 [] [kVer, kMethod] [txtV v20, txtV ms]).wt ≤ 100000) := Lib.hid (by
         rw [JV.wt]
         simp only [keysW, wtL, kVer, kMethod, List.length_cons, List.length_nil]
         have : (txtV v20).wt = 4 := rfl
         have h1 := HW.out
         omega)
        clear hput p0
        go_upto_region 7 with (first
         | (go_at_call 103; refine (begun_any _).mono ?_; rintro e w2 ⟨p1, q1, p2, q2, rfl, hor, hb2⟩
            obtain ⟨W3, hW3⟩ : ∃ V, w2.alloc (.cells #[.int .i64 0, .string ⟨#[]⟩, .slice none 0 0, .slice none 0 0] 25) = V := ⟨_, rfl⟩
            have bW3 := alloc_b hW3
            have hj3 : JBox W3 w2.heap.size := (by rw [← hW3]; exact JBox.alloc _ _ _ _ _)
            have HJ3 := Lib.hid hj3
            clear hj3)
         | (refine store_val rfl (.tmp 5) (.tmp 55) rfl w2.heap.size rfl (.int .i64 6) (.string ⟨#[]⟩) (.slice p1 1 q1) (.slice p2 1 q2) rfl rfl HJ3.out (fun V3 hx3 hg3 _ => ?_)))
        obtain ⟨zx, hzp⟩ : ∃ z, w2.heap.size = z := ⟨_, rfl⟩
        have hza : Ap zx p1 p2 := hor.ap (.inr (by omega))
        have hor3 := (hor.below bW3).set hg3 (by rw [hzp]; exact hza)
        rw [hzp] at hx3 hg3 ⊢
        have hzw : W.heap.size ≤ zx := by have := hbc.size; have := hb2.size; omega
        have b3 : Below W.heap.size W V3 := below_gbz (Below.on (Below.on hbc hb2) bW3) hzw hg3
        have hzx : zx < V3.heap.size := (ltS hx3)
        have hzc : W.heap.size ≤ wc.heap.size := hbc.size
        clear hor hb2 bW3 hg3 hzp hW3 m0 m1 m2 m3 m4 m5 m6 m7 m8
        obtain ⟨m0, m1, m2, m3, m4, m5, m6, m7, m8⟩ := cells9 (HM.out V3 b3)
        go_upto_region 9 with fail
        clear m0 m1 m2 m3 m4 m5 m6 m7 m8
        refine wp_region_late (S := (fun V => V.heap[zx]? = some (.cells #[.int .i64 6, .string ⟨#[]⟩, .slice p1 1 q1, .slice p2 1 q2] 25 (0, 0)) ∧ V.heap[w.heap.size]? = some (.cells #[.int .i64 2, .int .i64 i.k, .int .i64 i.n, .string I, .string M, .int .i64 p.kind, .string P, .slice kp p.keys.length kc, .slice ip p.items.length ic] 64 (0, 0)))) 5 (by kernel_rfl) (show (fun V => V.heap[zx]? = some (.cells #[.int .i64 6, .string ⟨#[]⟩, .slice p1 1 q1, .slice p2 1 q2] 25 (0, 0)) ∧ V.heap[w.heap.size]? = some (.cells #[.int .i64 2, .int .i64 i.k, .int .i64 i.n, .string I, .string M, .int .i64 p.kind, .string P, .slice kp p.keys.length kc, .slice ip p.items.length ic] 64 (0, 0))) V3.drew from ⟨hx3, HM.out V3 b3⟩) (fun hHeld => ?_)
        refine wpAnyU_take (i := 0) (oi := { dst := some 64, op := Op.load 25 (Operand.tmp 5), type := 25, pos := "ref.go:131", after := #[], guard := none }) (v := ?_) [4, 5] rfl (by kernel_rfl) (by kernel_rfl) (by kernel_rfl) (by kernel_rfl) (fun _ _ _ h => h) (Or.inl ⟨by rfl, ?_⟩) (by assumption) ?_
        rotate_left
        · intro w hS; obtain ⟨k0, k1, k2, k3⟩ := cells4 hS.1; obtain ⟨m0, m1, m2, m3, m4, m5, m6, m7, m8⟩ := cells9 hS.2; go_simp; with_reducible rfl
        try simp only [Act.put, aSA, aSZ, aSS]
        refine wpAnyU_take (i := 1) (oi := { dst := some 65, op := Op.fieldAddr 64 (Operand.tmp 1) 2, type := 0, pos := "ref.go:131", after := #[], guard := none }) (v := ?_) [2, 3, 4, 5] rfl (by kernel_rfl) (by kernel_rfl) (by kernel_rfl) (by kernel_rfl) (fun _ _ _ h => h) (Or.inl ⟨by rfl, ?_⟩) (by assumption) ?_
        rotate_left
        · intro w hS; obtain ⟨k0, k1, k2, k3⟩ := cells4 hS.1; obtain ⟨m0, m1, m2, m3, m4, m5, m6, m7, m8⟩ := cells9 hS.2; go_simp; with_reducible rfl
        try simp only [Act.put, aSA, aSZ, aSS]
        refine wpAnyU_take (i := 2) (oi := { dst := some 66, op := Op.load 9 (Operand.tmp 65), type := 9, pos := "ref.go:131", after := #[eDa 1], guard := none }) (v := ?_) [3, 4, 5] rfl (by kernel_rfl) (by kernel_rfl) (by kernel_rfl) (by kernel_rfl) (fun _ _ _ h => h) (Or.inl ⟨by rfl, ?_⟩) (by assumption) ?_
        rotate_left
        · intro w hS; obtain ⟨k0, k1, k2, k3⟩ := cells4 hS.1; obtain ⟨m0, m1, m2, m3, m4, m5, m6, m7, m8⟩ := cells9 hS.2; go_simp; with_reducible rfl
        try simp only [Act.put, aSA, aSZ, aSS]
        refine wpAnyU_ready (rs := [3]) (by kernel_rfl) (by simp) (AllReadyU.cons (o := { dst := some 67, op := Op.call { callee := Callee.value (Operand.func 97), args := #[Operand.tmp 66], argTypes := #[9] }, type := 25, pos := "ref.go:131", after := #[eDa 2], guard := none }) rfl (fun K hK => ?_) AllReadyU.nil)
        rw [if_pos (by rfl)]
        go_simp
        (go_at_call 97; refine (rtxt_any M _).mono ?_; rintro e w7 ⟨rfl, hb7⟩; have b37 : Below V3.heap.size V3 w7 := (Below.refl _ _).drew.trans hb7; have hor7 := hor3.below b37)
        refine hK.out _ _ (fun _ => ⟨(b37.block _ hzx).trans hx3, HM.out w7 (Below.on b3 b37)⟩) (fun hS2 => ?_)
        replace hS2 := hS2 (by decide)
        clear hK K
        try simp only [Act.put, aSA, aSZ, aSS]
        refine wpAnyU_ready (rs := [4]) (by kernel_rfl) (by simp) (AllReadyU.cons (o := { dst := some 68, op := Op.call { callee := Callee.value (Operand.func 104), args := #[Operand.tmp 64, Operand.const (Value.string { data := #[109, 101, 116, 104, 111, 100] }), Operand.tmp 67], argTypes := #[25, 9, 25] }, type := 25, pos := "ref.go:131", after := #[eDa 0, eDa 3, eCh 3], guard := none }) rfl (fun K hK => ?_) AllReadyU.nil)
        rw [if_pos (by rfl)]
        go_simp
        (go_at_call 104; refine (with_leaf hor7 ⟨#[109, 101, 116, 104, 111, 100]⟩ (txtV ms) M HS.out.2.2.1 rfl rfl 1 2 1 2 rfl rfl rfl rfl (by decide) (by decide)).mono ?_; rintro e w8 ⟨p5, q5, p6, q6, rfl, hor8, hb8, hap8⟩; obtain ⟨hz8, hza8⟩ := hap8 zx (Nat.lt_of_lt_of_le hzx b37.size) hza; have b8 : Below W.heap.size W w8 := (Below.on b3 b37).trans (hb8.mono hzc))
        refine hK.out _ _ (fun _ => ⟨hz8.trans ((b37.block _ hzx).trans hx3), HM.out w8 b8⟩) (fun hS2 => ?_)
        replace hS2 := hS2 (by decide)
        clear hK K
        try simp only [Act.put, aSA, aSZ, aSS]
        refine wpAnyU_ready (rs := [5]) (by kernel_rfl) (by simp) (AllReadyU.cons (o := { dst := none, op := Op.store 25 (Operand.tmp 5) (Operand.tmp 68), type := 0, pos := "ref.go:131", after := #[eDa 4, eCh 4, ePh 0, ePh 1, ePh 2, ePh 3, ePh 4], guard := none }) rfl (fun K hK => ?_) AllReadyU.nil)
        rw [if_pos (by rfl)]
        refine store_val2 (.tmp 5) (.tmp 68) rfl zx rfl (.int .i64 6) (.string ⟨#[]⟩) (.slice p5 2 q5) (.slice p6 2 q6) rfl (by simp [Value.oneCell']) ⟨_, _, _, _, hz8.trans ((b37.block _ hzx).trans hx3)⟩ (fun V9 hx9 hg9 _ => ?_)
        refine hK.out _ _ (fun h => absurd h (by decide)) (fun _ => ?_)
        clear hK K
        try simp only [Act.put]
        have b9 := below_gbz b8 hzw hg9
        have hor9 : OR wc.heap.size V9 [kVer, kMethod] [leafC (txtV v20), leafC (txtV ms)] p5 q5 p6 q6 := hor8.set hg9 hza8
        have hzx9 : zx < V9.heap.size := (ltS hx9)
        clear b37 b8 hor7 hor8 hb7 hb8 hg9 hx3 hor3 hap8 hz8 hza hzx
        refine wpAnyU_done (by kernel_rfl) ?_ _
        go_upto_region 12 with fail
        obtain ⟨k0, k1, k2, k3⟩ := cells4 hx9
        have bz := b9
        have horz := hor9
        have hki : KI V9 (.mk 6 [] [kVer, kMethod] [txtV v20, txtV ms]) p5 q5 p6 q6 := horz.ki (fun c hc => by
         simp only [List.mem_cons, List.not_mem_nil, or_false] at hc
         rcases hc with rfl | rfl
         · exact leaf_ok rfl rfl (by decide)
         · exact leaf_ok rfl rfl HL.out.2.1) ⟨(by show 2 ≤ maxLen; decide), by show 2 ≤ maxLen; decide, keys_short (by decide)⟩
        have h106 : Calls Tryz.prog 106 #[.agg #[.int .i64 6, .string ⟨#[]⟩, .slice p5 2 q5, .slice p6 2 q6]] V9 fun e w'' => e = .returned (.tuple #[.string X, .int .i64 (n : Nat)]) ∧ Below V9.heap.size V9 w'' := rput_is hki HWT.out (S := ⟨#[]⟩) rfl HPUT.out V9 (Below.refl _ _)
        clear hki horz
        go_wp2_with (first
         | (go_at_call 106; refine h106.mono ?_; rintro e wy ⟨rfl, hby⟩))
        go_ret2
        exact ⟨rfl, Below.on HBW.out (Below.on bz hby)⟩
    · have p0 : ¬ p.kind = 0 := by simpa using q0
      have P0 := Lib.hid p0
      clear p0
      go_cut [54] (fun x wx => x = .bool false ∧ wx = wc)
      case first =>
       rcases hp with r5 | ⟨r5, r6⟩
       · go_wp2_with fail
         go_meet
         exact ⟨rfl, rfl⟩
       · go_wp2_with fail
         go_meet
         exact ⟨rfl, rfl⟩
      case rest =>
       obtain ⟨rfl, hwc⟩ := hcut
       subst hwc
       go_upto_region 6 with fail
       have p0 := P0.out
       rcases hk with rfl | rfl
       · have e1 : Hid True := Lib.hid trivial
         have hput : putV (.mk 6 [] [kVer, kId, kMethod, kParams] [txtV v20, i.val, txtV ms, p]) = (X.data.toList, n) := by
          have := HR.out
          unfold putM at this
          rw [if_pos HOK.out] at this
          rw [← this]
          unfold MsgV.keys MsgV.items
          simp [p0]
         have HPUT := Lib.hid hput
         have HWT : Hid ((JV.mk 6 [] [kVer, kId, kMethod, kParams] [txtV v20, i.val, txtV ms, p]).wt ≤ 100000) := Lib.hid (by
          rw [JV.wt]
          simp only [keysW, wtL, kVer, kId, kMethod, kParams, List.length_cons, List.length_nil]
          have : (txtV v20).wt = 4 := rfl
          have h1 := HW.out
          omega)
         clear hput p0
         go_upto_region 7 with (first
          | (go_at_call 103; refine (begun_any _).mono ?_; rintro e w2 ⟨p1, q1, p2, q2, rfl, hor, hb2⟩
             obtain ⟨W3, hW3⟩ : ∃ V, w2.alloc (.cells #[.int .i64 0, .string ⟨#[]⟩, .slice none 0 0, .slice none 0 0] 25) = V := ⟨_, rfl⟩
             have bW3 := alloc_b hW3
             have hj3 : JBox W3 w2.heap.size := (by rw [← hW3]; exact JBox.alloc _ _ _ _ _)
             have HJ3 := Lib.hid hj3
             clear hj3)
          | (refine store_val rfl (.tmp 5) (.tmp 55) rfl w2.heap.size rfl (.int .i64 6) (.string ⟨#[]⟩) (.slice p1 1 q1) (.slice p2 1 q2) rfl rfl HJ3.out (fun V3 hx3 hg3 _ => ?_)))
         obtain ⟨zx, hzp⟩ : ∃ z, w2.heap.size = z := ⟨_, rfl⟩
         have hza : Ap zx p1 p2 := hor.ap (.inr (by omega))
         have hor3 := (hor.below bW3).set hg3 (by rw [hzp]; exact hza)
         rw [hzp] at hx3 hg3 ⊢
         have hzw : W.heap.size ≤ zx := by have := hbc.size; have := hb2.size; omega
         have b3 : Below W.heap.size W V3 := below_gbz (Below.on (Below.on hbc hb2) bW3) hzw hg3
         have hzx : zx < V3.heap.size := (ltS hx3)
         have hzc : W.heap.size ≤ wc.heap.size := hbc.size
         clear hor hb2 bW3 hg3 hzp hW3 m0 m1 m2 m3 m4 m5 m6 m7 m8
         obtain ⟨m0, m1, m2, m3, m4, m5, m6, m7, m8⟩ := cells9 (HM.out V3 b3)
         go_upto_region 8 with fail
         clear m0 m1 m2 m3 m4 m5 m6 m7 m8
         refine wp_region_late (S := (fun V => V.heap[zx]? = some (.cells #[.int .i64 6, .string ⟨#[]⟩, .slice p1 1 q1, .slice p2 1 q2] 25 (0, 0)) ∧ V.heap[w.heap.size]? = some (.cells #[.int .i64 1, .int .i64 i.k, .int .i64 i.n, .string I, .string M, .int .i64 p.kind, .string P, .slice kp p.keys.length kc, .slice ip p.items.length ic] 64 (0, 0)))) 5 (by kernel_rfl) (show (fun V => V.heap[zx]? = some (.cells #[.int .i64 6, .string ⟨#[]⟩, .slice p1 1 q1, .slice p2 1 q2] 25 (0, 0)) ∧ V.heap[w.heap.size]? = some (.cells #[.int .i64 1, .int .i64 i.k, .int .i64 i.n, .string I, .string M, .int .i64 p.kind, .string P, .slice kp p.keys.length kc, .slice ip p.items.length ic] 64 (0, 0))) V3.drew from ⟨hx3, HM.out V3 b3⟩) (fun hHeld => ?_)
         refine wpAnyU_take (i := 0) (oi := { dst := some 59, op := Op.load 25 (Operand.tmp 5), type := 25, pos := "ref.go:129", after := #[], guard := none }) (v := ?_) [4, 5] rfl (by kernel_rfl) (by kernel_rfl) (by kernel_rfl) (by kernel_rfl) (fun _ _ _ h => h) (Or.inl ⟨by rfl, ?_⟩) (by assumption) ?_
         rotate_left
         · intro w hS; obtain ⟨k0, k1, k2, k3⟩ := cells4 hS.1; obtain ⟨m0, m1, m2, m3, m4, m5, m6, m7, m8⟩ := cells9 hS.2; go_simp; with_reducible rfl
         try simp only [Act.put, aSA, aSZ, aSS]
         refine wpAnyU_take (i := 1) (oi := { dst := some 60, op := Op.fieldAddr 64 (Operand.tmp 1) 1, type := 0, pos := "ref.go:129", after := #[], guard := none }) (v := ?_) [2, 3, 4, 5] rfl (by kernel_rfl) (by kernel_rfl) (by kernel_rfl) (by kernel_rfl) (fun _ _ _ h => h) (Or.inl ⟨by rfl, ?_⟩) (by assumption) ?_
         rotate_left
         · intro w hS; obtain ⟨k0, k1, k2, k3⟩ := cells4 hS.1; obtain ⟨m0, m1, m2, m3, m4, m5, m6, m7, m8⟩ := cells9 hS.2; go_simp; with_reducible rfl
         try simp only [Act.put, aSA, aSZ, aSS]
         refine wpAnyU_take (i := 2) (oi := { dst := some 61, op := Op.load 62 (Operand.tmp 60), type := 62, pos := "ref.go:129", after := #[eDa 1], guard := none }) (v := ?_) [3, 4, 5] rfl (by kernel_rfl) (by kernel_rfl) (by kernel_rfl) (by kernel_rfl) (fun _ _ _ h => h) (Or.inl ⟨by rfl, ?_⟩) (by assumption) ?_
         rotate_left
         · intro w hS; obtain ⟨k0, k1, k2, k3⟩ := cells4 hS.1; obtain ⟨m0, m1, m2, m3, m4, m5, m6, m7, m8⟩ := cells9 hS.2; go_simp; with_reducible rfl
         try simp only [Act.put, aSA, aSZ, aSS]
         refine wpAnyU_ready (rs := [3]) (by kernel_rfl) (by simp) (AllReadyU.cons (o := { dst := some 62, op := Op.call { callee := Callee.value (Operand.func 105), args := #[Operand.tmp 61], argTypes := #[62] }, type := 25, pos := "ref.go:129", after := #[eDa 2], guard := none }) rfl (fun K hK => ?_) AllReadyU.nil)
         rw [if_pos (by rfl)]
         go_simp
         (go_at_call 105; refine (rvalue24_any i I VS HS.out.1 HS.out.2.1 HBD.out.1 HBD.out.2 _).mono ?_; rintro e w4 ⟨rfl, hb4⟩; have b34 : Below V3.heap.size V3 w4 := (Below.refl _ _).drew.trans hb4; have hor4 := hor3.below b34)
         refine hK.out _ _ (fun _ => ⟨(b34.block _ hzx).trans hx3, HM.out w4 (Below.on b3 b34)⟩) (fun hS2 => ?_)
         replace hS2 := hS2 (by decide)
         clear hK K
         try simp only [Act.put, aSA, aSZ, aSS]
         refine wpAnyU_ready (rs := [4]) (by kernel_rfl) (by simp) (AllReadyU.cons (o := { dst := some 63, op := Op.call { callee := Callee.value (Operand.func 104), args := #[Operand.tmp 59, Operand.const (Value.string { data := #[105, 100] }), Operand.tmp 62], argTypes := #[25, 9, 25] }, type := 25, pos := "ref.go:129", after := #[eDa 0, eDa 3, eCh 3], guard := none }) rfl (fun K hK => ?_) AllReadyU.nil)
         rw [if_pos (by rfl)]
         go_simp
         (go_at_call 104; refine (with_leaf hor4 ⟨#[105, 100]⟩ i.val VS HS.out.2.1 HN.out.1 HN.out.2 1 2 1 2 rfl rfl rfl rfl (by decide) (by decide)).mono ?_; rintro e w5 ⟨p3, q3, p4, q4, rfl, hor5, hb5, hap5⟩; obtain ⟨hz5, hza5⟩ := hap5 zx (Nat.lt_of_lt_of_le hzx b34.size) hza; have b5 : Below W.heap.size W w5 := (Below.on b3 b34).trans (hb5.mono hzc))
         refine hK.out _ _ (fun _ => ⟨hz5.trans ((b34.block _ hzx).trans hx3), HM.out w5 b5⟩) (fun hS2 => ?_)
         replace hS2 := hS2 (by decide)
         clear hK K
         try simp only [Act.put, aSA, aSZ, aSS]
         refine wpAnyU_ready (rs := [5]) (by kernel_rfl) (by simp) (AllReadyU.cons (o := { dst := none, op := Op.store 25 (Operand.tmp 5) (Operand.tmp 63), type := 0, pos := "ref.go:129", after := #[eDa 4, eCh 4, ePh 0, ePh 1, ePh 2, ePh 3, ePh 4], guard := none }) rfl (fun K hK => ?_) AllReadyU.nil)
         rw [if_pos (by rfl)]
         refine store_val2 (.tmp 5) (.tmp 63) rfl zx rfl (.int .i64 6) (.string ⟨#[]⟩) (.slice p3 2 q3) (.slice p4 2 q4) rfl (by simp [Value.oneCell']) ⟨_, _, _, _, hz5.trans ((b34.block _ hzx).trans hx3)⟩ (fun V6 hx6 hg6 _ => ?_)
         refine hK.out _ _ (fun h => absurd h (by decide)) (fun _ => ?_)
         clear hK K
         try simp only [Act.put]
         have b6 := below_gbz b5 hzw hg6
         have hor6 : OR wc.heap.size V6 [kVer, kId] [leafC (txtV v20), leafC i.val] p3 q3 p4 q4 := hor5.set hg6 hza5
         have hzx6 : zx < V6.heap.size := (ltS hx6)
         clear b34 b5 hor4 hor5 hb4 hb5 hg6 hx3 hor3 hap5 hz5 hza b3 hzx
         refine wpAnyU_done (by kernel_rfl) ?_ _
         go_upto_region 9 with fail
         refine wp_region_late (S := (fun V => V.heap[zx]? = some (.cells #[.int .i64 6, .string ⟨#[]⟩, .slice p3 2 q3, .slice p4 2 q4] 25 (0, 0)) ∧ V.heap[w.heap.size]? = some (.cells #[.int .i64 1, .int .i64 i.k, .int .i64 i.n, .string I, .string M, .int .i64 p.kind, .string P, .slice kp p.keys.length kc, .slice ip p.items.length ic] 64 (0, 0)))) 5 (by kernel_rfl) (show (fun V => V.heap[zx]? = some (.cells #[.int .i64 6, .string ⟨#[]⟩, .slice p3 2 q3, .slice p4 2 q4] 25 (0, 0)) ∧ V.heap[w.heap.size]? = some (.cells #[.int .i64 1, .int .i64 i.k, .int .i64 i.n, .string I, .string M, .int .i64 p.kind, .string P, .slice kp p.keys.length kc, .slice ip p.items.length ic] 64 (0, 0))) V6.drew from ⟨hx6, HM.out V6 b6⟩) (fun hHeld => ?_)
         refine wpAnyU_take (i := 0) (oi := { dst := some 64, op := Op.load 25 (Operand.tmp 5), type := 25, pos := "ref.go:131", after := #[], guard := none }) (v := ?_) [4, 5] rfl (by kernel_rfl) (by kernel_rfl) (by kernel_rfl) (by kernel_rfl) (fun _ _ _ h => h) (Or.inl ⟨by rfl, ?_⟩) (by assumption) ?_
         rotate_left
         · intro w hS; obtain ⟨k0, k1, k2, k3⟩ := cells4 hS.1; obtain ⟨m0, m1, m2, m3, m4, m5, m6, m7, m8⟩ := cells9 hS.2; go_simp; with_reducible rfl
         try simp only [Act.put, aSA, aSZ, aSS]
         refine wpAnyU_take (i := 1) (oi := { dst := some 65, op := Op.fieldAddr 64 (Operand.tmp 1) 2, type := 0, pos := "ref.go:131", after := #[], guard := none }) (v := ?_) [2, 3, 4, 5] rfl (by kernel_rfl) (by kernel_rfl) (by kernel_rfl) (by kernel_rfl) (fun _ _ _ h => h) (Or.inl ⟨by rfl, ?_⟩) (by assumption) ?_
         rotate_left
         · intro w hS; obtain ⟨k0, k1, k2, k3⟩ := cells4 hS.1; obtain ⟨m0, m1, m2, m3, m4, m5, m6, m7, m8⟩ := cells9 hS.2; go_simp; with_reducible rfl
         try simp only [Act.put, aSA, aSZ, aSS]
         refine wpAnyU_take (i := 2) (oi := { dst := some 66, op := Op.load 9 (Operand.tmp 65), type := 9, pos := "ref.go:131", after := #[eDa 1], guard := none }) (v := ?_) [3, 4, 5] rfl (by kernel_rfl) (by kernel_rfl) (by kernel_rfl) (by kernel_rfl) (fun _ _ _ h => h) (Or.inl ⟨by rfl, ?_⟩) (by assumption) ?_
         rotate_left
         · intro w hS; obtain ⟨k0, k1, k2, k3⟩ := cells4 hS.1; obtain ⟨m0, m1, m2, m3, m4, m5, m6, m7, m8⟩ := cells9 hS.2; go_simp; with_reducible rfl
         try simp only [Act.put, aSA, aSZ, aSS]
         refine wpAnyU_ready (rs := [3]) (by kernel_rfl) (by simp) (AllReadyU.cons (o := { dst := some 67, op := Op.call { callee := Callee.value (Operand.func 97), args := #[Operand.tmp 66], argTypes := #[9] }, type := 25, pos := "ref.go:131", after := #[eDa 2], guard := none }) rfl (fun K hK => ?_) AllReadyU.nil)
         rw [if_pos (by rfl)]
         go_simp
         (go_at_call 97; refine (rtxt_any M _).mono ?_; rintro e w7 ⟨rfl, hb7⟩; have b37 : Below V6.heap.size V6 w7 := (Below.refl _ _).drew.trans hb7; have hor7 := hor6.below b37)
         refine hK.out _ _ (fun _ => ⟨(b37.block _ hzx6).trans hx6, HM.out w7 (Below.on b6 b37)⟩) (fun hS2 => ?_)
         replace hS2 := hS2 (by decide)
         clear hK K
         try simp only [Act.put, aSA, aSZ, aSS]
         refine wpAnyU_ready (rs := [4]) (by kernel_rfl) (by simp) (AllReadyU.cons (o := { dst := some 68, op := Op.call { callee := Callee.value (Operand.func 104), args := #[Operand.tmp 64, Operand.const (Value.string { data := #[109, 101, 116, 104, 111, 100] }), Operand.tmp 67], argTypes := #[25, 9, 25] }, type := 25, pos := "ref.go:131", after := #[eDa 0, eDa 3, eCh 3], guard := none }) rfl (fun K hK => ?_) AllReadyU.nil)
         rw [if_pos (by rfl)]
         go_simp
         (go_at_call 104; refine (with_leaf hor7 ⟨#[109, 101, 116, 104, 111, 100]⟩ (txtV ms) M HS.out.2.2.1 rfl rfl 2 3 2 3 rfl rfl rfl rfl (by decide) (by decide)).mono ?_; rintro e w8 ⟨p5, q5, p6, q6, rfl, hor8, hb8, hap8⟩; obtain ⟨hz8, hza8⟩ := hap8 zx (Nat.lt_of_lt_of_le hzx6 b37.size) hza5; have b8 : Below W.heap.size W w8 := (Below.on b6 b37).trans (hb8.mono hzc))
         refine hK.out _ _ (fun _ => ⟨hz8.trans ((b37.block _ hzx6).trans hx6), HM.out w8 b8⟩) (fun hS2 => ?_)
         replace hS2 := hS2 (by decide)
         clear hK K
         try simp only [Act.put, aSA, aSZ, aSS]
         refine wpAnyU_ready (rs := [5]) (by kernel_rfl) (by simp) (AllReadyU.cons (o := { dst := none, op := Op.store 25 (Operand.tmp 5) (Operand.tmp 68), type := 0, pos := "ref.go:131", after := #[eDa 4, eCh 4, ePh 0, ePh 1, ePh 2, ePh 3, ePh 4], guard := none }) rfl (fun K hK => ?_) AllReadyU.nil)
         rw [if_pos (by rfl)]
         refine store_val2 (.tmp 5) (.tmp 68) rfl zx rfl (.int .i64 6) (.string ⟨#[]⟩) (.slice p5 3 q5) (.slice p6 3 q6) rfl (by simp [Value.oneCell']) ⟨_, _, _, _, hz8.trans ((b37.block _ hzx6).trans hx6)⟩ (fun V9 hx9 hg9 _ => ?_)
         refine hK.out _ _ (fun h => absurd h (by decide)) (fun _ => ?_)
         clear hK K
         try simp only [Act.put]
         have b9 := below_gbz b8 hzw hg9
         have hor9 : OR wc.heap.size V9 [kVer, kId, kMethod] [leafC (txtV v20), leafC i.val, leafC (txtV ms)] p5 q5 p6 q6 := hor8.set hg9 hza8
         have hzx9 : zx < V9.heap.size := (ltS hx9)
         clear b37 b8 hor7 hor8 hb7 hb8 hg9 hx6 hor6 hap8 hz8 hza5 hzx6
         refine wpAnyU_done (by kernel_rfl) ?_ _
         obtain ⟨k0, k1, k2, k3⟩ := cells4 hx9
         obtain ⟨m0, m1, m2, m3, m4, m5, m6, m7, m8⟩ := cells9 (HM.out V9 b9)
         have had := with_any hor9 ⟨#[112, 97, 114, 97, 109, 115]⟩ ⟨p, kp, kc, ip, ic⟩ P HS.out.2.2.2 3 4 3 4 rfl rfl rfl rfl (by decide) (by decide)
         go_upto_region 12 with (first
          | (go_at_call 104; refine had.mono ?_; rintro e wa ⟨p7, q7, p8, q8, rfl, hora, hba, hapa⟩; obtain ⟨hzaa, hza9⟩ := hapa zx hzx9 hza8; have hja : JBox wa zx := ⟨_, _, _, _, hzaa.trans hx9⟩; have HJA := Lib.hid hja; clear hja)
          | (refine store_val rfl (.tmp 5) (.tmp 74) rfl zx rfl (.int .i64 6) (.string ⟨#[]⟩) (.slice p7 4 q7) (.slice p8 4 q8) rfl rfl HJA.out (fun Vz hxz hgz _ => ?_)
             have bz := below_gbz (b9.trans (hba.mono hzc)) hzw hgz
             have horz : OR wc.heap.size Vz [kVer, kId, kMethod, kParams] [leafC (txtV v20), leafC i.val, leafC (txtV ms), ⟨p, kp, kc, ip, ic⟩] p7 q7 p8 q8 := (hora.set hgz hza9)
             clear hora hba hapa hzaa hgz hx9 k0 k1 k2 k3 m0 m1 m2 m3 m4 m5 m6 m7 m8 had))
         obtain ⟨k0, k1, k2, k3⟩ := cells4 hxz
         have hki : KI Vz (.mk 6 [] [kVer, kId, kMethod, kParams] [txtV v20, i.val, txtV ms, p]) p7 q7 p8 q8 := horz.ki (fun c hc => by
          simp only [List.mem_cons, List.not_mem_nil, or_false] at hc
          rcases hc with rfl | rfl | rfl | rfl
          · exact leaf_ok rfl rfl (by decide)
          · exact leaf_ok HN.out.1 HN.out.2 HL.out.1
          · exact leaf_ok rfl rfl HL.out.2.1
          · exact ⟨HK.out Vz bz, HL.out.2.2⟩) ⟨(by show 4 ≤ maxLen; decide), by show 4 ≤ maxLen; decide, keys_short (by decide)⟩
         have h106 : Calls Tryz.prog 106 #[.agg #[.int .i64 6, .string ⟨#[]⟩, .slice p7 4 q7, .slice p8 4 q8]] Vz fun e w'' => e = .returned (.tuple #[.string X, .int .i64 (n : Nat)]) ∧ Below Vz.heap.size Vz w'' := rput_is hki HWT.out (S := ⟨#[]⟩) rfl HPUT.out Vz (Below.refl _ _)
         clear hki horz
         go_wp2_with (first
          | (go_at_call 106; refine h106.mono ?_; rintro e wy ⟨rfl, hby⟩))
         go_ret2
         exact ⟨rfl, Below.on HBW.out (Below.on bz hby)⟩
       · have e1 : Hid True := Lib.hid trivial
         have hput : putV (.mk 6 [] [kVer, kMethod, kParams] [txtV v20, txtV ms, p]) = (X.data.toList, n) := by
          have := HR.out
          unfold putM at this
          rw [if_pos HOK.out] at this
          rw [← this]
          unfold MsgV.keys MsgV.items
          simp [p0]
         have HPUT := Lib.hid hput
         have HWT : Hid ((JV.mk 6 [] [kVer, kMethod, kParams] [txtV v20, txtV ms, p]).wt ≤ 100000) := Lib.hid (by
          rw [JV.wt]
          simp only [keysW, wtL, kVer, kMethod, kParams, List.length_cons, List.length_nil]
          have : (txtV v20).wt = 4 := rfl
          have h1 := HW.out
          omega)
         clear hput p0
         go_upto_region 7 with (first
          | (go_at_call 103; refine (begun_any _).mono ?_; rintro e w2 ⟨p1, q1, p2, q2, rfl, hor, hb2⟩
             obtain ⟨W3, hW3⟩ : ∃ V, w2.alloc (.cells #[.int .i64 0, .string ⟨#[]⟩, .slice none 0 0, .slice none 0 0] 25) = V := ⟨_, rfl⟩
             have bW3 := alloc_b hW3
             have hj3 : JBox W3 w2.heap.size := (by rw [← hW3]; exact JBox.alloc _ _ _ _ _)
             have HJ3 := Lib.hid hj3
             clear hj3)
          | (refine store_val rfl (.tmp 5) (.tmp 55) rfl w2.heap.size rfl (.int .i64 6) (.string ⟨#[]⟩) (.slice p1 1 q1) (.slice p2 1 q2) rfl rfl HJ3.out (fun V3 hx3 hg3 _ => ?_)))
         obtain ⟨zx, hzp⟩ : ∃ z, w2.heap.size = z := ⟨_, rfl⟩
         have hza : Ap zx p1 p2 := hor.ap (.inr (by omega))
         have hor3 := (hor.below bW3).set hg3 (by rw [hzp]; exact hza)
         rw [hzp] at hx3 hg3 ⊢
         have hzw : W.heap.size ≤ zx := by have := hbc.size; have := hb2.size; omega
         have b3 : Below W.heap.size W V3 := below_gbz (Below.on (Below.on hbc hb2) bW3) hzw hg3
         have hzx : zx < V3.heap.size := (ltS hx3)
         have hzc : W.heap.size ≤ wc.heap.size := hbc.size
         clear hor hb2 bW3 hg3 hzp hW3 m0 m1 m2 m3 m4 m5 m6 m7 m8
         obtain ⟨m0, m1, m2, m3, m4, m5, m6, m7, m8⟩ := cells9 (HM.out V3 b3)
         go_upto_region 9 with fail
         clear m0 m1 m2 m3 m4 m5 m6 m7 m8
         refine wp_region_late (S := (fun V => V.heap[zx]? = some (.cells #[.int .i64 6, .string ⟨#[]⟩, .slice p1 1 q1, .slice p2 1 q2] 25 (0, 0)) ∧ V.heap[w.heap.size]? = some (.cells #[.int .i64 2, .int .i64 i.k, .int .i64 i.n, .string I, .string M, .int .i64 p.kind, .string P, .slice kp p.keys.length kc, .slice ip p.items.length ic] 64 (0, 0)))) 5 (by kernel_rfl) (show (fun V => V.heap[zx]? = some (.cells #[.int .i64 6, .string ⟨#[]⟩, .slice p1 1 q1, .slice p2 1 q2] 25 (0, 0)) ∧ V.heap[w.heap.size]? = some (.cells #[.int .i64 2, .int .i64 i.k, .int .i64 i.n, .string I, .string M, .int .i64 p.kind, .string P, .slice kp p.keys.length kc, .slice ip p.items.length ic] 64 (0, 0))) V3.drew from ⟨hx3, HM.out V3 b3⟩) (fun hHeld => ?_)
         refine wpAnyU_take (i := 0) (oi := { dst := some 64, op := Op.load 25 (Operand.tmp 5), type := 25, pos := "ref.go:131", after := #[], guard := none }) (v := ?_) [4, 5] rfl (by kernel_rfl) (by kernel_rfl) (by kernel_rfl) (by kernel_rfl) (fun _ _ _ h => h) (Or.inl ⟨by rfl, ?_⟩) (by assumption) ?_
         rotate_left
         · intro w hS; obtain ⟨k0, k1, k2, k3⟩ := cells4 hS.1; obtain ⟨m0, m1, m2, m3, m4, m5, m6, m7, m8⟩ := cells9 hS.2; go_simp; with_reducible rfl
         try simp only [Act.put, aSA, aSZ, aSS]
         refine wpAnyU_take (i := 1) (oi := { dst := some 65, op := Op.fieldAddr 64 (Operand.tmp 1) 2, type := 0, pos := "ref.go:131", after := #[], guard := none }) (v := ?_) [2, 3, 4, 5] rfl (by kernel_rfl) (by kernel_rfl) (by kernel_rfl) (by kernel_rfl) (fun _ _ _ h => h) (Or.inl ⟨by rfl, ?_⟩) (by assumption) ?_
         rotate_left
         · intro w hS; obtain ⟨k0, k1, k2, k3⟩ := cells4 hS.1; obtain ⟨m0, m1, m2, m3, m4, m5, m6, m7, m8⟩ := cells9 hS.2; go_simp; with_reducible rfl
         try simp only [Act.put, aSA, aSZ, aSS]
         refine wpAnyU_take (i := 2) (oi := { dst := some 66, op := Op.load 9 (Operand.tmp 65), type := 9, pos := "ref.go:131", after := #[eDa 1], guard := none }) (v := ?_) [3, 4, 5] rfl (by kernel_rfl) (by kernel_rfl) (by kernel_rfl) (by kernel_rfl) (fun _ _ _ h => h) (Or.inl ⟨by rfl, ?_⟩) (by assumption) ?_
         rotate_left
         · intro w hS; obtain ⟨k0, k1, k2, k3⟩ := cells4 hS.1; obtain ⟨m0, m1, m2, m3, m4, m5, m6, m7, m8⟩ := cells9 hS.2; go_simp; with_reducible rfl
         try simp only [Act.put, aSA, aSZ, aSS]
         refine wpAnyU_ready (rs := [3]) (by kernel_rfl) (by simp) (AllReadyU.cons (o := { dst := some 67, op := Op.call { callee := Callee.value (Operand.func 97), args := #[Operand.tmp 66], argTypes := #[9] }, type := 25, pos := "ref.go:131", after := #[eDa 2], guard := none }) rfl (fun K hK => ?_) AllReadyU.nil)
         rw [if_pos (by rfl)]
         go_simp
         (go_at_call 97; refine (rtxt_any M _).mono ?_; rintro e w7 ⟨rfl, hb7⟩; have b37 : Below V3.heap.size V3 w7 := (Below.refl _ _).drew.trans hb7; have hor7 := hor3.below b37)
         refine hK.out _ _ (fun _ => ⟨(b37.block _ hzx).trans hx3, HM.out w7 (Below.on b3 b37)⟩) (fun hS2 => ?_)
         replace hS2 := hS2 (by decide)
         clear hK K
         try simp only [Act.put, aSA, aSZ, aSS]
         refine wpAnyU_ready (rs := [4]) (by kernel_rfl) (by simp) (AllReadyU.cons (o := { dst := some 68, op := Op.call { callee := Callee.value (Operand.func 104), args := #[Operand.tmp 64, Operand.const (Value.string { data := #[109, 101, 116, 104, 111, 100] }), Operand.tmp 67], argTypes := #[25, 9, 25] }, type := 25, pos := "ref.go:131", after := #[eDa 0, eDa 3, eCh 3], guard := none }) rfl (fun K hK => ?_) AllReadyU.nil)
         rw [if_pos (by rfl)]
         go_simp
         (go_at_call 104; refine (with_leaf hor7 ⟨#[109, 101, 116, 104, 111, 100]⟩ (txtV ms) M HS.out.2.2.1 rfl rfl 1 2 1 2 rfl rfl rfl rfl (by decide) (by decide)).mono ?_; rintro e w8 ⟨p5, q5, p6, q6, rfl, hor8, hb8, hap8⟩; obtain ⟨hz8, hza8⟩ := hap8 zx (Nat.lt_of_lt_of_le hzx b37.size) hza; have b8 : Below W.heap.size W w8 := (Below.on b3 b37).trans (hb8.mono hzc))
         refine hK.out _ _ (fun _ => ⟨hz8.trans ((b37.block _ hzx).trans hx3), HM.out w8 b8⟩) (fun hS2 => ?_)
         replace hS2 := hS2 (by decide)
         clear hK K
         try simp only [Act.put, aSA, aSZ, aSS]
         refine wpAnyU_ready (rs := [5]) (by kernel_rfl) (by simp) (AllReadyU.cons (o := { dst := none, op := Op.store 25 (Operand.tmp 5) (Operand.tmp 68), type := 0, pos := "ref.go:131", after := #[eDa 4, eCh 4, ePh 0, ePh 1, ePh 2, ePh 3, ePh 4], guard := none }) rfl (fun K hK => ?_) AllReadyU.nil)
         rw [if_pos (by rfl)]
         refine store_val2 (.tmp 5) (.tmp 68) rfl zx rfl (.int .i64 6) (.string ⟨#[]⟩) (.slice p5 2 q5) (.slice p6 2 q6) rfl (by simp [Value.oneCell']) ⟨_, _, _, _, hz8.trans ((b37.block _ hzx).trans hx3)⟩ (fun V9 hx9 hg9 _ => ?_)
         refine hK.out _ _ (fun h => absurd h (by decide)) (fun _ => ?_)
         clear hK K
         try simp only [Act.put]
         have b9 := below_gbz b8 hzw hg9
         have hor9 : OR wc.heap.size V9 [kVer, kMethod] [leafC (txtV v20), leafC (txtV ms)] p5 q5 p6 q6 := hor8.set hg9 hza8
         have hzx9 : zx < V9.heap.size := (ltS hx9)
         clear b37 b8 hor7 hor8 hb7 hb8 hg9 hx3 hor3 hap8 hz8 hza hzx
         refine wpAnyU_done (by kernel_rfl) ?_ _
         obtain ⟨k0, k1, k2, k3⟩ := cells4 hx9
         obtain ⟨m0, m1, m2, m3, m4, m5, m6, m7, m8⟩ := cells9 (HM.out V9 b9)
         have had := with_any hor9 ⟨#[112, 97, 114, 97, 109, 115]⟩ ⟨p, kp, kc, ip, ic⟩ P HS.out.2.2.2 2 3 2 3 rfl rfl rfl rfl (by decide) (by decide)
         go_upto_region 12 with (first
          | (go_at_call 104; refine had.mono ?_; rintro e wa ⟨p7, q7, p8, q8, rfl, hora, hba, hapa⟩; obtain ⟨hzaa, hza9⟩ := hapa zx hzx9 hza8; have hja : JBox wa zx := ⟨_, _, _, _, hzaa.trans hx9⟩; have HJA := Lib.hid hja; clear hja)
          | (refine store_val rfl (.tmp 5) (.tmp 74) rfl zx rfl (.int .i64 6) (.string ⟨#[]⟩) (.slice p7 3 q7) (.slice p8 3 q8) rfl rfl HJA.out (fun Vz hxz hgz _ => ?_)
             have bz := below_gbz (b9.trans (hba.mono hzc)) hzw hgz
             have horz : OR wc.heap.size Vz [kVer, kMethod, kParams] [leafC (txtV v20), leafC (txtV ms), ⟨p, kp, kc, ip, ic⟩] p7 q7 p8 q8 := (hora.set hgz hza9)
             clear hora hba hapa hzaa hgz hx9 k0 k1 k2 k3 m0 m1 m2 m3 m4 m5 m6 m7 m8 had))
         obtain ⟨k0, k1, k2, k3⟩ := cells4 hxz
         have hki : KI Vz (.mk 6 [] [kVer, kMethod, kParams] [txtV v20, txtV ms, p]) p7 q7 p8 q8 := horz.ki (fun c hc => by
          simp only [List.mem_cons, List.not_mem_nil, or_false] at hc
          rcases hc with rfl | rfl | rfl
          · exact leaf_ok rfl rfl (by decide)
          · exact leaf_ok rfl rfl HL.out.2.1
          · exact ⟨HK.out Vz bz, HL.out.2.2⟩) ⟨(by show 3 ≤ maxLen; decide), by show 3 ≤ maxLen; decide, keys_short (by decide)⟩
         have h106 : Calls Tryz.prog 106 #[.agg #[.int .i64 6, .string ⟨#[]⟩, .slice p7 3 q7, .slice p8 3 q8]] Vz fun e w'' => e = .returned (.tuple #[.string X, .int .i64 (n : Nat)]) ∧ Below Vz.heap.size Vz w'' := rput_is hki HWT.out (S := ⟨#[]⟩) rfl HPUT.out Vz (Below.refl _ _)
         clear hki horz
         go_wp2_with (first
          | (go_at_call 106; refine h106.mono ?_; rintro e wy ⟨rfl, hby⟩))
         go_ret2
         exact ⟨rfl, Below.on HBW.out (Below.on bz hby)⟩
end Go.Proofs.Rp
