/- RpcBack: the walk. Printed by gen_p10.py. -/
import Derived.Test.YtaiaiiepbpbmmaaGreatDoorP9
namespace Go.Proofs.Rp
open Go.RowKit Go.Maps Go.Lib Go.Proofs.Utf Go.Proofs.Jt Go.Proofs

theorem putM_size {m : MsgV} {s : List UInt8} (h0 : -9223372036854775808 ≤ m.id.n) (h1 : m.id.n ≤ 9223372036854775807) (h : putM m = (s, 0)) : s.length ≤ 9 * (1000 + m.id.s.length + m.m.length + m.p.wt) := by
  unfold putM at h
  split at h
  · have hw : (JV.mk 6 [] m.keys m.items).wt ≤ 1000 + m.id.s.length + m.m.length + m.p.wt := by
      have h2 := (val_wt h0 h1).1
      have h3 : (txtV m.m).wt ≤ 100 + m.m.length := (val_wt (i := ⟨2, 0, m.m⟩) (by show (-9223372036854775808 : Int) ≤ 0; decide) (by show (0 : Int) ≤ _; decide)).1
      have h4 : (txtV v20).wt = 4 := rfl
      rw [JV.wt]
      unfold MsgV.keys MsgV.items
      split <;> split <;> simp only [keysW, wtL, kVer, kId, kMethod, kParams, List.length_cons, List.length_nil, List.cons_append, List.nil_append] <;> omega
    unfold putV at h
    split at h
    · cases h
      have := text_len (JV.mk 6 [] m.keys m.items)
      omega
    · rename_i hc
      exact absurd (congrArg Prod.snd h) hc
  · have := congrArg Prod.snd h
    cases this
set_option maxRecDepth 100000 in
set_option maxHeartbeats 16000000 in
theorem back_walk {w : World} (k : Int) (i : IdV) (ms : List UInt8) (p : JV) (I M P : ByteArray) (hI : (⟨i.s.toArray⟩ : ByteArray) = I) (hM : (⟨ms.toArray⟩ : ByteArray) = M) (hP : (⟨p.str.toArray⟩ : ByteArray) = P)
    (h0 : -9223372036854775808 ≤ i.n) (h1 : i.n ≤ 9223372036854775807) (hpl : p.str.length ≤ maxLen) {kp ip : Option Addr} {kc ic : Nat} (hT : Tabs w) (hE : ErrV w) (hTen : TenV w) (hK : KI w p kp kc ip ic) :
    Calls Tryz.prog 7 #[.agg #[.int .i64 k, .int .i64 i.k, .int .i64 i.n, .string I, .string M, .int .i64 p.kind, .string P, .slice kp p.keys.length kc, .slice ip p.items.length ic]] w fun e w' => e = .returned (.bool true) ∧ Below w.heap.size w w' := by
  obtain ⟨W, hW⟩ : ∃ W, w.alloc (.cells #[.int .i64 k, .int .i64 i.k, .int .i64 i.n, .string I, .string M, .int .i64 p.kind, .string P, .slice kp p.keys.length kc, .slice ip p.items.length ic] 59) = W := ⟨_, rfl⟩
  have bW := alloc_b hW
  have HB : Hid (∀ V, Below W.heap.size W V → _) := Lib.hid fun V hV => cells9 (row_of hW V hV)
  have HT : Hid (∀ V, Below W.heap.size W V → Tabs V ∧ ErrV V ∧ TenV V) := Lib.hid fun V hV => ⟨hT.below (Below.on bW hV), hE.below (Below.on bW hV), hTen.below (Below.on bW hV)⟩
  have HK : Hid (∀ V, Below W.heap.size W V → KI V p kp kc ip ic) := Lib.hid fun V hV => hK.stay (Below.on bW hV)
  have HBW := Lib.hid bW
  have hfew := few38_any (HK.out W (Below.refl _ _)) hpl hP
  obtain ⟨m0, m1, m2, m3, m4, m5, m6, m7, m8⟩ := HB.out W (Below.refl _ _)
  have HS := Lib.hid (And.intro hI (And.intro hM hP))
  have HBD := Lib.hid (And.intro h0 h1)
  have his : i.s.length = I.size := by rw [← hI, arr_size]
  have hml : ms.length = M.size := by rw [← hM, arr_size]
  clear hI hM hP h0 h1 hpl hT hE hTen hK bW
  by_cases hf : 0 < p.sz 1500
  · rw [decide_eq_true hf] at hfew
    have hpw := few_wt hf
    clear hf
    by_cases hM : 1500 < M.size
    · clear his hml hpw
      go_enter Tryz.func7, Tryz.ntmps7
      go_wp2_with (first
        | (go_at_call 38; refine (hfew _ (Below.refl _ _)).mono ?_; rintro e w1 ⟨rfl, hb1⟩; clear m0 m1 m2 m3 m4 m5 m6 m7 m8; obtain ⟨m0, m1, m2, m3, m4, m5, m6, m7, m8⟩ := HB.out w1 hb1)
        | (go_at_call 34; refine (works_any _ (HT.out _ hb1).1 (HT.out _ hb1).2.1 (HT.out _ hb1).2.2).mono ?_; rintro e w9 ⟨rfl, hb9⟩))
      go_ret
      exact ⟨rfl, Below.on HBW.out (Below.on hb1 hb9)⟩
    · by_cases hI : 1500 < I.size
      · clear his hml hpw
        go_enter Tryz.func7, Tryz.ntmps7
        go_wp2_with (first
          | (go_at_call 38; refine (hfew _ (Below.refl _ _)).mono ?_; rintro e w1 ⟨rfl, hb1⟩; clear m0 m1 m2 m3 m4 m5 m6 m7 m8; obtain ⟨m0, m1, m2, m3, m4, m5, m6, m7, m8⟩ := HB.out w1 hb1)
          | (go_at_call 34; refine (works_any _ (HT.out _ hb1).1 (HT.out _ hb1).2.1 (HT.out _ hb1).2.2).mono ?_; rintro e w9 ⟨rfl, hb9⟩))
        go_ret
        exact ⟨rfl, Below.on HBW.out (Below.on hb1 hb9)⟩
      · obtain ⟨X, n, hr⟩ : ∃ (X : ByteArray) (n : Nat), putM ⟨k, i, ms, p⟩ = (X.data.toList, n) := ⟨⟨(putM ⟨k, i, ms, p⟩).1.toArray⟩, (putM ⟨k, i, ms, p⟩).2, by simp⟩
        have HW : Hid (i.s.length ≤ 1500 ∧ ms.length ≤ 1500 ∧ p.wt ≤ 1500) := Lib.hid (by omega)
        have HR := Lib.hid hr
        clear his hml hpw hr
        go_enter Tryz.func7, Tryz.ntmps7
        go_upto_region 4 with (first
          | (go_at_call 38; refine (hfew _ (Below.refl _ _)).mono ?_; rintro e w1 ⟨rfl, hb1⟩; clear m0 m1 m2 m3 m4 m5 m6 m7 m8; obtain ⟨m0, m1, m2, m3, m4, m5, m6, m7, m8⟩ := HB.out w1 hb1)
          | (go_at_call 39
             have h39 := putM_any k i ms p I M P HS.out.1 HS.out.2.1 HS.out.2.2 HBD.out.1 HBD.out.2 (by have := HW.out; omega) (by have := HW.out; omega) (by have := HW.out; omega) (HT.out w1 hb1).1 (HT.out w1 hb1).2.2 (HK.out w1 hb1) X n HR.out
             refine h39.mono ?_; rintro e w2 ⟨rfl, hb2⟩
             have b2 := Below.on hb1 hb2
             clear h39 m0 m1 m2 m3 m4 m5 m6 m7 m8
             obtain ⟨m0, m1, m2, m3, m4, m5, m6, m7, m8⟩ := HB.out w2 b2))
        by_cases hn : n = 0
        · subst hn
          have hrd := read_put (m := ⟨k, i, ms, p⟩) HBD.out.1 HBD.out.2 HR.out
          have hsz : X.size ≤ 400000 := by
            have h1 := putM_size (m := ⟨k, i, ms, p⟩) HBD.out.1 HBD.out.2 HR.out
            have h2 := HW.out
            rw [Lib.size_eq]
            simp only at h1
            omega
          obtain ⟨q, hq⟩ : ∃ q, (if p.kind = 0 then jn 0 else p) = q := ⟨_, rfl⟩
          simp only at hrd
          rw [hq] at hrd
          obtain ⟨QS, hQS⟩ : ∃ B : ByteArray, (⟨q.str.toArray⟩ : ByteArray) = B := ⟨_, rfl⟩
          have h35 : Calls Tryz.prog 35 #[.string X] w2 fun e w' => ∃ kq kd iq id, e = .returned (.tuple #[.agg #[.int .i64 k, .int .i64 i.k, .int .i64 i.n, .string I, .string M, .int .i64 q.kind, .string QS, .slice kq q.keys.length kd, .slice iq q.items.length id], .agg #[.int .i64 i.k, .int .i64 i.n, .string I], .int .i64 0]) ∧ KI w' q kq kd iq id ∧ Below w2.heap.size w2 w' := by
            have h := read_any X (HT.out w2 b2).1 (HT.out w2 b2).2.1 hsz
            rw [hrd] at h
            refine h.mono ?_
            rintro e w' ⟨kq, kd, iq, id, rfl, h2, h3⟩
            exact ⟨kq, kd, iq, id, by rw [← HS.out.1, ← HS.out.2.1, ← hQS], h2, h3⟩
          have HQ := Lib.hid (And.intro hq hQS)
          have hagg : ∀ (kp : Option Addr) (kc : Nat) (ip : Option Addr) (ic : Nat), (#[Value.int .i64 k, .int .i64 i.k, .int .i64 i.n, .string I, .string M, .int .i64 q.kind, .string QS, .slice kp q.keys.length kc, .slice ip q.items.length ic] : Array Value).all (·.oneCell') = true := fun _ _ _ _ => by simp [Value.oneCell']
          clear hrd hsz hq hQS
          go_upto_region 7 with (first
            | (go_at_call 35; refine h35.mono ?_; rintro e w3 ⟨kq, kd, iq, id, rfl, hkq, hb3⟩
               obtain ⟨U1, hU1⟩ : ∃ V, w3.alloc (.cells #[.int .i64 0, .int .i64 0, .int .i64 0, .string ⟨#[]⟩, .string ⟨#[]⟩, .int .i64 0, .string ⟨#[]⟩, .slice none 0 0, .slice none 0 0] 59) = V := ⟨_, rfl⟩
               have hz1 : U1.heap.size = w3.heap.size + 1 := (by rw [← hU1]; simp)
               obtain ⟨V0, hV0⟩ : ∃ V, U1.alloc (.cells #[.int .i64 0, .int .i64 0, .string ⟨#[]⟩] 57) = V := ⟨_, rfl⟩
               have u1 := alloc_b hU1
               have v0 := alloc_b hV0
               have hne : w3.heap.size ≠ w3.heap.size + 1 := (by omega)
               have hmz := row_of hU1 V0 v0
               have hiz := row_of hV0 V0 (Below.refl _ _)
               rw [hz1] at hiz
               have b30 : Below w3.heap.size w3 V0 := Below.on u1 v0
               have b03 := Below.on b2 hb3
               have b0 := Below.on b03 b30
               have HKQ := Lib.hid hkq
               clear h35 hkq)
            | (refine store_msg rfl (.tmp 5) (.tmp 41) rfl w3.heap.size rfl (.int .i64 k) (.int .i64 i.k) (.int .i64 i.n) (.string I) (.string M) (.int .i64 q.kind) (.string QS) (.slice kq q.keys.length kd) (.slice iq q.items.length id) rfl (hagg kq kd iq id) ⟨_, _, _, _, _, _, _, _, _, hmz⟩ (fun V1 hV1 hgV1 _ => ?_)
               have hiz1 := (hgV1.block (w3.heap.size + 1) (Array.getElem?_eq_some_iff.1 hiz).1 (fun e => hne (Option.some.inj e).symm)).trans hiz
               have b31 := below_gbz b30 (Nat.le_refl _) hgV1)
            | (refine store_id rfl (.tmp 6) (.tmp 42) rfl (w3.heap.size + 1) rfl (.int .i64 i.k) (.int .i64 i.n) (.string I) rfl rfl ⟨_, _, _, hiz1⟩ (fun V2 hV2 hgV2 _ => ?_)
               have hm2 := (hgV2.block w3.heap.size (Array.getElem?_eq_some_iff.1 hV1).1 (fun e => hne (Option.some.inj e))).trans hV1
               have b32 := below_gbz b31 (Nat.le_succ _) hgV2))
          have b02 := Below.on b03 b32
          clear m0 m1 m2 m3 m4 m5 m6 m7 m8 hmz hiz hiz1 hV1 b30 b31 b0
          obtain ⟨m0, m1, m2, m3, m4, m5, m6, m7, m8⟩ := HB.out V2 b02
          obtain ⟨n0, n1, n2, n3, n4, n5, n6, n7, n8⟩ := cells9 hm2
          obtain ⟨i0, i1, i2, _⟩ := cells3 hV2
          obtain ⟨s1, s2⟩ := str_same I
          obtain ⟨s3, s4⟩ := str_same M
          by_cases p0 : p.kind = 0
          · have e0 : (p.kind == 0) = true := by simp [p0]
            obtain rfl : jn 0 = q := by rw [← HQ.out.1, if_pos p0]
            rw [show (jn 0).kind = 0 from rfl] at n5
            clear p0
            go_wp2_with (first
              | (go_at_call 34; refine (works_any _ (HT.out _ b02).1 (HT.out _ b02).2.1 (HT.out _ b02).2.2).mono ?_; rintro e w9 ⟨rfl, hb9⟩))
            go_ret
            exact ⟨rfl, Below.on HBW.out (Below.on b02 hb9)⟩
          · have e0 : (p.kind == 0) = false := by simp [p0]
            obtain rfl : p = q := by rw [← HQ.out.1, if_neg p0]
            obtain rfl : P = QS := HS.out.2.2.symm.trans HQ.out.2
            obtain ⟨Y, m, hY⟩ : ∃ (Y : ByteArray) (m : Nat), putV p = (Y.data.toList, m) := ⟨⟨(putV p).1.toArray⟩, (putV p).2, by simp⟩
            have hal := alike_any (HT.out V2 b02).1 (HKQ.out.stay b32) (HK.out V2 b02) (by have := HW.out; omega) (by have := HW.out; omega) HS.out.2.2 HS.out.2.2 hY hY
            rw [decide_eq_true ⟨rfl, rfl⟩] at hal
            clear p0 hY
            go_wp2_with (first
              | (go_at_call 42; refine hal.mono ?_; rintro e w8 ⟨rfl, hb8⟩; have b08 := Below.on b02 hb8)
              | (go_at_call 34; refine (works_any _ (HT.out _ b08).1 (HT.out _ b08).2.1 (HT.out _ b08).2.2).mono ?_; rintro e w9 ⟨rfl, hb9⟩))
            go_ret
            exact ⟨rfl, Below.on HBW.out (Below.on b08 hb9)⟩
        · have hX : X = ⟨#[]⟩ := ByteArray.ext (Array.toList_inj.1 (put_errM HR.out hn))
          subst hX
          have q0 : ((n : Int) != 0) = true := by simp [hn]
          clear hn
          go_wp2_with (first
            | (go_at_call 34; refine (works_any _ (HT.out _ b2).1 (HT.out _ b2).2.1 (HT.out _ b2).2.2).mono ?_; rintro e w9 ⟨rfl, hb9⟩))
          go_ret
          exact ⟨rfl, Below.on HBW.out (Below.on b2 hb9)⟩
  · rw [decide_eq_false hf] at hfew
    clear hf his hml
    go_enter Tryz.func7, Tryz.ntmps7
    go_wp2_with (first
      | (go_at_call 38; refine (hfew _ (Below.refl _ _)).mono ?_; rintro e w1 ⟨rfl, hb1⟩; clear m0 m1 m2 m3 m4 m5 m6 m7 m8; obtain ⟨m0, m1, m2, m3, m4, m5, m6, m7, m8⟩ := HB.out w1 hb1)
      | (go_at_call 34; refine (works_any _ (HT.out _ hb1).1 (HT.out _ hb1).2.1 (HT.out _ hb1).2.2).mono ?_; rintro e w9 ⟨rfl, hb9⟩))
    go_ret
    exact ⟨rfl, Below.on HBW.out (Below.on hb1 hb9)⟩
end Go.Proofs.Rp
