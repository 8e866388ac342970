/- JsonSays: the walk. -/
import Derived.Test.YtphiceebhncflaaDoorV33
namespace Go.Proofs.Jt
open Go.RowKit Go.Maps Go.Lib Go.Proofs.Utf Go.Proofs

set_option maxRecDepth 100000 in
set_option maxHeartbeats 4000000 in
theorem says_walk (s : ByteArray) {w : World} (hT : Tabs w) (hs : s.size ≤ 9223372036854775807) : Calls Tryd.prog 9 #[.string s] w fun e w' => e = .returned (.bool true) ∧ Below w.heap.size w w' := by
  by_cases hbig : 5000 < s.size
  · have h20 := works_any w hT
    go_enter Tryd.func9, Tryd.ntmps9
    go_wp2_with (first | (go_at_call 20; refine h20.mono ?_; rintro e w2 ⟨rfl, hb2⟩))
    go_ret
    exact ⟨rfl, hb2⟩
  · obtain ⟨v, n, hp⟩ : ∃ v n, parV s.data.toList = (v, n) := ⟨_, _, rfl⟩
    obtain ⟨S, hS⟩ : ∃ S : ByteArray, (⟨v.str.toArray⟩ : ByteArray) = S := ⟨_, rfl⟩
    have hpar := parse_is hT (by omega) hp hS
    have hsl : s.data.toList.length = s.size := Array.length_toList
    by_cases h0 : n = 0
    · subst h0
      have hc := par_ok hp
      have hwt : v.wt ≤ 10000 := by have := par_wt hp; omega
      obtain ⟨X, hX⟩ : ∃ X : ByteArray, (⟨v.text.toArray⟩ : ByteArray) = X := ⟨_, rfl⟩
      have hXl : X.data.toList = v.text := by rw [← hX]
      have hXs : X.size ≤ 16777216 := by rw [← hX, arr_size]; have := text_len v; omega
      have hput : putV v = (X.data.toList, 0) := by unfold putV; rw [if_pos hc, hXl]
      have hpar2 : parV X.data.toList = (v, 0) := by rw [hXl]; exact par_text v hc
      have HS := Lib.hid hS
      have HWT : Hid (v.wt ≤ 1000000) := Lib.hid (by omega)
      have HC := Lib.hid hc
      have HPUT := Lib.hid hput
      have HPAR := Lib.hid hpar2
      have HXS := Lib.hid hXs
      have HEQ := Lib.hid (eqV_refl v)
      have HT : Hid (∀ V, Below w.heap.size w V → Tabs V) := Lib.hid fun V hV => hT.below hV
      obtain ⟨t1, t2⟩ := str_same X
      clear hc hwt hX hXl hXs hput hpar2 hS hp hsl hT
      go_enter Tryd.func9, Tryd.ntmps9
      go_wp2_with (first
        | (with_reducible (show Calls _ _ _ w _); go_at_call 21; refine hpar.mono ?_; rintro e w1 ⟨kp, kc, ip, ic, rfl, hkp, _, hb1⟩
           obtain ⟨V1, hV1⟩ : ∃ V, w1.alloc (.cells #[.int .i64 v.kind, .string S, .slice kp v.keys.length kc, .slice ip v.items.length ic] 45) = V := ⟨_, rfl⟩
           have hv1 := alloc_b hV1
           have b1 := Below.on hb1 hv1
           have HBX := Lib.hid (box_of hV1)
           obtain ⟨c0, c1, c2, c3⟩ := HBX.out V1 (Below.refl _ _)
           have HKP := Lib.hid (hkp.ki.stay hv1)
           have h22 := put_is (HT.out V1 b1) HKP.out HWT.out HS.out HPUT.out V1 (Below.refl _ _)
           clear hkp)
        | (with_reducible (show Calls _ _ _ V1 _); go_at_call 22; refine h22.mono ?_; rintro e w2 ⟨rfl, hb2⟩; have b2 := Below.on b1 hb2
           have h21 := parse_is (HT.out w2 b2) HXS.out HPAR.out HS.out)
        | (go_at_call 21; refine h21.mono ?_; rintro e w3 ⟨kp', kc', ip', ic', rfl, hkp', _, hb3⟩
           obtain ⟨V3, hV3⟩ : ∃ V, w3.alloc (.cells #[.int .i64 v.kind, .string S, .slice kp' v.keys.length kc', .slice ip' v.items.length ic'] 45) = V := ⟨_, rfl⟩
           have hv3 := alloc_b hV3
           have b13 := Below.on hb2 (Below.on hb3 hv3)
           have b3 := Below.on b1 b13
           have HB3 := Lib.hid (box_of hV3)
           obtain ⟨d0, d1, d2, d3⟩ := HB3.out V3 (Below.refl _ _)
           have HKP3 := Lib.hid (hkp'.ki.stay hv3)
           have h22b := put_is (HT.out V3 b3) HKP3.out HWT.out HS.out HPUT.out V3 (Below.refl _ _)
           clear hkp')
        | (go_at_call 22; refine h22b.mono ?_; rintro e w4 ⟨rfl, hb4⟩; have b14 := Below.on b13 hb4; have b4 := Below.on b1 b14
           obtain ⟨e0, e1, e2, e3⟩ := HBX.out w4 b14
           have h23 := check_is (HT.out w4 b4) (HKP.out.stay b14) HWT.out HS.out w4 (Below.refl _ _)
           rw [HC.out] at h23)
        | (go_at_call 23; refine h23.mono ?_; rintro e w5 ⟨rfl, hb5⟩; have b15 := Below.on b14 hb5; have b5 := Below.on b1 b15
           obtain ⟨f0, f1, f2, f3⟩ := HBX.out w5 b15
           have b35 := Below.on hb4 hb5
           obtain ⟨g0, g1, g2, g3⟩ := HB3.out w5 b35
           have h24 := equal_is (HKP.out.stay b15) (HKP3.out.stay b35) HS.out HS.out w5 (Below.refl _ _)
           rw [HEQ.out] at h24)
        | (go_at_call 24; refine h24.mono ?_; rintro e w6 ⟨rfl, hb6⟩; have b6 := Below.on b5 hb6; have h20 := works_any w6 (HT.out w6 b6))
        | (go_at_call 20; refine h20.mono ?_; rintro e w7 ⟨rfl, hb7⟩))
      go_ret
      exact ⟨rfl, Below.on b6 hb7⟩
    · have n1 : ((n : Int) != 0) = true := by simp; omega
      have n2 : ((n : Int) == 0) = false := beq_eq_false_iff_ne.2 (by omega)
      have HT : Hid (∀ V, Below w.heap.size w V → Tabs V) := Lib.hid fun V hV => hT.below hV
      clear hsl hS hp hT h0
      go_enter Tryd.func9, Tryd.ntmps9
      go_wp2_with (first
        | (go_at_call 21; refine hpar.mono ?_; rintro e w1 ⟨kp, kc, ip, ic, rfl, hkp, _, hb1⟩
           obtain ⟨V1, hV1⟩ : ∃ V, w1.alloc (.cells #[.int .i64 v.kind, .string S, .slice kp v.keys.length kc, .slice ip v.items.length ic] 45) = V := ⟨_, rfl⟩
           have hv1 := alloc_b hV1
           have h20 := works_any V1 (HT.out V1 (Below.on hb1 hv1)))
        | (go_at_call 20; refine h20.mono ?_; rintro e w2 ⟨rfl, hb2⟩))
      go_ret
      exact ⟨rfl, Below.on hb1 (Below.on hv1 hb2)⟩
end Go.Proofs.Jt
