/- JsonParses: the walk. -/
import Derived.Test.YtphiceebhncflaaGreatDoorZ10
import Derived.Test.YtphiceebhncflaaGreatDoorZL
namespace Go.Proofs.Jt
open Go.RowKit Go.Maps Go.Lib Go.Proofs.Utf Go.Proofs

theorem KP.lens {w : World} {P : Nat → Prop} {x : JV} {kp ip : Option Addr} {kc ic : Nat} (h : KP w P x kp kc ip ic) : x.keys.length ≤ maxLen ∧ x.items.length ≤ maxLen := by
  cases h with
  | mk _ _ _ _ _ fp fc gp gc hk hkP hz hi hiP hh => exact ⟨hz.2.1, hz.1⟩
theorem KP.on {w w' : World} {P : Nat → Prop} {x : JV} {kp ip : Option Addr} {kc ic : Nat} (h : KP w P x kp kc ip ic) (hb : Below w.heap.size w w') : KP w' P x kp kc ip ic :=
  h.fr (FrP.of_none (P := fun _ => False) (gb_below' hb)) fun _ _ => id
set_option maxRecDepth 100000 in
set_option maxHeartbeats 8000000 in
theorem parses_walk (s : ByteArray) {w : World} (hT : Tabs w) (hs : s.size ≤ 9223372036854775807) : Calls Tryz.prog 4 #[.string s] w fun e w' => e = .returned (.bool true) ∧ Below w.heap.size w w' := by
  by_cases hbig : 5000 < s.size
  · have h20 := works_any w hT
    go_enter Tryz.func4, Tryz.ntmps4
    go_wp2_with (first | (go_at_call 8; refine h20.mono ?_; rintro e w2 ⟨rfl, hb2⟩))
    go_ret
    exact ⟨rfl, hb2⟩
  · obtain ⟨v, n, hp⟩ : ∃ v n, parV s.data.toList = (v, n) := ⟨_, _, rfl⟩
    obtain ⟨S, hS⟩ : ∃ S : ByteArray, (⟨v.str.toArray⟩ : ByteArray) = S := ⟨_, rfl⟩
    have hpar := parse_is hT (by omega) hp hS
    have hsl : s.data.toList.length = s.size := Array.length_toList
    have HS := Lib.hid hS
    have HP := Lib.hid hp
    have HSZ : Hid (s.size ≤ 5000) := Lib.hid (by omega)
    have HEQ := Lib.hid (eqV_refl v)
    have HT : Hid (∀ V, Below w.heap.size w V → Tabs V) := Lib.hid fun V hV => hT.below hV
    have n1 : ((n : Int) != (n : Int)) = false := by simp
    clear hS hp hsl hT
    go_enter Tryz.func4, Tryz.ntmps4
    go_wp2_with (first
      | (with_reducible (show Calls _ _ _ w _); go_at_call 15; refine hpar.mono ?_; rintro e w1 ⟨kp, kc, ip, ic, rfl, hkp, _, hb1⟩
         obtain ⟨V1, hV1⟩ : ∃ V, w1.alloc (.cells #[.int .i64 v.kind, .string S, .slice kp v.keys.length kc, .slice ip v.items.length ic] 25) = V := ⟨_, rfl⟩
         have hv1 := alloc_b hV1
         have b1 := Below.on hb1 hv1
         have HBX := Lib.hid (box_of hV1)
         have HV1 := Lib.hid hv1
         have HKP1 : Hid (KP w1 (fun b => w.heap.size ≤ b ∧ b < w1.heap.size) v kp kc ip ic) := Lib.hid (hkp.keep (Nat.le_refl _) (fun _ _ _ => rfl) (fun b hb hl => ⟨hb, hl⟩))
         have HLN := Lib.hid hkp.lens
         have h16 := rparse_is (w := V1) HSZ.out HP.out HS.out
         clear hkp hpar)
      | (go_at_call 16; refine h16.mono ?_; rintro e w2 ⟨kp', kc', ip', ic', rfl, hkp', _, hb2⟩
         obtain ⟨V2, hV2⟩ : ∃ V, w2.alloc (.cells #[.int .i64 v.kind, .string S, .slice kp' v.keys.length kc', .slice ip' v.items.length ic'] 25) = V := ⟨_, rfl⟩
         have hv2 := alloc_b hV2
         have b12 := Below.on hb2 hv2
         have HBY := Lib.hid (box_of hV2)
         have HHY : Hid (V2.heap[w2.heap.size]? = some (.cells #[.int .i64 v.kind, .string S, .slice kp' v.keys.length kc', .slice ip' v.items.length ic'] 25 (0, 0))) := Lib.hid (by rw [← hV2]; exact alloc_at w2 _)
         obtain ⟨c0, c1, c2, c3⟩ := HBX.out V2 b12
         obtain ⟨d0, d1, d2, d3⟩ := HBY.out V2 (Below.refl _ _)
         have HKP2 := Lib.hid (hkp'.on hv2)
         have HSZ2 := Lib.hid hb2.size
         have h14 := equal_is (HKP1.out.ki.stay (Below.on HV1.out b12)) HKP2.out.ki HS.out HS.out V2 (Below.refl _ _)
         rw [HEQ.out] at h14
         clear hkp' h16)
      | (with_reducible (show Calls _ _ _ V2 _); go_at_call 14; refine h14.mono ?_; rintro e w3 ⟨rfl, hb3⟩
         have b13 := Below.on b12 hb3
         clear c0 c1 c2 c3 d0 d1 d2 d3 h14
         obtain ⟨c0, c1, c2, c3⟩ := HBX.out w3 b13
         obtain ⟨d0, d1, d2, d3⟩ := HBY.out w3 hb3
         have h17 := spoil_any (P := fun b => w.heap.size ≤ b ∧ b < w1.heap.size) (N := w1.heap.size) (fun b hb => hb.2) v.wt w3 v.kind S kp v.keys.length kc ip v.items.length ic (Nat.le_trans HV1.out.size b13.size) ((HKP1.out.on (Below.on HV1.out b13)).sh v.wt (Nat.le_refl _)) HLN.out.1 HLN.out.2)
      | (go_at_call 17; refine h17.mono ?_; rintro e w4 ⟨rfl, hsp⟩
         have b4 : Below w.heap.size w w4 := below_fr (Below.on b1 b13) (Nat.le_refl _) hsp.fr (fun b hb => hb.1)
         have HD4 : Hid (w4.heap[w2.heap.size]? = some (.cells #[.int .i64 v.kind, .string S, .slice kp' v.keys.length kc', .slice ip' v.items.length ic'] 25 (0, 0))) := Lib.hid (by
           have hlt := (Array.getElem?_eq_some_iff.1 HHY.out).1
           have h1 := HV1.out.size
           have h2 := HSZ2.out
           rw [hsp.fr.block w2.heap.size (Nat.lt_of_lt_of_le hlt hb3.size) (fun h => by omega), hb3.block w2.heap.size hlt]
           exact HHY.out)
         have HKP4 : Hid (KP w4 (V1.heap.size ≤ ·) v kp' kc' ip' ic') := Lib.hid ((HKP2.out.on hb3).fr hsp.fr fun b hb h => by have h1 := HV1.out.size; omega)
         clear c0 c1 c2 c3 d0 d1 d2 d3 h17 hsp
         have h15 := parse_is (HT.out w4 b4) (by have := HSZ.out; omega) HP.out HS.out)
      | (with_reducible (show Calls _ _ _ w4 _); go_at_call 15; refine h15.mono ?_; rintro e w5 ⟨kp5, kc5, ip5, ic5, rfl, hkp5, _, hb5⟩
         obtain ⟨V5, hV5⟩ : ∃ V, w5.alloc (.cells #[.int .i64 v.kind, .string S, .slice kp5 v.keys.length kc5, .slice ip5 v.items.length ic5] 25) = V := ⟨_, rfl⟩
         have hv5 := alloc_b hV5
         have b45 := Below.on hb5 hv5
         have b5 := Below.on b4 b45
         have HB5 := Lib.hid (box_of hV5)
         obtain ⟨f0, f1, f2, f3⟩ := HB5.out V5 (Below.refl _ _)
         obtain ⟨d0, d1, d2, d3⟩ := cells4 ((b45.block _ (Array.getElem?_eq_some_iff.1 HD4.out).1).trans HD4.out)
         have h14 := equal_is (hkp5.ki.stay hv5) (HKP4.out.on b45).ki HS.out HS.out V5 (Below.refl _ _)
         rw [HEQ.out] at h14
         clear hkp5 h15)
      | (go_at_call 14; refine h14.mono ?_; rintro e w6 ⟨rfl, hb6⟩; have b6 := Below.on b5 hb6; have h8 := works_any w6 (HT.out w6 b6))
      | (go_at_call 8; refine h8.mono ?_; rintro e w7 ⟨rfl, hb7⟩))
    go_ret
    exact ⟨rfl, Below.on b6 hb7⟩
end Go.Proofs.Jt
