/- JsonBack, JsonSays: the walks. -/
import Derived.Test.YtphiceebhncflaaDoorVF
namespace Go.Proofs.Jt
open Go.RowKit Go.Maps Go.Lib Go.Proofs.Utf Go.Proofs

theorem few_is {w : World} {x : JV} {S : ByteArray} {kp ip : Option Addr} {kc ic : Nat} (h : KI w x kp kc ip ic) (hsl : x.str.length ≤ maxLen) (hS : (⟨x.str.toArray⟩ : ByteArray) = S) : ∀ w', Below w.heap.size w w' →
    Calls Tryd.prog 25 #[.agg #[.int .i64 x.kind, .string S, .slice kp x.keys.length kc, .slice ip x.items.length ic]] w' fun e w'' => e = .returned (.bool (decide (0 < x.sz 1500))) ∧ Below w'.heap.size w' w'' := fun w' hb => by
  have h1 := few_any (v := jval x kp kc ip ic) ⟨kp, kc, ip, ic, rfl, h.stay hb, hsl⟩
  unfold jval at h1
  rw [hS] at h1
  exact h1
theorem check_is {w : World} {x : JV} {S : ByteArray} {kp ip : Option Addr} {kc ic : Nat} (hT : Tabs w) (h : KI w x kp kc ip ic) (hwt : x.wt ≤ 1000000) (hS : (⟨x.str.toArray⟩ : ByteArray) = S) : ∀ w', Below w.heap.size w w' →
    Calls Tryd.prog 23 #[.agg #[.int .i64 x.kind, .string S, .slice kp x.keys.length kc, .slice ip x.items.length ic]] w' fun e w'' => e = .returned (.int .i64 (x.chk : Nat)) ∧ Below w'.heap.size w' w'' := fun w' hb => by
  have h1 := check_any hT h hwt w' hb
  unfold jval at h1
  rw [hS] at h1
  exact h1
theorem equal_is {w : World} {x y : JV} {S Y : ByteArray} {kp ip kp' ip' : Option Addr} {kc ic kc' ic' : Nat} (h : KI w x kp kc ip ic) (h' : KI w y kp' kc' ip' ic') (hS : (⟨x.str.toArray⟩ : ByteArray) = S) (hY : (⟨y.str.toArray⟩ : ByteArray) = Y) : ∀ w', Below w.heap.size w w' →
    Calls Tryd.prog 24 #[.agg #[.int .i64 x.kind, .string S, .slice kp x.keys.length kc, .slice ip x.items.length ic], .agg #[.int .i64 y.kind, .string Y, .slice kp' y.keys.length kc', .slice ip' y.items.length ic']] w' fun e w'' => e = .returned (.bool (eqV x y)) ∧ Below w'.heap.size w' w'' := fun w' hb => by
  have h1 := equal_any h y _ _ _ _ h' w' hb
  unfold jval at h1
  rw [hS, hY] at h1
  exact h1
theorem same_is {w : World} {x y : JV} {S Y : ByteArray} {kp ip kp' ip' : Option Addr} {kc ic kc' ic' : Nat} (hT : Tabs w) (h : KI w x kp kc ip ic) (h' : KI w y kp' kc' ip' ic') (hwx : x.wt ≤ 1000000) (hwy : y.wt ≤ 1000000) (hS : (⟨x.str.toArray⟩ : ByteArray) = S) (hY : (⟨y.str.toArray⟩ : ByteArray) = Y) : ∀ w', Below w.heap.size w w' →
    Calls Tryd.prog 26 #[.agg #[.int .i64 x.kind, .string S, .slice kp x.keys.length kc, .slice ip x.items.length ic], .agg #[.int .i64 y.kind, .string Y, .slice kp' y.keys.length kc', .slice ip' y.items.length ic']] w' fun e w'' => e = .returned (.bool (sameB x y)) ∧ Below w'.heap.size w' w'' := fun w' hb => by
  have h1 := Same_any hT h h' hwx hwy w' hb
  unfold jval at h1
  rw [hS, hY] at h1
  exact h1
theorem sameB_refl {x : JV} (h : x.chk = 0) : sameB x x = true := by
  unfold sameB
  rw [h, sameV_refl _ x (Nat.le_refl _) (chk_zero h).2]
  rfl
theorem eqV_refl (x : JV) : eqV x x = true := (eqV_iff x x).2 rfl
theorem KI.up {w w' : World} {x : JV} {kp ip : Option Addr} {kc ic : Nat} (h : KI w x kp kc ip ic) (hb : Below w.heap.size w w') : KI w' x kp kc ip ic := h.stay hb
set_option maxRecDepth 100000 in
set_option maxHeartbeats 4000000 in
theorem back_walk {w : World} {v : Value} {x : JV} (hT : Tabs w) (h : JArg w v x) : Calls Tryd.prog 11 #[v] w fun e w' => e = .returned (.bool true) ∧ Below w.heap.size w w' := by
  obtain ⟨kp, kc, ip, ic, rfl, hK, hsl⟩ := h
  obtain ⟨S, hS⟩ : ∃ S : ByteArray, (⟨x.str.toArray⟩ : ByteArray) = S := ⟨_, rfl⟩
  unfold jval
  rw [hS]
  obtain ⟨W, hW⟩ : ∃ W, w.alloc (.cells #[.int .i64 x.kind, .string S, .slice kp x.keys.length kc, .slice ip x.items.length ic] 45) = W := ⟨_, rfl⟩
  have bW := alloc_b hW
  have HBX := Lib.hid (box_of hW)
  obtain ⟨c0, c1, c2, c3⟩ := HBX.out W (Below.refl _ _)
  have hf := few_is hK hsl hS W bW
  have HT : Hid (∀ V, Below W.heap.size W V → Tabs V) := Lib.hid fun V hV => hT.below (Below.on bW hV)
  have HK : Hid (∀ V, Below W.heap.size W V → KI V x kp kc ip ic) := Lib.hid fun V hV => hK.stay (Below.on bW hV)
  have HS := Lib.hid hS
  have HBW := Lib.hid bW
  have hfw := @few_wt x
  clear hK hsl hS bW hT
  cases hq : decide (0 < x.sz 1500) with
  | false =>
    rw [hq] at hf
    clear hq hfw
    go_enter Tryd.func11, Tryd.ntmps11
    go_wp2_with (first
      | (go_at_call 25; refine hf.mono ?_; rintro e w1 ⟨rfl, hb1⟩; have hwk := works_any w1 (HT.out w1 hb1))
      | (go_at_call 20; refine hwk.mono ?_; rintro e w2 ⟨rfl, hb2⟩))
    go_ret
    exact ⟨rfl, Below.on HBW.out (Below.on hb1 hb2)⟩
  | true =>
    rw [hq] at hf
    have hwt := hfw (of_decide_eq_true hq)
    have hwt6 : x.wt ≤ 1000000 := by omega
    have hput := fun V (hV : Below W.heap.size W V) => put_is (X := ⟨(putV x).1.toArray⟩) (n := (putV x).2) (HT.out V hV) (HK.out V hV) hwt6 HS.out rfl V (Below.refl _ _)
    have hchk := fun V (hV : Below W.heap.size W V) => check_is (HT.out V hV) (HK.out V hV) hwt6 HS.out V (Below.refl _ _)
    unfold putV at hput
    by_cases h0 : x.chk = 0
    · simp only [h0, if_true] at hput hchk
      obtain ⟨X, hX⟩ : ∃ X : ByteArray, (⟨x.text.toArray⟩ : ByteArray) = X := ⟨_, rfl⟩
      have hXl : X.data.toList = x.text := by rw [← hX]
      have hXs : X.size ≤ 16777216 := by rw [← hX, arr_size]; have := text_len x; omega
      rw [hX] at hput
      have hpar := fun V (hV : Below W.heap.size W V) => parse_is (s := X) (v := x) (n := 0) (HT.out V hV) hXs (by rw [hXl]; exact par_text x h0) HS.out
      have HPUT := Lib.hid hput
      have HCHK := Lib.hid hchk
      have HPAR := Lib.hid hpar
      have HEQ := Lib.hid (eqV_refl x)
      have HSM := Lib.hid (sameB_refl h0)
      have HWT := Lib.hid hwt6
      clear hq hfw hwt hput hchk hpar hX hXl hXs h0 hwt6
      go_enter Tryd.func11, Tryd.ntmps11
      go_wp2_with (first
        | (go_at_call 25; refine hf.mono ?_; rintro e w1 ⟨rfl, hb1⟩; obtain ⟨d0, d1, d2, d3⟩ := HBX.out w1 hb1; have h22 := HPUT.out w1 hb1)
        | (go_at_call 22; refine h22.mono ?_; rintro e w2 ⟨rfl, hb2⟩; have b2 := Below.on hb1 hb2; obtain ⟨e0, e1, e2, e3⟩ := HBX.out w2 b2; have h21 := HPAR.out w2 b2)
        | (go_at_call 21; refine h21.mono ?_; rintro e w3 ⟨kp', kc', ip', ic', rfl, hkp, _, hb3⟩
           obtain ⟨V3, hV3⟩ : ∃ V, w3.alloc (.cells #[.int .i64 x.kind, .string S, .slice kp' x.keys.length kc', .slice ip' x.items.length ic'] 45) = V := ⟨_, rfl⟩
           have hv3 := alloc_b hV3
           have b3 := Below.on b2 (Below.on hb3 hv3)
           have HB3 := Lib.hid (box_of hV3)
           obtain ⟨f0, f1, f2, f3⟩ := HBX.out V3 b3
           obtain ⟨g0, g1, g2, g3⟩ := HB3.out V3 (Below.refl _ _)
           have h24 := equal_is (HK.out V3 b3) (hkp.ki.stay hv3) HS.out HS.out V3 (Below.refl _ _)
           rw [HEQ.out] at h24
           have HKP := Lib.hid (hkp.ki.stay hv3)
           clear hkp)
        | (go_at_call 24; refine h24.mono ?_; rintro e w4 ⟨rfl, hb4⟩; have b4 := Below.on b3 hb4; obtain ⟨i0, i1, i2, i3⟩ := HBX.out w4 b4; have h23 := HCHK.out w4 b4)
        | (go_at_call 23; refine h23.mono ?_; rintro e w5 ⟨rfl, hb5⟩; have b5 := Below.on b4 hb5; have b35 := Below.on hb4 hb5; obtain ⟨j0, j1, j2, j3⟩ := HBX.out w5 b5; obtain ⟨k0, k1, k2, k3⟩ := HB3.out w5 b35
           have h26 := same_is (HT.out w5 b5) (HK.out w5 b5) (HKP.out.stay b35) HWT.out HWT.out HS.out HS.out w5 (Below.refl _ _)
           rw [HSM.out] at h26)
        | (go_at_call 26; refine h26.mono ?_; rintro e w6 ⟨rfl, hb6⟩; have b6 := Below.on b5 hb6; have h20 := works_any w6 (HT.out w6 b6))
        | (go_at_call 20; refine h20.mono ?_; rintro e w7 ⟨rfl, hb7⟩))
      go_ret
      exact ⟨rfl, Below.on HBW.out (Below.on b6 hb7)⟩
    · simp only [h0, if_false] at hput hchk
      obtain ⟨c, hc⟩ : ∃ c, x.chk = c := ⟨_, rfl⟩
      simp only [hc] at hput hchk h0
      have n1 : ((c : Int) != 0) = true := by simp; omega
      have n2 : ((c : Int) == 0) = false := beq_eq_false_iff_ne.2 (by omega)
      have n3 : ((c : Int) == (c : Int)) = true := by simp
      have HPUT := Lib.hid hput
      have HCHK := Lib.hid hchk
      clear hq hfw hwt hput hchk h0 hc hwt6
      go_enter Tryd.func11, Tryd.ntmps11
      go_wp2_with (first
        | (go_at_call 25; refine hf.mono ?_; rintro e w1 ⟨rfl, hb1⟩; obtain ⟨d0, d1, d2, d3⟩ := HBX.out w1 hb1; have h22 := HPUT.out w1 hb1)
        | (go_at_call 22; refine h22.mono ?_; rintro e w2 ⟨rfl, hb2⟩; have b2 := Below.on hb1 hb2; obtain ⟨e0, e1, e2, e3⟩ := HBX.out w2 b2; have h23 := HCHK.out w2 b2)
        | (go_at_call 23; refine h23.mono ?_; rintro e w3 ⟨rfl, hb3⟩; have b3 := Below.on b2 hb3; have h20 := works_any w3 (HT.out w3 b3))
        | (go_at_call 20; refine h20.mono ?_; rintro e w4 ⟨rfl, hb4⟩))
      go_ret
      exact ⟨rfl, Below.on HBW.out (Below.on b3 hb4)⟩
end Go.Proofs.Jt
