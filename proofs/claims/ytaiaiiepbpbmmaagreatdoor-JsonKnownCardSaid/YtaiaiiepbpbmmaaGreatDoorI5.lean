/- JsonLooks: the walk. Printed by gen_i5.py. -/
import Derived.Test.YtaiaiiepbpbmmaaGreatDoorI4
namespace Go.Proofs.Jt
open Go.RowKit Go.Maps Go.Lib Go.Proofs.Utf Go.Proofs

theorem fieldA_is {w : World} {x : JV} {S K F : ByteArray} {f : JV} {b : Bool} {kp ip : Option Addr} {kc ic : Nat} (h : KI w x kp kc ip ic) (hwt : x.wt ≤ 1000000) (hS : (⟨x.str.toArray⟩ : ByteArray) = S) (hf : (fieldV x K.data.toList).getD (jn 0) = f) (hb : (fieldV x K.data.toList).isSome = b) (hF : (⟨f.str.toArray⟩ : ByteArray) = F) : ∀ w', Below w.heap.size w w' →
    Calls Tryz.prog 27 #[.agg #[.int .i64 x.kind, .string S, .slice kp x.keys.length kc, .slice ip x.items.length ic], .string K] w' fun e w'' => ∃ fp fc gp gc, e = .returned (.tuple #[.agg #[.int .i64 f.kind, .string F, .slice fp f.keys.length fc, .slice gp f.items.length gc], .bool b]) ∧ KP w'' (w'.heap.size ≤ ·) f fp fc gp gc ∧ f.str.length ≤ maxLen ∧ Below w'.heap.size w' w'' := fun w' hbw => by
  have h1 := field_any h hwt K w' hbw
  unfold jval at h1
  rw [hS] at h1
  refine h1.mono ?_
  rintro e w'' ⟨fp, fc, gp, gc, h2, h3, h4, h5⟩
  rw [hf] at h2 h3 h4
  rw [hb] at h2
  exact ⟨fp, fc, gp, gc, by rw [h2, ← hF]; rfl, h3, h4, h5⟩
theorem rfieldA_is {w : World} {x : JV} {S K F : ByteArray} {f : JV} {b : Bool} {kp ip : Option Addr} {kc ic : Nat} (h : KI w x kp kc ip ic) (hS : (⟨x.str.toArray⟩ : ByteArray) = S) (hf : (fieldV x K.data.toList).getD (jn 0) = f) (hb : (fieldV x K.data.toList).isSome = b) (hF : (⟨f.str.toArray⟩ : ByteArray) = F) : ∀ w', Below w.heap.size w w' →
    Calls Tryz.prog 28 #[.agg #[.int .i64 x.kind, .string S, .slice kp x.keys.length kc, .slice ip x.items.length ic], .string K] w' fun e w'' => ∃ fp fc gp gc, e = .returned (.tuple #[.agg #[.int .i64 f.kind, .string F, .slice fp f.keys.length fc, .slice gp f.items.length gc], .bool b]) ∧ KI w'' f fp fc gp gc ∧ f.str.length ≤ maxLen ∧ Below w'.heap.size w' w'' := fun w' hbw => by
  have h1 := rfield_any h K w' hbw
  unfold jval at h1
  rw [hS] at h1
  refine h1.mono ?_
  rintro e w'' ⟨fp, fc, gp, gc, h2, h3, h4, h5⟩
  rw [hf] at h2 h3 h4
  rw [hb] at h2
  exact ⟨fp, fc, gp, gc, by rw [h2, ← hF]; rfl, h3, h4, h5⟩
theorem same_is {w : World} {x y : JV} {S T : ByteArray} {kp ip kp2 ip2 : Option Addr} {kc ic kc2 ic2 : Nat} (hT : Tabs w) (h : KI w x kp kc ip ic) (h' : KI w y kp2 kc2 ip2 ic2) (hwx : x.wt ≤ 1000000) (hwy : y.wt ≤ 1000000) (hS : (⟨x.str.toArray⟩ : ByteArray) = S) (hS2 : (⟨y.str.toArray⟩ : ByteArray) = T) : ∀ w', Below w.heap.size w w' →
    Calls Tryz.prog 31 #[.agg #[.int .i64 x.kind, .string S, .slice kp x.keys.length kc, .slice ip x.items.length ic], .agg #[.int .i64 y.kind, .string T, .slice kp2 y.keys.length kc2, .slice ip2 y.items.length ic2]] w' fun e w'' => e = .returned (.bool (sameB x y)) ∧ Below w'.heap.size w' w'' := fun w' hb => by
  have h1 := Same_any hT h h' hwx hwy w' hb
  unfold jval at h1
  rw [hS, hS2] at h1
  exact h1
theorem rsame_is {w : World} {x y : JV} {S T : ByteArray} {kp ip kp2 ip2 : Option Addr} {kc ic kc2 ic2 : Nat} (h : KI w x kp kc ip ic) (h' : KI w y kp2 kc2 ip2 ic2) (hwx : x.wt ≤ 1000000) (hwy : y.wt ≤ 1000000) (hS : (⟨x.str.toArray⟩ : ByteArray) = S) (hS2 : (⟨y.str.toArray⟩ : ByteArray) = T) : ∀ w', Below w.heap.size w w' →
    Calls Tryz.prog 32 #[.agg #[.int .i64 x.kind, .string S, .slice kp x.keys.length kc, .slice ip x.items.length ic], .agg #[.int .i64 y.kind, .string T, .slice kp2 y.keys.length kc2, .slice ip2 y.items.length ic2]] w' fun e w'' => e = .returned (.bool (sameB x y)) ∧ Below w'.heap.size w' w'' := fun w' hb => by
  have h1 := rSame_any h h' hwx hwy w' hb
  unfold jval at h1
  rw [hS, hS2] at h1
  exact h1
theorem KP.lens {w : World} {P : Nat → Prop} {x : JV} {kp ip : Option Addr} {kc ic : Nat} (h : KP w P x kp kc ip ic) : x.keys.length ≤ maxLen ∧ x.items.length ≤ maxLen := by
  cases h with
  | mk _ _ _ _ _ fp fc gp gc hk hkP hz hi hiP hh => exact ⟨hz.2.1, hz.1⟩
theorem str_wt (x : JV) : x.str.length ≤ x.wt := by
  cases x
  rw [JV.wt]
  show _ ≤ _
  simp only [str_mk]
  omega
set_option maxRecDepth 100000 in
set_option maxHeartbeats 16000000 in
theorem looks_walk {w : World} {v1 v2 : Value} {x y : JV} (K : ByteArray) (hT : Tabs w) (hE : ErrV w) (h : JArg w v1 x) (h' : JArg w v2 y) : Calls Tryz.prog 4 #[v1, v2, .string K] w fun e w' => e = .returned (.bool true) ∧ Below w.heap.size w w' := by
  obtain ⟨kp, kc, ip, ic, rfl, hK, hsl⟩ := h
  obtain ⟨kp2, kc2, ip2, ic2, rfl, hK2, hsl2⟩ := h'
  obtain ⟨S, hS⟩ : ∃ S : ByteArray, (⟨x.str.toArray⟩ : ByteArray) = S := ⟨_, rfl⟩
  obtain ⟨T, hS2⟩ : ∃ S : ByteArray, (⟨y.str.toArray⟩ : ByteArray) = S := ⟨_, rfl⟩
  unfold jval
  rw [hS, hS2]
  obtain ⟨W1, hW1⟩ : ∃ W, w.alloc (.cells #[.int .i64 x.kind, .string S, .slice kp x.keys.length kc, .slice ip x.items.length ic] 25) = W := ⟨_, rfl⟩
  obtain ⟨W, hW⟩ : ∃ W, W1.alloc (.cells #[.int .i64 y.kind, .string T, .slice kp2 y.keys.length kc2, .slice ip2 y.items.length ic2] 25) = W := ⟨_, rfl⟩
  have bW1 := alloc_b hW1
  have bW2 := alloc_b hW
  have bW := Below.on bW1 bW2
  have hz1 : W1.heap.size = w.heap.size + 1 := by rw [← hW1]; simp
  have h0 : 0 < W.heap.size := by have := bW2.size; omega
  have hbx : ∀ V, Below W.heap.size W V → _ := fun V hV => box_of hW1 V (Below.on bW2 hV)
  have hby := box_of hW
  rw [hz1] at hby
  have HX := Lib.hid hbx
  have HY := Lib.hid hby
  have HK : Hid (∀ V, Below W.heap.size W V → KI V x kp kc ip ic) := Lib.hid fun V hV => hK.stay (Below.on bW hV)
  have HK2 : Hid (∀ V, Below W.heap.size W V → KI V y kp2 kc2 ip2 ic2) := Lib.hid fun V hV => hK2.stay (Below.on bW hV)
  have HT : Hid (∀ V, Below W.heap.size W V → Tabs V) := Lib.hid fun V hV => hT.below (Below.on bW hV)
  have HE : Hid (∀ V, Below W.heap.size W V → ErrV V) := Lib.hid fun V hV => hE.below (Below.on bW hV)
  have HS := Lib.hid hS
  have HS2 := Lib.hid hS2
  have HSL := Lib.hid hsl
  have HSL2 := Lib.hid hsl2
  have HBW := Lib.hid bW
  have hf1 := fun V (hV : Below W.heap.size W V) => few_is (HK.out V hV) hsl hS V (Below.refl _ _)
  have hf2 := fun V (hV : Below W.heap.size W V) => few_is (HK2.out V hV) hsl2 hS2 V (Below.refl _ _)
  have hw1 := @few_wt x
  have hw2 := @few_wt y
  subst hW1
  obtain ⟨c0, c1, c2, c3⟩ := hbx W (Below.refl _ _)
  obtain ⟨e0, e1, e2, e3⟩ := hby W (Below.refl _ _)
  clear hK hK2 hsl hsl2 hS hS2 bW bW1 bW2 hT hE hbx hby hz1
  cases hq1 : decide (0 < x.sz 1500) with
  | false =>
    rw [hq1] at hf1
    have hf := hf1 W (Below.refl _ _)
    clear hq1 hw1 hw2 hf1 hf2
    go_enter Tryz.func4, Tryz.ntmps4
    go_wp2_with (first
      | (go_at_call 25; refine hf.mono ?_; rintro e w1 ⟨rfl, hb1⟩; have hwk := works_any w1 (HT.out w1 hb1))
      | (go_at_call 26; refine hwk.mono ?_; rintro e w2 ⟨rfl, hb2⟩))
    go_ret
    exact ⟨rfl, Below.on HBW.out (Below.on hb1 hb2)⟩
  | true =>
    rw [hq1] at hf1
    have hwx := hw1 (of_decide_eq_true hq1)
    have hf := hf1 W (Below.refl _ _)
    cases hq2 : decide (0 < y.sz 1500) with
    | false =>
      rw [hq2] at hf2
      clear hq1 hq2 hw1 hw2 hf1 hwx
      go_enter Tryz.func4, Tryz.ntmps4
      go_wp2_with (first
        | (with_reducible (show Calls _ _ _ W _); go_at_call 25; refine hf.mono ?_; rintro e w1 ⟨rfl, hb1⟩; clear e0 e1 e2 e3; obtain ⟨e0, e1, e2, e3⟩ := HY.out w1 hb1; have hg := hf2 w1 hb1)
        | (go_at_call 25; refine hg.mono ?_; rintro e w2 ⟨rfl, hb2⟩; have b2 := Below.on hb1 hb2; have hwk := works_any w2 (HT.out w2 b2))
        | (go_at_call 26; refine hwk.mono ?_; rintro e w3 ⟨rfl, hb3⟩))
      go_ret
      exact ⟨rfl, Below.on HBW.out (Below.on b2 hb3)⟩
    | true =>
      rw [hq2] at hf2
      have hwy := hw2 (of_decide_eq_true hq2)
      by_cases hbig : (K.size : Int) > 1500
      · clear hq1 hq2 hw1 hw2 hf1 hwx hwy
        go_enter Tryz.func4, Tryz.ntmps4
        go_wp2_with (first
          | (with_reducible (show Calls _ _ _ W _); go_at_call 25; refine hf.mono ?_; rintro e w1 ⟨rfl, hb1⟩; clear e0 e1 e2 e3; obtain ⟨e0, e1, e2, e3⟩ := HY.out w1 hb1; have hg := hf2 w1 hb1)
          | (go_at_call 25; refine hg.mono ?_; rintro e w2 ⟨rfl, hb2⟩; have b2 := Below.on hb1 hb2; have hwk := works_any w2 (HT.out w2 b2))
          | (go_at_call 26; refine hwk.mono ?_; rintro e w3 ⟨rfl, hb3⟩))
        go_ret
        exact ⟨rfl, Below.on HBW.out (Below.on b2 hb3)⟩
      · have hwx' : x.wt ≤ 100000 := by omega
        have hwy' : y.wt ≤ 100000 := by omega
        have hSs : S.size ≤ 16777216 := by have := str_wt x; rw [← HS.out, arr_size]; omega
        have HWX := Lib.hid (show x.wt ≤ 1000000 by omega)
        have HWY := Lib.hid (show y.wt ≤ 1000000 by omega)
        have HSS := Lib.hid hSs
        obtain ⟨f, hfv⟩ : ∃ f, (fieldV x K.data.toList).getD (jn 0) = f := ⟨_, rfl⟩
        obtain ⟨fb, hfb⟩ : ∃ b, (fieldV x K.data.toList).isSome = b := ⟨_, rfl⟩
        obtain ⟨F, hF⟩ : ∃ F : ByteArray, (⟨f.str.toArray⟩ : ByteArray) = F := ⟨_, rfl⟩
        obtain ⟨o, ho⟩ : ∃ o, (if x.kind = 3 then intL S.data.toList else none) = o := ⟨_, rfl⟩
        obtain ⟨E, hE⟩ : ∃ E, sameB x y = E := ⟨_, rfl⟩
        have HFV := Lib.hid hfv
        have HFB := Lib.hid hfb
        have HF := Lib.hid hF
        have HO := Lib.hid ho
        have HEE := Lib.hid hE
        have HEQF := Lib.hid (eqV_refl f)
        have HEQX := Lib.hid (eqV_refl x)
        have HEQY := Lib.hid (eqV_refl y)
        clear hq1 hq2 hw1 hw2 hf1 hwx hwy hwx' hwy' hSs hfv hfb hF ho hE
        go_enter Tryz.func4, Tryz.ntmps4
        go_upto_region 3 with (first
          | (with_reducible (show Calls _ _ _ W _); go_at_call 25; refine hf.mono ?_; rintro e w1 ⟨rfl, hb1⟩; clear e0 e1 e2 e3; obtain ⟨e0, e1, e2, e3⟩ := HY.out w1 hb1; have hg := hf2 w1 hb1)
          | (go_at_call 25; refine hg.mono ?_; rintro e w2 ⟨rfl, hb2⟩; have b2 := Below.on hb1 hb2))
        refine Code.wp_mono ?_ (looks_r3 w2 x y S T w.heap.size (w.heap.size + 1) _ _ _ kp kc ip ic kp2 kc2 ip2 ic2 _ _ _ _ _ _ _ _ _ _ _ _ _ _ _ _ _ _ _ _ _ _ _ _ _ _ _ _ _ _ _ _ _ _ _ _ _ _ _ _ _ _ _ _ _ _ _ _ _ _ _ _ _ _ _ _ _ _ _ _ _ _ _ _ _ _ _ _ _ _ _ _ _ _ _ _ _ _ _ _ _ _ _ _ _ _ (Lib.hid fun V hV => HX.out V (Below.on b2 hV)) (Lib.hid fun V hV => HY.out V (Below.on b2 hV)) (fun V hV => copy_is (HK.out V (Below.on b2 hV)) HWX.out HSL.out HS.out V (Below.refl _ _)) (fun V hV => copy_is (HK2.out V (Below.on b2 hV)) HWY.out HSL2.out HS2.out V (Below.refl _ _)) (Nat.lt_of_lt_of_le h0 b2.size))
        intro e a' w3 h
        cases e with
        | normal =>
          obtain ⟨z7, z8, k1, c1, i1, d1, k2, c2, i2, d2, hb3, h7, h8, q1, q2, rfl⟩ := h
          have b3 := Below.on b2 hb3
          have l7 := (Array.getElem?_eq_some_iff.1 h7).1
          have l8 := (Array.getElem?_eq_some_iff.1 h8).1
          have H7 : Hid (∀ V : World, (∀ b, b < w3.heap.size → V.heap[b]? = w3.heap[b]?) → V.cell? ⟨z7, 0, none⟩ = some (.int .i64 x.kind) ∧ V.cell? ⟨z7, 1, none⟩ = some (.string S) ∧ V.cell? ⟨z7, 2, none⟩ = some (.slice k1 x.keys.length c1) ∧ V.cell? ⟨z7, 3, none⟩ = some (.slice i1 x.items.length d1)) := Lib.hid fun V hV => cells4 ((hV z7 l7).trans h7)
          have H8 : Hid (∀ V : World, (∀ b, b < w3.heap.size → V.heap[b]? = w3.heap[b]?) → V.cell? ⟨z8, 0, none⟩ = some (.int .i64 y.kind) ∧ V.cell? ⟨z8, 1, none⟩ = some (.string T) ∧ V.cell? ⟨z8, 2, none⟩ = some (.slice k2 y.keys.length c2) ∧ V.cell? ⟨z8, 3, none⟩ = some (.slice i2 y.items.length d2)) := Lib.hid fun V hV => cells4 ((hV z8 l8).trans h8)
          have Q1 : Hid (∀ V, Below w3.heap.size w3 V → KI V x k1 c1 i1 d1) := Lib.hid fun V hV => q1.stay hV
          have Q2 : Hid (∀ V, Below w3.heap.size w3 V → KI V y k2 c2 i2 d2) := Lib.hid fun V hV => q2.stay hV
          have HB3 := Lib.hid b3
          clear h7 h8 q1 q2 hb3 e0 e1 e2 e3
          obtain ⟨m0, m1, m2, m3⟩ := H7.out w3 (fun _ _ => rfl)
          have h27 := fieldA_is (K := K) (Q1.out w3 (Below.refl _ _)) HWX.out HS.out HFV.out HFB.out HF.out w3 (Below.refl _ _)
          dsimp only
          go_upto_region 8 with (first
            | (go_at_call 27; refine h27.mono ?_; rintro e w4 ⟨fp, fc, gp, gc, rfl, hkf, hfl, hb4⟩
               obtain ⟨V4, hV4⟩ : ∃ V, w4.alloc (.cells #[.int .i64 f.kind, .string F, .slice fp f.keys.length fc, .slice gp f.items.length gc] 25) = V := ⟨_, rfl⟩
               have hv4 := alloc_b hV4
               have b4 := Below.on hb4 hv4
               have H9 := Lib.hid (box_of hV4)
               have HKF : Hid (KP w4 (fun b => w3.heap.size ≤ b ∧ b < w4.heap.size) f fp fc gp gc) := Lib.hid (hkf.keep (Nat.le_refl _) (fun _ _ _ => rfl) (fun b hb hl => ⟨hb, hl⟩))
               have HLN := Lib.hid hkf.lens
               have HV4 := Lib.hid hv4
               clear hkf hfl m0 m1 m2 m3
               obtain ⟨m0, m1, m2, m3⟩ := HX.out V4 (Below.on HB3.out b4)
               have h28 := rfieldA_is (K := K) (HK.out V4 (Below.on HB3.out b4)) HS.out HFV.out HFB.out HF.out V4 (Below.refl _ _))
            | (go_at_call 28; refine h28.mono ?_; rintro e w5 ⟨fp2, fc2, gp2, gc2, rfl, hkg, hgl, hb5⟩
               obtain ⟨V5, hV5⟩ : ∃ V, w5.alloc (.cells #[.int .i64 f.kind, .string F, .slice fp2 f.keys.length fc2, .slice gp2 f.items.length gc2] 25) = V := ⟨_, rfl⟩
               have hv5 := alloc_b hV5
               have b45 := Below.on hb5 hv5
               have b5 := Below.on b4 b45
               have H11 := Lib.hid (box_of hV5)
               have HKG : Hid (∀ V, Below V5.heap.size V5 V → KI V f fp2 fc2 gp2 gc2) := Lib.hid fun V hV => hkg.stay (Below.on hv5 hV)
               clear hkg hgl m0 m1 m2 m3
               obtain ⟨m0, m1, m2, m3⟩ := H7.out V5 (fun b hb => b5.block b hb)
               have h29 := int_any (kp := k1) (ip := i1) (kn := x.keys.length) (kc := c1) (n := x.items.length) (ic := d1) x.kind S (HE.out V5 (Below.on HB3.out b5)) HSS.out o HO.out)
            | (go_at_call 29; refine h29.mono ?_; rintro e w6 ⟨rfl, hb6⟩
               have b56 := hb6
               have b6 := Below.on b5 hb6
               clear m0 m1 m2 m3
               obtain ⟨m0, m1, m2, m3⟩ := HX.out w6 (Below.on HB3.out b6)
               have h30 := rint_any (w := w6) (kp := kp) (ip := ip) (kn := x.keys.length) (kc := kc) (n := x.items.length) (ic := ic) x.kind S HSS.out o HO.out)
            | (go_at_call 30; refine h30.mono ?_; rintro e w7 ⟨rfl, hb7⟩
               have b57 := Below.on b56 hb7
               have b7 := Below.on b6 hb7))
          clear m0 m1 m2 m3 h27 h28 h29 h30
          obtain ⟨iN, hiN⟩ : ∃ n : Int, o.getD 0 = n := ⟨_, rfl⟩
          obtain ⟨iB, hiB⟩ : ∃ b : Bool, o.isSome = b := ⟨_, rfl⟩
          rw [hiN, hiB]
          have n1 : (iN == iN) = true := by simp
          have n2 : (iN != iN) = false := by simp
          have n3 : (iB == iB) = true := by simp
          have n4 : (iB != iB) = false := by simp
          have n5 : (fb == fb) = true := by simp
          have n6 : (fb != fb) = false := by simp
          have n7 : (E == E) = true := by simp
          have n8 : (E != E) = false := by simp
          have HS8 : Hid (∀ V, Below w7.heap.size w7 V → (V.cell? ⟨w4.heap.size, 0, none⟩ = some (.int .i64 f.kind) ∧ V.cell? ⟨w4.heap.size, 1, none⟩ = some (.string F) ∧ V.cell? ⟨w4.heap.size, 2, none⟩ = some (.slice fp f.keys.length fc) ∧ V.cell? ⟨w4.heap.size, 3, none⟩ = some (.slice gp f.items.length gc) ∧ V.cell? ⟨w5.heap.size, 0, none⟩ = some (.int .i64 f.kind) ∧ V.cell? ⟨w5.heap.size, 1, none⟩ = some (.string F) ∧ V.cell? ⟨w5.heap.size, 2, none⟩ = some (.slice fp2 f.keys.length fc2) ∧ V.cell? ⟨w5.heap.size, 3, none⟩ = some (.slice gp2 f.items.length gc2) ∧ V.cell? ⟨z7, 0, none⟩ = some (.int .i64 x.kind) ∧ V.cell? ⟨z7, 1, none⟩ = some (.string S) ∧ V.cell? ⟨z7, 2, none⟩ = some (.slice k1 x.keys.length c1) ∧ V.cell? ⟨z7, 3, none⟩ = some (.slice i1 x.items.length d1) ∧ V.cell? ⟨z8, 0, none⟩ = some (.int .i64 y.kind) ∧ V.cell? ⟨z8, 1, none⟩ = some (.string T) ∧ V.cell? ⟨z8, 2, none⟩ = some (.slice k2 y.keys.length c2) ∧ V.cell? ⟨z8, 3, none⟩ = some (.slice i2 y.items.length d2) ∧ V.cell? ⟨w.heap.size, 0, none⟩ = some (.int .i64 x.kind) ∧ V.cell? ⟨w.heap.size, 1, none⟩ = some (.string S) ∧ V.cell? ⟨w.heap.size, 2, none⟩ = some (.slice kp x.keys.length kc) ∧ V.cell? ⟨w.heap.size, 3, none⟩ = some (.slice ip x.items.length ic) ∧ V.cell? ⟨w.heap.size + 1, 0, none⟩ = some (.int .i64 y.kind) ∧ V.cell? ⟨w.heap.size + 1, 1, none⟩ = some (.string T) ∧ V.cell? ⟨w.heap.size + 1, 2, none⟩ = some (.slice kp2 y.keys.length kc2) ∧ V.cell? ⟨w.heap.size + 1, 3, none⟩ = some (.slice ip2 y.items.length ic2))) := Lib.hid fun V hV => by
            have hV5 := Below.on b57 hV
            have hV3 := Below.on b7 hV
            obtain ⟨a0, a1, a2, a3⟩ := H9.out V (Below.on b45 hV5)
            obtain ⟨g0, g1, g2, g3⟩ := H11.out V hV5
            obtain ⟨p0, p1, p2, p3⟩ := H7.out V (fun b hb => hV3.block b hb)
            obtain ⟨r0, r1, r2, r3⟩ := H8.out V (fun b hb => hV3.block b hb)
            obtain ⟨s0, s1, s2, s3⟩ := HX.out V (Below.on HB3.out hV3)
            obtain ⟨t0, t1, t2, t3⟩ := HY.out V (Below.on HB3.out hV3)
            exact ⟨a0, a1, a2, a3, g0, g1, g2, g3, p0, p1, p2, p3, r0, r1, r2, r3, s0, s1, s2, s3, t0, t1, t2, t3⟩
          have HF7 : Hid (∀ V, Below w7.heap.size w7 V → KI V f fp fc gp gc) := Lib.hid fun V hV => HKF.out.ki.stay (Below.on HV4.out (Below.on b45 (Below.on b57 hV)))
          have HD := HS8.out _ (Below.refl _ _).drew
          have hb0 : Below w7.heap.size w7 w7.drew := (Below.refl _ _).drew
          clear hiN hiB
          have h24 : ∀ V, Below w7.heap.size w7 V → Calls Tryz.prog 24 #[.agg #[.int .i64 f.kind, .string F, .slice fp f.keys.length fc, .slice gp f.items.length gc], .agg #[.int .i64 f.kind, .string F, .slice fp2 f.keys.length fc2, .slice gp2 f.items.length gc2]] V fun e w'' => e = .returned (.bool true) ∧ Below V.heap.size V w'' := fun V hV => by
            have := equal_is (HF7.out V hV) (HKG.out V (Below.on b57 hV)) HF.out HF.out V (Below.refl _ _)
            rw [HEQF.out] at this
            exact this
          have h31 : ∀ V, Below w7.heap.size w7 V → Calls Tryz.prog 31 #[.agg #[.int .i64 x.kind, .string S, .slice k1 x.keys.length c1, .slice i1 x.items.length d1], .agg #[.int .i64 y.kind, .string T, .slice k2 y.keys.length c2, .slice i2 y.items.length d2]] V fun e w'' => e = .returned (.bool E) ∧ Below V.heap.size V w'' := fun V hV => by
            have := same_is (HT.out V (Below.on HB3.out (Below.on b7 hV))) (Q1.out V (Below.on b7 hV)) (Q2.out V (Below.on b7 hV)) HWX.out HWY.out HS.out HS2.out V (Below.refl _ _)
            rw [HEE.out] at this
            exact this
          have h32 : ∀ V, Below w7.heap.size w7 V → Calls Tryz.prog 32 #[.agg #[.int .i64 x.kind, .string S, .slice kp x.keys.length kc, .slice ip x.items.length ic], .agg #[.int .i64 y.kind, .string T, .slice kp2 y.keys.length kc2, .slice ip2 y.items.length ic2]] V fun e w'' => e = .returned (.bool E) ∧ Below V.heap.size V w'' := fun V hV => by
            have := rsame_is (HK.out V (Below.on HB3.out (Below.on b7 hV))) (HK2.out V (Below.on HB3.out (Below.on b7 hV))) HWX.out HWY.out HS.out HS2.out V (Below.refl _ _)
            rw [HEE.out] at this
            exact this
          go_region_held3 (fun v => v.cell? ⟨w4.heap.size, 0, none⟩ = some (.int .i64 f.kind) ∧ v.cell? ⟨w4.heap.size, 1, none⟩ = some (.string F) ∧ v.cell? ⟨w4.heap.size, 2, none⟩ = some (.slice fp f.keys.length fc) ∧ v.cell? ⟨w4.heap.size, 3, none⟩ = some (.slice gp f.items.length gc) ∧ v.cell? ⟨w5.heap.size, 0, none⟩ = some (.int .i64 f.kind) ∧ v.cell? ⟨w5.heap.size, 1, none⟩ = some (.string F) ∧ v.cell? ⟨w5.heap.size, 2, none⟩ = some (.slice fp2 f.keys.length fc2) ∧ v.cell? ⟨w5.heap.size, 3, none⟩ = some (.slice gp2 f.items.length gc2) ∧ v.cell? ⟨z7, 0, none⟩ = some (.int .i64 x.kind) ∧ v.cell? ⟨z7, 1, none⟩ = some (.string S) ∧ v.cell? ⟨z7, 2, none⟩ = some (.slice k1 x.keys.length c1) ∧ v.cell? ⟨z7, 3, none⟩ = some (.slice i1 x.items.length d1) ∧ v.cell? ⟨z8, 0, none⟩ = some (.int .i64 y.kind) ∧ v.cell? ⟨z8, 1, none⟩ = some (.string T) ∧ v.cell? ⟨z8, 2, none⟩ = some (.slice k2 y.keys.length c2) ∧ v.cell? ⟨z8, 3, none⟩ = some (.slice i2 y.items.length d2) ∧ v.cell? ⟨w.heap.size, 0, none⟩ = some (.int .i64 x.kind) ∧ v.cell? ⟨w.heap.size, 1, none⟩ = some (.string S) ∧ v.cell? ⟨w.heap.size, 2, none⟩ = some (.slice kp x.keys.length kc) ∧ v.cell? ⟨w.heap.size, 3, none⟩ = some (.slice ip x.items.length ic) ∧ v.cell? ⟨w.heap.size + 1, 0, none⟩ = some (.int .i64 y.kind) ∧ v.cell? ⟨w.heap.size + 1, 1, none⟩ = some (.string T) ∧ v.cell? ⟨w.heap.size + 1, 2, none⟩ = some (.slice kp2 y.keys.length kc2) ∧ v.cell? ⟨w.heap.size + 1, 3, none⟩ = some (.slice ip2 y.items.length ic2)) (first | exact HS8.out _ (by assumption)) (first
            | (go_at_call 24; refine (h24 _ (by assumption)).mono ?_; rintro e w8 ⟨rfl, hb8⟩; have b8 := Below.on hb0 hb8)
            | (go_at_call 31; refine (h31 _ (by assumption)).mono ?_; rintro e w9 ⟨rfl, hb9⟩; have b9 := Below.on b8 hb9)
            | (go_at_call 32; refine (h32 _ (by assumption)).mono ?_; rintro e w10 ⟨rfl, hb10⟩; have b10 := Below.on b9 hb10))
          have b310 := Below.on b7 b10
          obtain ⟨a0, a1, a2, a3, _, _, _, _, _, _, _, _, _, _, _, _, _, _, _, _, _, _, _, _⟩ := HS8.out w10 b10
          have bW10 : Below w4.heap.size w4 w10 := Below.on HV4.out (Below.on b45 (Below.on b57 b10))
          have h33 := spoil_any (P := fun b => w3.heap.size ≤ b ∧ b < w4.heap.size) (N := w4.heap.size) (fun b h => h.2) f.wt w10 f.kind F fp f.keys.length fc gp f.items.length gc bW10.size ((HKF.out.on bW10).sh f.wt (Nat.le_refl _)) HLN.out.1 HLN.out.2
          clear h24 h31 h32 HD hb0 n1 n2 n3 n4 n5 n6 n7 n8
          go_wp2_with (first
            | (go_at_call 33; refine h33.mono ?_; rintro e w11 ⟨rfl, hs11⟩
               have b11 : Below w3.heap.size w3 w11 := below_fr b310 (Nat.le_refl _) hs11.fr (fun k hk => hk.1)
               clear a0 a1 a2 a3
               obtain ⟨p0, p1, p2, p3⟩ := H7.out w11 (fun b hb => b11.block b hb)
               obtain ⟨s0, s1, s2, s3⟩ := HX.out w11 (Below.on HB3.out b11)
               have h1 := equal_is (Q1.out w11 b11) (HK.out w11 (Below.on HB3.out b11)) HS.out HS.out w11 (Below.refl _ _)
               rw [HEQX.out] at h1)
            | (with_reducible (show Calls _ _ _ w11 _); go_at_call 24; refine h1.mono ?_; rintro e w12 ⟨rfl, hb12⟩
               have b12 := Below.on b11 hb12
               clear p0 p1 p2 p3 s0 s1 s2 s3
               obtain ⟨r0, r1, r2, r3⟩ := H8.out w12 (fun b hb => b12.block b hb)
               obtain ⟨t0, t1, t2, t3⟩ := HY.out w12 (Below.on HB3.out b12)
               have h2 := equal_is (Q2.out w12 b12) (HK2.out w12 (Below.on HB3.out b12)) HS2.out HS2.out w12 (Below.refl _ _)
               rw [HEQY.out] at h2)
            | (go_at_call 24; refine h2.mono ?_; rintro e w13 ⟨rfl, hb13⟩; have b13 := Below.on b12 hb13; have h3 := works_any w13 (HT.out w13 (Below.on HB3.out b13)))
            | (go_at_call 26; refine h3.mono ?_; rintro e w14 ⟨rfl, hb14⟩))
          go_ret
          exact ⟨rfl, Below.on HBW.out (Below.on HB3.out (Below.on b13 hb14))⟩
        | exit _ => exact h.elim
        | goto _ => exact h.elim
        | ret => exact h.elim
        | panic _ => exact h.elim
        | outgrown => exact h.elim
end Go.Proofs.Jt
