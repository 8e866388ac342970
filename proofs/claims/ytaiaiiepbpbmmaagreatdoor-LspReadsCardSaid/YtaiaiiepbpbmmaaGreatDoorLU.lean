/- the reference's Ask. Printed by gen_lu.py. -/
import Derived.Test.YtaiaiiepbpbmmaaGreatDoorLT
import Derived.Test.YtaiaiiepbpbmmaaGreatDoorKA
namespace Go.Proofs.Ls
open Go.RowKit Go.Maps Go.Lib Go.Proofs.Utf Go.Proofs.Jt Go.Proofs

theorem spanR_or (x : JV) (K : List UInt8) (b : Bool) : spanR x K b = ((spanR x K false).1, b || (spanR x K false).2) := by
  unfold spanR
  simp only [fldR_or x K 6 b]
  simp only [posR_or _ _ (b || _), posR_or _ _ (_ || (posR _ _ false).2), posR_or _ _ (fldR x K 6 false).2, Bool.or_assoc]
theorem ask_split {m : List UInt8} {x d u n : JV} {q : QV} {p : Int × Int} {r : (Int × Int) × (Int × Int)} {bad bd bu bn bp br : Bool} (hq : askR m x = (q, bad)) (hd : fldR x kDoc 6 false = (d, bd)) (hu : fldR d kUri 4 false = (u, bu)) (hn : fldR x kNew 4 false = (n, bn)) (hp : posR x kPos false = (p, bp)) (hr : spanR x kRange false = (r, br)) :
    (m = mRen ∧ q = ⟨2, u.str, p, p, n.str⟩ ∧ bad = (bd || bu || bn || bp)) ∨ (m = mPrep ∧ q = ⟨1, u.str, p, p, []⟩ ∧ bad = (bd || bu || bp)) ∨ (m = mAct ∧ q = ⟨3, u.str, r.1, r.2, []⟩ ∧ bad = (bd || bu || br)) ∨ (¬ m = mRen ∧ ¬ m = mPrep ∧ ¬ m = mAct ∧ bad = true) := by
  unfold askR at hq
  by_cases m1 : m = mRen
  · rw [if_pos m1] at hq
    simp only [hd, fldR_or d kUri 4 bd, hu, fldR_or x kNew 4 (bd || bu), hn, posR_or x kPos (bd || bu || bn), hp, Prod.mk.injEq] at hq
    exact .inl ⟨m1, hq.1.symm, hq.2.symm⟩
  rw [if_neg m1] at hq
  by_cases m2 : m = mPrep
  · rw [if_pos m2] at hq
    simp only [hd, fldR_or d kUri 4 bd, hu, posR_or x kPos (bd || bu), hp, Prod.mk.injEq] at hq
    exact .inr (.inl ⟨m2, hq.1.symm, hq.2.symm⟩)
  rw [if_neg m2] at hq
  by_cases m3 : m = mAct
  · rw [if_pos m3] at hq
    simp only [hd, fldR_or d kUri 4 bd, hu, spanR_or x kRange (bd || bu), hr, Prod.mk.injEq] at hq
    exact .inr (.inr (.inl ⟨m3, hq.1.symm, hq.2.symm⟩))
  rw [if_neg m3] at hq
  simp only [Prod.mk.injEq] at hq
  exact .inr (.inr (.inr ⟨m1, m2, m3, hq.2.symm⟩))
theorem span_cells {w W : World} {a b c d : Value} (hW : w.alloc (.cells #[a, b, c, d] 115) = W) : ∀ V, Below W.heap.size W V → V.cell? ⟨w.heap.size, 0, none⟩ = some a ∧ V.cell? ⟨w.heap.size, 1, none⟩ = some b ∧ V.cell? ⟨w.heap.size, 2, none⟩ = some c ∧ V.cell? ⟨w.heap.size, 3, none⟩ = some d := fun V hV => by
  have h := row_at hW
  have h2 := (hV.block _ (ltS h)).trans h
  refine ⟨?_, ?_, ?_, ?_⟩ <;> simp [World.cell?, h2]
set_option maxRecDepth 100000 in
set_option maxHeartbeats 16000000 in
theorem rask_any {w : World} {x : JV} {S : ByteArray} {kp ip : Option Addr} {kc ic : Nat} (h : KI w x kp kc ip ic) (hwt : x.wt ≤ 1000000) (hS : (⟨x.str.toArray⟩ : ByteArray) = S) (m : List UInt8) (M : ByteArray) (hM : (⟨m.toArray⟩ : ByteArray) = M) (q : QV) (bad : Bool) (hq : askR m x = (q, bad)) (UR NR : ByteArray) (hUR : (⟨q.uri.toArray⟩ : ByteArray) = UR) (hNR : (⟨q.name.toArray⟩ : ByteArray) = NR) :
    Calls Tryz.prog 20 #[.string M, .agg #[.int .i64 x.kind, .string S, .slice kp x.keys.length kc, .slice ip x.items.length ic]] w fun e w' => e = .returned (.tuple #[if bad = true then .agg #[.int .i64 0, .string ⟨#[]⟩, .int .i64 0, .int .i64 0, .int .i64 0, .int .i64 0, .string ⟨#[]⟩] else .agg #[.int .i64 q.k, .string UR, .int .i64 q.a.1, .int .i64 q.a.2, .int .i64 q.b.1, .int .i64 q.b.2, .string NR], .bool (!bad)]) ∧ Below w.heap.size w w' := by
  obtain ⟨W1, hW1⟩ : ∃ W, w.alloc (.cells #[.int .i64 x.kind, .string S, .slice kp x.keys.length kc, .slice ip x.items.length ic] 25) = W := ⟨_, rfl⟩
  obtain ⟨W, hW⟩ : ∃ W, W1.alloc (.cells #[.int .i64 0, .string ⟨#[]⟩, .int .i64 0, .int .i64 0, .int .i64 0, .int .i64 0, .string ⟨#[]⟩] 42) = W := ⟨_, rfl⟩
  have bW1 := alloc_b hW1
  have bW2 := alloc_b hW
  have bW := Below.on bW1 bW2
  have z1 : W1.heap.size = w.heap.size + 1 := by rw [← hW1]; simp
  have z2 : W.heap.size = w.heap.size + 2 := by rw [← hW]; simp; omega
  have hJ := row_at hW
  rw [z1] at hJ
  have HJ : Hid (∀ V, Below W.heap.size W V → V.heap[w.heap.size + 1]? = some (.cells #[.int .i64 0, .string ⟨#[]⟩, .int .i64 0, .int .i64 0, .int .i64 0, .int .i64 0, .string ⟨#[]⟩] 42 (0, 0))) := Lib.hid fun V hV => (hV.block _ (ltS hJ)).trans hJ
  have HBW := Lib.hid bW
  have HX : Hid (∀ V, Below W.heap.size W V → _) := Lib.hid fun V hV => box_of hW1 V (Below.on bW2 hV)
  obtain ⟨c0, c1, c2, c3⟩ := HX.out W (Below.refl _ _)
  obtain ⟨d, bd, hd⟩ : ∃ f b, fldR x kDoc 6 false = (f, b) := ⟨_, _, rfl⟩
  obtain ⟨D, hD⟩ : ∃ B : ByteArray, (⟨d.str.toArray⟩ : ByteArray) = B := ⟨_, rfl⟩
  obtain ⟨u, bu, hu⟩ : ∃ f b, fldR d kUri 4 false = (f, b) := ⟨_, _, rfl⟩
  obtain ⟨U, hU⟩ : ∃ B : ByteArray, (⟨u.str.toArray⟩ : ByteArray) = B := ⟨_, rfl⟩
  obtain ⟨nm, bn, hn⟩ : ∃ f b, fldR x kNew 4 false = (f, b) := ⟨_, _, rfl⟩
  obtain ⟨NM, hNM⟩ : ∃ B : ByteArray, (⟨nm.str.toArray⟩ : ByteArray) = B := ⟨_, rfl⟩
  obtain ⟨p, bp, hp⟩ : ∃ p b, posR x kPos false = (p, b) := ⟨_, _, rfl⟩
  obtain ⟨r, br, hr⟩ : ∃ p b, spanR x kRange false = (p, b) := ⟨_, _, rfl⟩
  obtain ⟨p1, p2, hp1⟩ : ∃ m n : Int, (if bp = true then ((0 : Int), (0 : Int)) else p) = (m, n) := ⟨_, _, rfl⟩
  obtain ⟨r1, r2, r3, r4, hr1⟩ : ∃ a b c d : Int, (if br = true then (((0 : Int), (0 : Int)), ((0 : Int), (0 : Int))) else r) = ((a, b), (c, d)) := ⟨_, _, _, _, rfl⟩
  have h75 := rwithin75 (h.stay bW) hS ⟨#[116, 101, 120, 116, 68, 111, 99, 117, 109, 101, 110, 116]⟩ d bd hd D hD
  have HU : Hid (∀ (V : World) (fp gp : Option Addr) (fc gc : Nat), KI V d fp fc gp gc → Calls Tryz.prog 76 #[.agg #[.int .i64 d.kind, .string D, .slice fp d.keys.length fc, .slice gp d.items.length gc], .string ⟨#[117, 114, 105]⟩] V fun e w' => e = .returned (.tuple #[.string U, .bool (!bu)]) ∧ Below V.heap.size V w') := Lib.hid fun V fp gp fc gc hk => rtext76 hk hD ⟨#[117, 114, 105]⟩ u bu hu U hU
  have HP : Hid (∀ V, Below W.heap.size W V → Calls Tryz.prog 81 #[.agg #[.int .i64 x.kind, .string S, .slice kp x.keys.length kc, .slice ip x.items.length ic], .string ⟨#[112, 111, 115, 105, 116, 105, 111, 110]⟩] V fun e w' => e = .returned (.tuple #[.agg #[.int .i64 p1, .int .i64 p2], .bool (!bp)]) ∧ Below V.heap.size V w') := Lib.hid fun V hV => rposition81 (h.stay (Below.on bW hV)) hwt hS ⟨#[112, 111, 115, 105, 116, 105, 111, 110]⟩ p bp hp p1 p2 hp1
  have HR : Hid (∀ V, Below W.heap.size W V → Calls Tryz.prog 82 #[.agg #[.int .i64 x.kind, .string S, .slice kp x.keys.length kc, .slice ip x.items.length ic], .string ⟨#[114, 97, 110, 103, 101]⟩] V fun e w' => e = .returned (.tuple #[.agg #[.int .i64 r1, .int .i64 r2, .int .i64 r3, .int .i64 r4], .bool (!br)]) ∧ Below V.heap.size V w') := Lib.hid fun V hV => rspan82 (h.stay (Below.on bW hV)) hwt hS ⟨#[114, 97, 110, 103, 101]⟩ r br hr r1 r2 r3 r4 hr1
  have HN : Hid (∀ V, Below W.heap.size W V → Calls Tryz.prog 76 #[.agg #[.int .i64 x.kind, .string S, .slice kp x.keys.length kc, .slice ip x.items.length ic], .string ⟨#[110, 101, 119, 78, 97, 109, 101]⟩] V fun e w' => e = .returned (.tuple #[.string NM, .bool (!bn)]) ∧ Below V.heap.size V w') := Lib.hid fun V hV => rtext76 (h.stay (Below.on bW hV)) hS ⟨#[110, 101, 119, 78, 97, 109, 101]⟩ nm bn hn NM hNM
  have hs := ask_split hq hd hu hn hp hr
  subst hW1
  clear h hwt hS bW1 bW2 bW hJ hD hd hu hn hp hr hq
  by_cases hbad : (bd || bu) = true
  · obtain rfl : bad = true := by
      rcases hs with ⟨_, _, e⟩ | ⟨_, _, e⟩ | ⟨_, _, e⟩ | ⟨_, _, _, e⟩ <;> rw [e] <;> simp [hbad]
    clear hs hp1 hr1 hUR hNR hM hU hNM
    cases bd with
    | true =>
      clear hbad
      cases bu with
      | true =>
        go_enter Tryz.func20, Tryz.ntmps20
        go_wp2_with (first
          | (go_at_call 75; refine h75.mono ?_; rintro e w1 ⟨fp, fc, gp, gc, rfl, hkf, _, hb1⟩
             obtain ⟨V1, hV1⟩ : ∃ V, w1.alloc (.cells #[.int .i64 d.kind, .string D, .slice fp d.keys.length fc, .slice gp d.items.length gc] 25) = V := ⟨_, rfl⟩
             have hv1 := alloc_b hV1
             have b1' := Below.on hb1 hv1
             obtain ⟨d0, d1, d2, d3⟩ := box_of hV1 V1 (Below.refl _ _)
             have hA := HU.out V1 _ _ _ _ (hkf.stay hv1))
          | (with_reducible (show Calls _ _ _ V1 _); go_at_call 76; refine hA.mono ?_; rintro e w2 ⟨rfl, hb2⟩
             have b2' := Below.on b1' hb2
             clear c0 c1 c2 c3 d0 d1 d2 d3
             obtain ⟨c0, c1, c2, c3⟩ := HX.out w2 b2'
             have hP := HP.out w2 b2')
          | (refine store_part rfl 42 (.tmp 4) (.tmp 32) rfl (w.heap.size + 1) 0 (.agg #[.int .i64 0, .string ⟨#[]⟩, .int .i64 0, .int .i64 0, .int .i64 0, .int .i64 0, .string ⟨#[]⟩]) [.int .i64 0, .string ⟨#[]⟩, .int .i64 0, .int .i64 0, .int .i64 0, .int .i64 0, .string ⟨#[]⟩] rfl rfl rfl (by kernel_rfl) (fun u hu => by simp only [List.mem_cons, List.not_mem_nil, or_false] at hu; rcases hu with rfl | rfl | rfl | rfl | rfl | rfl | rfl <;> rfl) _ #[.int .i64 0, .string ⟨#[]⟩, .int .i64 0, .int .i64 0, .int .i64 0, .int .i64 0, .string ⟨#[]⟩] 42 (HJ.out w2 b2') (Nat.le_of_ble_eq_true rfl) rfl (fun V9 hV9 hg9 _ => ?_)))
        refine bodyPost_ret (ret_q Tryz.results20 rfl rfl hV9) rfl ?_
        exact ⟨rfl, below_gbz (Below.on HBW.out b2') (by omega) hg9⟩
      | false =>
        go_enter Tryz.func20, Tryz.ntmps20
        go_wp2_with (first
          | (go_at_call 75; refine h75.mono ?_; rintro e w1 ⟨fp, fc, gp, gc, rfl, hkf, _, hb1⟩
             obtain ⟨V1, hV1⟩ : ∃ V, w1.alloc (.cells #[.int .i64 d.kind, .string D, .slice fp d.keys.length fc, .slice gp d.items.length gc] 25) = V := ⟨_, rfl⟩
             have hv1 := alloc_b hV1
             have b1' := Below.on hb1 hv1
             obtain ⟨d0, d1, d2, d3⟩ := box_of hV1 V1 (Below.refl _ _)
             have hA := HU.out V1 _ _ _ _ (hkf.stay hv1))
          | (with_reducible (show Calls _ _ _ V1 _); go_at_call 76; refine hA.mono ?_; rintro e w2 ⟨rfl, hb2⟩
             have b2' := Below.on b1' hb2
             clear c0 c1 c2 c3 d0 d1 d2 d3
             obtain ⟨c0, c1, c2, c3⟩ := HX.out w2 b2'
             have hP := HP.out w2 b2')
          | (refine store_part rfl 42 (.tmp 4) (.tmp 32) rfl (w.heap.size + 1) 0 (.agg #[.int .i64 0, .string ⟨#[]⟩, .int .i64 0, .int .i64 0, .int .i64 0, .int .i64 0, .string ⟨#[]⟩]) [.int .i64 0, .string ⟨#[]⟩, .int .i64 0, .int .i64 0, .int .i64 0, .int .i64 0, .string ⟨#[]⟩] rfl rfl rfl (by kernel_rfl) (fun u hu => by simp only [List.mem_cons, List.not_mem_nil, or_false] at hu; rcases hu with rfl | rfl | rfl | rfl | rfl | rfl | rfl <;> rfl) _ #[.int .i64 0, .string ⟨#[]⟩, .int .i64 0, .int .i64 0, .int .i64 0, .int .i64 0, .string ⟨#[]⟩] 42 (HJ.out w2 b2') (Nat.le_of_ble_eq_true rfl) rfl (fun V9 hV9 hg9 _ => ?_)))
        refine bodyPost_ret (ret_q Tryz.results20 rfl rfl hV9) rfl ?_
        exact ⟨rfl, below_gbz (Below.on HBW.out b2') (by omega) hg9⟩
    | false =>
      obtain rfl : bu = true := hbad
      go_enter Tryz.func20, Tryz.ntmps20
      go_wp2_with (first
        | (go_at_call 75; refine h75.mono ?_; rintro e w1 ⟨fp, fc, gp, gc, rfl, hkf, _, hb1⟩
           obtain ⟨V1, hV1⟩ : ∃ V, w1.alloc (.cells #[.int .i64 d.kind, .string D, .slice fp d.keys.length fc, .slice gp d.items.length gc] 25) = V := ⟨_, rfl⟩
           have hv1 := alloc_b hV1
           have b1' := Below.on hb1 hv1
           obtain ⟨d0, d1, d2, d3⟩ := box_of hV1 V1 (Below.refl _ _)
           have hA := HU.out V1 _ _ _ _ (hkf.stay hv1))
        | (with_reducible (show Calls _ _ _ V1 _); go_at_call 76; refine hA.mono ?_; rintro e w2 ⟨rfl, hb2⟩
           have b2' := Below.on b1' hb2
           clear c0 c1 c2 c3 d0 d1 d2 d3
           obtain ⟨c0, c1, c2, c3⟩ := HX.out w2 b2'
           have hP := HP.out w2 b2')
        | (refine store_part rfl 42 (.tmp 4) (.tmp 32) rfl (w.heap.size + 1) 0 (.agg #[.int .i64 0, .string ⟨#[]⟩, .int .i64 0, .int .i64 0, .int .i64 0, .int .i64 0, .string ⟨#[]⟩]) [.int .i64 0, .string ⟨#[]⟩, .int .i64 0, .int .i64 0, .int .i64 0, .int .i64 0, .string ⟨#[]⟩] rfl rfl rfl (by kernel_rfl) (fun u hu => by simp only [List.mem_cons, List.not_mem_nil, or_false] at hu; rcases hu with rfl | rfl | rfl | rfl | rfl | rfl | rfl <;> rfl) _ #[.int .i64 0, .string ⟨#[]⟩, .int .i64 0, .int .i64 0, .int .i64 0, .int .i64 0, .string ⟨#[]⟩] 42 (HJ.out w2 b2') (Nat.le_of_ble_eq_true rfl) rfl (fun V9 hV9 hg9 _ => ?_)))
      refine bodyPost_ret (ret_q Tryz.results20 rfl rfl hV9) rfl ?_
      exact ⟨rfl, below_gbz (Below.on HBW.out b2') (by omega) hg9⟩
  have hbb : bd = false ∧ bu = false := by cases bd <;> cases bu <;> simp_all
  obtain ⟨rfl, rfl⟩ := hbb
  clear hbad
  rcases hs with ⟨rfl, rfl, hbd⟩ | ⟨rfl, rfl, hbd⟩ | ⟨rfl, rfl, hbd⟩ | ⟨m1, m2, m3, hbd⟩
  · obtain rfl : (⟨#[116, 101, 120, 116, 68, 111, 99, 117, 109, 101, 110, 116, 47, 114, 101, 110, 97, 109, 101]⟩ : ByteArray) = M := hM
    obtain rfl : U = UR := hU.symm.trans hUR
    obtain rfl : NM = NR := hNM.symm.trans hNR
    clear hU hNM hr1
    cases bp with
    | true =>
      clear hp1
      cases bn with
      | true =>
        obtain rfl : bad = true := hbd
        go_enter Tryz.func20, Tryz.ntmps20
        go_wp2_with (first
          | (go_at_call 75; refine h75.mono ?_; rintro e w1 ⟨fp, fc, gp, gc, rfl, hkf, _, hb1⟩
             obtain ⟨V1, hV1⟩ : ∃ V, w1.alloc (.cells #[.int .i64 d.kind, .string D, .slice fp d.keys.length fc, .slice gp d.items.length gc] 25) = V := ⟨_, rfl⟩
             have hv1 := alloc_b hV1
             have b1' := Below.on hb1 hv1
             obtain ⟨d0, d1, d2, d3⟩ := box_of hV1 V1 (Below.refl _ _)
             have hA := HU.out V1 _ _ _ _ (hkf.stay hv1))
          | (with_reducible (show Calls _ _ _ V1 _); go_at_call 76; refine hA.mono ?_; rintro e w2 ⟨rfl, hb2⟩
             have b2' := Below.on b1' hb2
             clear c0 c1 c2 c3 d0 d1 d2 d3
             obtain ⟨c0, c1, c2, c3⟩ := HX.out w2 b2'
             have hP := HP.out w2 b2')
          | (go_at_call 81; refine hP.mono ?_; rintro e w3 ⟨rfl, hb3⟩
             obtain ⟨V3, hV3⟩ : ∃ V, w3.alloc (.cells #[.int .i64 p1, .int .i64 p2] 40) = V := ⟨_, rfl⟩
             have hv3 := alloc_b hV3
             have b3' := Below.on b2' (Below.on hb3 hv3)
             have HE3 := Lib.hid (pos_cells hV3)
             clear c0 c1 c2 c3
             obtain ⟨c0, c1, c2, c3⟩ := HX.out V3 b3'
             have hR := HR.out V3 b3')
          | (go_at_call 82; refine hR.mono ?_; rintro e w4 ⟨rfl, hb4⟩
             obtain ⟨V4, hV4⟩ : ∃ V, w4.alloc (.cells #[.int .i64 r1, .int .i64 r2, .int .i64 r3, .int .i64 r4] 115) = V := ⟨_, rfl⟩
             have hv4 := alloc_b hV4
             have hc4 := Below.on hb4 hv4
             have b4' := Below.on b3' hc4
             have HE4 := Lib.hid (span_cells hV4)
             clear c0 c1 c2 c3
             obtain ⟨c0, c1, c2, c3⟩ := HX.out V4 b4'
             have hN := HN.out V4 b4')
          | (with_reducible (show Calls _ _ _ V4 _); go_at_call 76; refine hN.mono ?_; rintro e w5 ⟨rfl, hb5⟩
             have b5' := Below.on b4' hb5
             obtain ⟨y0, y1⟩ := HE3.out w5 (Below.on hc4 hb5)
             obtain ⟨y2, y3, y4, y5⟩ := HE4.out w5 hb5)
          | (refine store_part rfl 42 (.tmp 4) (.tmp 76) rfl (w.heap.size + 1) 0 (.agg #[.int .i64 0, .string ⟨#[]⟩, .int .i64 0, .int .i64 0, .int .i64 0, .int .i64 0, .string ⟨#[]⟩]) [.int .i64 0, .string ⟨#[]⟩, .int .i64 0, .int .i64 0, .int .i64 0, .int .i64 0, .string ⟨#[]⟩] rfl rfl rfl (by kernel_rfl) (fun u hu => by simp only [List.mem_cons, List.not_mem_nil, or_false] at hu; rcases hu with rfl | rfl | rfl | rfl | rfl | rfl | rfl <;> rfl) _ #[.int .i64 0, .string ⟨#[]⟩, .int .i64 0, .int .i64 0, .int .i64 0, .int .i64 0, .string ⟨#[]⟩] 42 (HJ.out w5 b5') (Nat.le_of_ble_eq_true rfl) rfl (fun V9 hV9 hg9 _ => ?_)))
        refine bodyPost_ret (ret_q Tryz.results20 rfl rfl hV9) rfl ?_
        exact ⟨rfl, below_gbz (Below.on HBW.out b5') (by omega) hg9⟩
      | false =>
        obtain rfl : bad = true := hbd
        go_enter Tryz.func20, Tryz.ntmps20
        go_wp2_with (first
          | (go_at_call 75; refine h75.mono ?_; rintro e w1 ⟨fp, fc, gp, gc, rfl, hkf, _, hb1⟩
             obtain ⟨V1, hV1⟩ : ∃ V, w1.alloc (.cells #[.int .i64 d.kind, .string D, .slice fp d.keys.length fc, .slice gp d.items.length gc] 25) = V := ⟨_, rfl⟩
             have hv1 := alloc_b hV1
             have b1' := Below.on hb1 hv1
             obtain ⟨d0, d1, d2, d3⟩ := box_of hV1 V1 (Below.refl _ _)
             have hA := HU.out V1 _ _ _ _ (hkf.stay hv1))
          | (with_reducible (show Calls _ _ _ V1 _); go_at_call 76; refine hA.mono ?_; rintro e w2 ⟨rfl, hb2⟩
             have b2' := Below.on b1' hb2
             clear c0 c1 c2 c3 d0 d1 d2 d3
             obtain ⟨c0, c1, c2, c3⟩ := HX.out w2 b2'
             have hP := HP.out w2 b2')
          | (go_at_call 81; refine hP.mono ?_; rintro e w3 ⟨rfl, hb3⟩
             obtain ⟨V3, hV3⟩ : ∃ V, w3.alloc (.cells #[.int .i64 p1, .int .i64 p2] 40) = V := ⟨_, rfl⟩
             have hv3 := alloc_b hV3
             have b3' := Below.on b2' (Below.on hb3 hv3)
             have HE3 := Lib.hid (pos_cells hV3)
             clear c0 c1 c2 c3
             obtain ⟨c0, c1, c2, c3⟩ := HX.out V3 b3'
             have hR := HR.out V3 b3')
          | (go_at_call 82; refine hR.mono ?_; rintro e w4 ⟨rfl, hb4⟩
             obtain ⟨V4, hV4⟩ : ∃ V, w4.alloc (.cells #[.int .i64 r1, .int .i64 r2, .int .i64 r3, .int .i64 r4] 115) = V := ⟨_, rfl⟩
             have hv4 := alloc_b hV4
             have hc4 := Below.on hb4 hv4
             have b4' := Below.on b3' hc4
             have HE4 := Lib.hid (span_cells hV4)
             clear c0 c1 c2 c3
             obtain ⟨c0, c1, c2, c3⟩ := HX.out V4 b4'
             have hN := HN.out V4 b4')
          | (with_reducible (show Calls _ _ _ V4 _); go_at_call 76; refine hN.mono ?_; rintro e w5 ⟨rfl, hb5⟩
             have b5' := Below.on b4' hb5
             obtain ⟨y0, y1⟩ := HE3.out w5 (Below.on hc4 hb5)
             obtain ⟨y2, y3, y4, y5⟩ := HE4.out w5 hb5)
          | (refine store_part rfl 42 (.tmp 4) (.tmp 76) rfl (w.heap.size + 1) 0 (.agg #[.int .i64 0, .string ⟨#[]⟩, .int .i64 0, .int .i64 0, .int .i64 0, .int .i64 0, .string ⟨#[]⟩]) [.int .i64 0, .string ⟨#[]⟩, .int .i64 0, .int .i64 0, .int .i64 0, .int .i64 0, .string ⟨#[]⟩] rfl rfl rfl (by kernel_rfl) (fun u hu => by simp only [List.mem_cons, List.not_mem_nil, or_false] at hu; rcases hu with rfl | rfl | rfl | rfl | rfl | rfl | rfl <;> rfl) _ #[.int .i64 0, .string ⟨#[]⟩, .int .i64 0, .int .i64 0, .int .i64 0, .int .i64 0, .string ⟨#[]⟩] 42 (HJ.out w5 b5') (Nat.le_of_ble_eq_true rfl) rfl (fun V9 hV9 hg9 _ => ?_)))
        refine bodyPost_ret (ret_q Tryz.results20 rfl rfl hV9) rfl ?_
        exact ⟨rfl, below_gbz (Below.on HBW.out b5') (by omega) hg9⟩
    | false =>
      rw [if_neg (by decide)] at hp1
      subst hp1
      cases bn with
      | true =>
        obtain rfl : bad = true := hbd
        go_enter Tryz.func20, Tryz.ntmps20
        go_wp2_with (first
          | (go_at_call 75; refine h75.mono ?_; rintro e w1 ⟨fp, fc, gp, gc, rfl, hkf, _, hb1⟩
             obtain ⟨V1, hV1⟩ : ∃ V, w1.alloc (.cells #[.int .i64 d.kind, .string D, .slice fp d.keys.length fc, .slice gp d.items.length gc] 25) = V := ⟨_, rfl⟩
             have hv1 := alloc_b hV1
             have b1' := Below.on hb1 hv1
             obtain ⟨d0, d1, d2, d3⟩ := box_of hV1 V1 (Below.refl _ _)
             have hA := HU.out V1 _ _ _ _ (hkf.stay hv1))
          | (with_reducible (show Calls _ _ _ V1 _); go_at_call 76; refine hA.mono ?_; rintro e w2 ⟨rfl, hb2⟩
             have b2' := Below.on b1' hb2
             clear c0 c1 c2 c3 d0 d1 d2 d3
             obtain ⟨c0, c1, c2, c3⟩ := HX.out w2 b2'
             have hP := HP.out w2 b2')
          | (go_at_call 81; refine hP.mono ?_; rintro e w3 ⟨rfl, hb3⟩
             obtain ⟨V3, hV3⟩ : ∃ V, w3.alloc (.cells #[.int .i64 p1, .int .i64 p2] 40) = V := ⟨_, rfl⟩
             have hv3 := alloc_b hV3
             have b3' := Below.on b2' (Below.on hb3 hv3)
             have HE3 := Lib.hid (pos_cells hV3)
             clear c0 c1 c2 c3
             obtain ⟨c0, c1, c2, c3⟩ := HX.out V3 b3'
             have hR := HR.out V3 b3')
          | (go_at_call 82; refine hR.mono ?_; rintro e w4 ⟨rfl, hb4⟩
             obtain ⟨V4, hV4⟩ : ∃ V, w4.alloc (.cells #[.int .i64 r1, .int .i64 r2, .int .i64 r3, .int .i64 r4] 115) = V := ⟨_, rfl⟩
             have hv4 := alloc_b hV4
             have hc4 := Below.on hb4 hv4
             have b4' := Below.on b3' hc4
             have HE4 := Lib.hid (span_cells hV4)
             clear c0 c1 c2 c3
             obtain ⟨c0, c1, c2, c3⟩ := HX.out V4 b4'
             have hN := HN.out V4 b4')
          | (with_reducible (show Calls _ _ _ V4 _); go_at_call 76; refine hN.mono ?_; rintro e w5 ⟨rfl, hb5⟩
             have b5' := Below.on b4' hb5
             obtain ⟨y0, y1⟩ := HE3.out w5 (Below.on hc4 hb5)
             obtain ⟨y2, y3, y4, y5⟩ := HE4.out w5 hb5)
          | (refine store_part rfl 42 (.tmp 4) (.tmp 76) rfl (w.heap.size + 1) 0 (.agg #[.int .i64 0, .string ⟨#[]⟩, .int .i64 0, .int .i64 0, .int .i64 0, .int .i64 0, .string ⟨#[]⟩]) [.int .i64 0, .string ⟨#[]⟩, .int .i64 0, .int .i64 0, .int .i64 0, .int .i64 0, .string ⟨#[]⟩] rfl rfl rfl (by kernel_rfl) (fun u hu => by simp only [List.mem_cons, List.not_mem_nil, or_false] at hu; rcases hu with rfl | rfl | rfl | rfl | rfl | rfl | rfl <;> rfl) _ #[.int .i64 0, .string ⟨#[]⟩, .int .i64 0, .int .i64 0, .int .i64 0, .int .i64 0, .string ⟨#[]⟩] 42 (HJ.out w5 b5') (Nat.le_of_ble_eq_true rfl) rfl (fun V9 hV9 hg9 _ => ?_)))
        refine bodyPost_ret (ret_q Tryz.results20 rfl rfl hV9) rfl ?_
        exact ⟨rfl, below_gbz (Below.on HBW.out b5') (by omega) hg9⟩
      | false =>
        obtain rfl : bad = false := hbd
        go_enter Tryz.func20, Tryz.ntmps20
        go_wp2_with (first
          | (go_at_call 75; refine h75.mono ?_; rintro e w1 ⟨fp, fc, gp, gc, rfl, hkf, _, hb1⟩
             obtain ⟨V1, hV1⟩ : ∃ V, w1.alloc (.cells #[.int .i64 d.kind, .string D, .slice fp d.keys.length fc, .slice gp d.items.length gc] 25) = V := ⟨_, rfl⟩
             have hv1 := alloc_b hV1
             have b1' := Below.on hb1 hv1
             obtain ⟨d0, d1, d2, d3⟩ := box_of hV1 V1 (Below.refl _ _)
             have hA := HU.out V1 _ _ _ _ (hkf.stay hv1))
          | (with_reducible (show Calls _ _ _ V1 _); go_at_call 76; refine hA.mono ?_; rintro e w2 ⟨rfl, hb2⟩
             have b2' := Below.on b1' hb2
             clear c0 c1 c2 c3 d0 d1 d2 d3
             obtain ⟨c0, c1, c2, c3⟩ := HX.out w2 b2'
             have hP := HP.out w2 b2')
          | (go_at_call 81; refine hP.mono ?_; rintro e w3 ⟨rfl, hb3⟩
             obtain ⟨V3, hV3⟩ : ∃ V, w3.alloc (.cells #[.int .i64 p1, .int .i64 p2] 40) = V := ⟨_, rfl⟩
             have hv3 := alloc_b hV3
             have b3' := Below.on b2' (Below.on hb3 hv3)
             have HE3 := Lib.hid (pos_cells hV3)
             clear c0 c1 c2 c3
             obtain ⟨c0, c1, c2, c3⟩ := HX.out V3 b3'
             have hR := HR.out V3 b3')
          | (go_at_call 82; refine hR.mono ?_; rintro e w4 ⟨rfl, hb4⟩
             obtain ⟨V4, hV4⟩ : ∃ V, w4.alloc (.cells #[.int .i64 r1, .int .i64 r2, .int .i64 r3, .int .i64 r4] 115) = V := ⟨_, rfl⟩
             have hv4 := alloc_b hV4
             have hc4 := Below.on hb4 hv4
             have b4' := Below.on b3' hc4
             have HE4 := Lib.hid (span_cells hV4)
             clear c0 c1 c2 c3
             obtain ⟨c0, c1, c2, c3⟩ := HX.out V4 b4'
             have hN := HN.out V4 b4')
          | (with_reducible (show Calls _ _ _ V4 _); go_at_call 76; refine hN.mono ?_; rintro e w5 ⟨rfl, hb5⟩
             have b5' := Below.on b4' hb5
             obtain ⟨y0, y1⟩ := HE3.out w5 (Below.on hc4 hb5)
             obtain ⟨y2, y3, y4, y5⟩ := HE4.out w5 hb5)
          | (refine store_part rfl 42 (.tmp 4) (.tmp 66) rfl (w.heap.size + 1) 0 (.agg #[.int .i64 2, .string U, .int .i64 p1, .int .i64 p2, .int .i64 p1, .int .i64 p2, .string NM]) [.int .i64 2, .string U, .int .i64 p1, .int .i64 p2, .int .i64 p1, .int .i64 p2, .string NM] rfl rfl rfl (by kernel_rfl) (fun u hu => by simp only [List.mem_cons, List.not_mem_nil, or_false] at hu; rcases hu with rfl | rfl | rfl | rfl | rfl | rfl | rfl <;> rfl) _ #[.int .i64 2, .string U, .int .i64 p1, .int .i64 p2, .int .i64 p1, .int .i64 p2, .string NM] 42 (HJ.out w5 b5') (Nat.le_of_ble_eq_true rfl) rfl (fun V9 hV9 hg9 _ => ?_)))
        refine bodyPost_ret (ret_q Tryz.results20 rfl rfl hV9) rfl ?_
        exact ⟨rfl, below_gbz (Below.on HBW.out b5') (by omega) hg9⟩
  · obtain rfl : (⟨#[116, 101, 120, 116, 68, 111, 99, 117, 109, 101, 110, 116, 47, 112, 114, 101, 112, 97, 114, 101, 82, 101, 110, 97, 109, 101]⟩ : ByteArray) = M := hM
    obtain rfl : U = UR := hU.symm.trans hUR
    obtain rfl : (⟨#[]⟩ : ByteArray) = NR := hNR
    clear hU hNM hr1
    cases bp with
    | true =>
      clear hp1
      obtain rfl : bad = true := hbd
      go_enter Tryz.func20, Tryz.ntmps20
      go_wp2_with (first
        | (go_at_call 75; refine h75.mono ?_; rintro e w1 ⟨fp, fc, gp, gc, rfl, hkf, _, hb1⟩
           obtain ⟨V1, hV1⟩ : ∃ V, w1.alloc (.cells #[.int .i64 d.kind, .string D, .slice fp d.keys.length fc, .slice gp d.items.length gc] 25) = V := ⟨_, rfl⟩
           have hv1 := alloc_b hV1
           have b1' := Below.on hb1 hv1
           obtain ⟨d0, d1, d2, d3⟩ := box_of hV1 V1 (Below.refl _ _)
           have hA := HU.out V1 _ _ _ _ (hkf.stay hv1))
        | (with_reducible (show Calls _ _ _ V1 _); go_at_call 76; refine hA.mono ?_; rintro e w2 ⟨rfl, hb2⟩
           have b2' := Below.on b1' hb2
           clear c0 c1 c2 c3 d0 d1 d2 d3
           obtain ⟨c0, c1, c2, c3⟩ := HX.out w2 b2'
           have hP := HP.out w2 b2')
        | (go_at_call 81; refine hP.mono ?_; rintro e w3 ⟨rfl, hb3⟩
           obtain ⟨V3, hV3⟩ : ∃ V, w3.alloc (.cells #[.int .i64 p1, .int .i64 p2] 40) = V := ⟨_, rfl⟩
           have hv3 := alloc_b hV3
           have b3' := Below.on b2' (Below.on hb3 hv3)
           have HE3 := Lib.hid (pos_cells hV3)
           clear c0 c1 c2 c3
           obtain ⟨c0, c1, c2, c3⟩ := HX.out V3 b3'
           have hR := HR.out V3 b3')
        | (go_at_call 82; refine hR.mono ?_; rintro e w4 ⟨rfl, hb4⟩
           obtain ⟨V4, hV4⟩ : ∃ V, w4.alloc (.cells #[.int .i64 r1, .int .i64 r2, .int .i64 r3, .int .i64 r4] 115) = V := ⟨_, rfl⟩
           have hv4 := alloc_b hV4
           have hc4 := Below.on hb4 hv4
           have b4' := Below.on b3' hc4
           have HE4 := Lib.hid (span_cells hV4)
           clear c0 c1 c2 c3
           obtain ⟨c0, c1, c2, c3⟩ := HX.out V4 b4'
           have hN := HN.out V4 b4')
        | (with_reducible (show Calls _ _ _ V4 _); go_at_call 76; refine hN.mono ?_; rintro e w5 ⟨rfl, hb5⟩
           have b5' := Below.on b4' hb5
           obtain ⟨y0, y1⟩ := HE3.out w5 (Below.on hc4 hb5)
           obtain ⟨y2, y3, y4, y5⟩ := HE4.out w5 hb5)
        | (refine store_part rfl 42 (.tmp 4) (.tmp 76) rfl (w.heap.size + 1) 0 (.agg #[.int .i64 0, .string ⟨#[]⟩, .int .i64 0, .int .i64 0, .int .i64 0, .int .i64 0, .string ⟨#[]⟩]) [.int .i64 0, .string ⟨#[]⟩, .int .i64 0, .int .i64 0, .int .i64 0, .int .i64 0, .string ⟨#[]⟩] rfl rfl rfl (by kernel_rfl) (fun u hu => by simp only [List.mem_cons, List.not_mem_nil, or_false] at hu; rcases hu with rfl | rfl | rfl | rfl | rfl | rfl | rfl <;> rfl) _ #[.int .i64 0, .string ⟨#[]⟩, .int .i64 0, .int .i64 0, .int .i64 0, .int .i64 0, .string ⟨#[]⟩] 42 (HJ.out w5 b5') (Nat.le_of_ble_eq_true rfl) rfl (fun V9 hV9 hg9 _ => ?_)))
      refine bodyPost_ret (ret_q Tryz.results20 rfl rfl hV9) rfl ?_
      exact ⟨rfl, below_gbz (Below.on HBW.out b5') (by omega) hg9⟩
    | false =>
      rw [if_neg (by decide)] at hp1
      subst hp1
      obtain rfl : bad = false := hbd
      go_enter Tryz.func20, Tryz.ntmps20
      go_wp2_with (first
        | (go_at_call 75; refine h75.mono ?_; rintro e w1 ⟨fp, fc, gp, gc, rfl, hkf, _, hb1⟩
           obtain ⟨V1, hV1⟩ : ∃ V, w1.alloc (.cells #[.int .i64 d.kind, .string D, .slice fp d.keys.length fc, .slice gp d.items.length gc] 25) = V := ⟨_, rfl⟩
           have hv1 := alloc_b hV1
           have b1' := Below.on hb1 hv1
           obtain ⟨d0, d1, d2, d3⟩ := box_of hV1 V1 (Below.refl _ _)
           have hA := HU.out V1 _ _ _ _ (hkf.stay hv1))
        | (with_reducible (show Calls _ _ _ V1 _); go_at_call 76; refine hA.mono ?_; rintro e w2 ⟨rfl, hb2⟩
           have b2' := Below.on b1' hb2
           clear c0 c1 c2 c3 d0 d1 d2 d3
           obtain ⟨c0, c1, c2, c3⟩ := HX.out w2 b2'
           have hP := HP.out w2 b2')
        | (go_at_call 81; refine hP.mono ?_; rintro e w3 ⟨rfl, hb3⟩
           obtain ⟨V3, hV3⟩ : ∃ V, w3.alloc (.cells #[.int .i64 p1, .int .i64 p2] 40) = V := ⟨_, rfl⟩
           have hv3 := alloc_b hV3
           have b3' := Below.on b2' (Below.on hb3 hv3)
           have HE3 := Lib.hid (pos_cells hV3)
           clear c0 c1 c2 c3
           obtain ⟨c0, c1, c2, c3⟩ := HX.out V3 b3'
           have hR := HR.out V3 b3')
        | (go_at_call 82; refine hR.mono ?_; rintro e w4 ⟨rfl, hb4⟩
           obtain ⟨V4, hV4⟩ : ∃ V, w4.alloc (.cells #[.int .i64 r1, .int .i64 r2, .int .i64 r3, .int .i64 r4] 115) = V := ⟨_, rfl⟩
           have hv4 := alloc_b hV4
           have hc4 := Below.on hb4 hv4
           have b4' := Below.on b3' hc4
           have HE4 := Lib.hid (span_cells hV4)
           clear c0 c1 c2 c3
           obtain ⟨c0, c1, c2, c3⟩ := HX.out V4 b4'
           have hN := HN.out V4 b4')
        | (with_reducible (show Calls _ _ _ V4 _); go_at_call 76; refine hN.mono ?_; rintro e w5 ⟨rfl, hb5⟩
           have b5' := Below.on b4' hb5
           obtain ⟨y0, y1⟩ := HE3.out w5 (Below.on hc4 hb5)
           obtain ⟨y2, y3, y4, y5⟩ := HE4.out w5 hb5)
        | (refine store_part rfl 42 (.tmp 4) (.tmp 55) rfl (w.heap.size + 1) 0 (.agg #[.int .i64 1, .string U, .int .i64 p1, .int .i64 p2, .int .i64 p1, .int .i64 p2, .string ⟨#[]⟩]) [.int .i64 1, .string U, .int .i64 p1, .int .i64 p2, .int .i64 p1, .int .i64 p2, .string ⟨#[]⟩] rfl rfl rfl (by kernel_rfl) (fun u hu => by simp only [List.mem_cons, List.not_mem_nil, or_false] at hu; rcases hu with rfl | rfl | rfl | rfl | rfl | rfl | rfl <;> rfl) _ #[.int .i64 1, .string U, .int .i64 p1, .int .i64 p2, .int .i64 p1, .int .i64 p2, .string ⟨#[]⟩] 42 (HJ.out w5 b5') (Nat.le_of_ble_eq_true rfl) rfl (fun V9 hV9 hg9 _ => ?_)))
      refine bodyPost_ret (ret_q Tryz.results20 rfl rfl hV9) rfl ?_
      exact ⟨rfl, below_gbz (Below.on HBW.out b5') (by omega) hg9⟩
  · obtain rfl : (⟨#[116, 101, 120, 116, 68, 111, 99, 117, 109, 101, 110, 116, 47, 99, 111, 100, 101, 65, 99, 116, 105, 111, 110]⟩ : ByteArray) = M := hM
    obtain rfl : U = UR := hU.symm.trans hUR
    obtain rfl : (⟨#[]⟩ : ByteArray) = NR := hNR
    clear hU hNM hp1
    cases br with
    | true =>
      clear hr1
      obtain rfl : bad = true := hbd
      go_enter Tryz.func20, Tryz.ntmps20
      go_wp2_with (first
        | (go_at_call 75; refine h75.mono ?_; rintro e w1 ⟨fp, fc, gp, gc, rfl, hkf, _, hb1⟩
           obtain ⟨V1, hV1⟩ : ∃ V, w1.alloc (.cells #[.int .i64 d.kind, .string D, .slice fp d.keys.length fc, .slice gp d.items.length gc] 25) = V := ⟨_, rfl⟩
           have hv1 := alloc_b hV1
           have b1' := Below.on hb1 hv1
           obtain ⟨d0, d1, d2, d3⟩ := box_of hV1 V1 (Below.refl _ _)
           have hA := HU.out V1 _ _ _ _ (hkf.stay hv1))
        | (with_reducible (show Calls _ _ _ V1 _); go_at_call 76; refine hA.mono ?_; rintro e w2 ⟨rfl, hb2⟩
           have b2' := Below.on b1' hb2
           clear c0 c1 c2 c3 d0 d1 d2 d3
           obtain ⟨c0, c1, c2, c3⟩ := HX.out w2 b2'
           have hP := HP.out w2 b2')
        | (go_at_call 81; refine hP.mono ?_; rintro e w3 ⟨rfl, hb3⟩
           obtain ⟨V3, hV3⟩ : ∃ V, w3.alloc (.cells #[.int .i64 p1, .int .i64 p2] 40) = V := ⟨_, rfl⟩
           have hv3 := alloc_b hV3
           have b3' := Below.on b2' (Below.on hb3 hv3)
           have HE3 := Lib.hid (pos_cells hV3)
           clear c0 c1 c2 c3
           obtain ⟨c0, c1, c2, c3⟩ := HX.out V3 b3'
           have hR := HR.out V3 b3')
        | (go_at_call 82; refine hR.mono ?_; rintro e w4 ⟨rfl, hb4⟩
           obtain ⟨V4, hV4⟩ : ∃ V, w4.alloc (.cells #[.int .i64 r1, .int .i64 r2, .int .i64 r3, .int .i64 r4] 115) = V := ⟨_, rfl⟩
           have hv4 := alloc_b hV4
           have hc4 := Below.on hb4 hv4
           have b4' := Below.on b3' hc4
           have HE4 := Lib.hid (span_cells hV4)
           clear c0 c1 c2 c3
           obtain ⟨c0, c1, c2, c3⟩ := HX.out V4 b4'
           have hN := HN.out V4 b4')
        | (with_reducible (show Calls _ _ _ V4 _); go_at_call 76; refine hN.mono ?_; rintro e w5 ⟨rfl, hb5⟩
           have b5' := Below.on b4' hb5
           obtain ⟨y0, y1⟩ := HE3.out w5 (Below.on hc4 hb5)
           obtain ⟨y2, y3, y4, y5⟩ := HE4.out w5 hb5)
        | (refine store_part rfl 42 (.tmp 4) (.tmp 76) rfl (w.heap.size + 1) 0 (.agg #[.int .i64 0, .string ⟨#[]⟩, .int .i64 0, .int .i64 0, .int .i64 0, .int .i64 0, .string ⟨#[]⟩]) [.int .i64 0, .string ⟨#[]⟩, .int .i64 0, .int .i64 0, .int .i64 0, .int .i64 0, .string ⟨#[]⟩] rfl rfl rfl (by kernel_rfl) (fun u hu => by simp only [List.mem_cons, List.not_mem_nil, or_false] at hu; rcases hu with rfl | rfl | rfl | rfl | rfl | rfl | rfl <;> rfl) _ #[.int .i64 0, .string ⟨#[]⟩, .int .i64 0, .int .i64 0, .int .i64 0, .int .i64 0, .string ⟨#[]⟩] 42 (HJ.out w5 b5') (Nat.le_of_ble_eq_true rfl) rfl (fun V9 hV9 hg9 _ => ?_)))
      refine bodyPost_ret (ret_q Tryz.results20 rfl rfl hV9) rfl ?_
      exact ⟨rfl, below_gbz (Below.on HBW.out b5') (by omega) hg9⟩
    | false =>
      rw [if_neg (by decide)] at hr1
      subst hr1
      obtain rfl : bad = false := hbd
      go_enter Tryz.func20, Tryz.ntmps20
      go_wp2_with (first
        | (go_at_call 75; refine h75.mono ?_; rintro e w1 ⟨fp, fc, gp, gc, rfl, hkf, _, hb1⟩
           obtain ⟨V1, hV1⟩ : ∃ V, w1.alloc (.cells #[.int .i64 d.kind, .string D, .slice fp d.keys.length fc, .slice gp d.items.length gc] 25) = V := ⟨_, rfl⟩
           have hv1 := alloc_b hV1
           have b1' := Below.on hb1 hv1
           obtain ⟨d0, d1, d2, d3⟩ := box_of hV1 V1 (Below.refl _ _)
           have hA := HU.out V1 _ _ _ _ (hkf.stay hv1))
        | (with_reducible (show Calls _ _ _ V1 _); go_at_call 76; refine hA.mono ?_; rintro e w2 ⟨rfl, hb2⟩
           have b2' := Below.on b1' hb2
           clear c0 c1 c2 c3 d0 d1 d2 d3
           obtain ⟨c0, c1, c2, c3⟩ := HX.out w2 b2'
           have hP := HP.out w2 b2')
        | (go_at_call 81; refine hP.mono ?_; rintro e w3 ⟨rfl, hb3⟩
           obtain ⟨V3, hV3⟩ : ∃ V, w3.alloc (.cells #[.int .i64 p1, .int .i64 p2] 40) = V := ⟨_, rfl⟩
           have hv3 := alloc_b hV3
           have b3' := Below.on b2' (Below.on hb3 hv3)
           have HE3 := Lib.hid (pos_cells hV3)
           clear c0 c1 c2 c3
           obtain ⟨c0, c1, c2, c3⟩ := HX.out V3 b3'
           have hR := HR.out V3 b3')
        | (go_at_call 82; refine hR.mono ?_; rintro e w4 ⟨rfl, hb4⟩
           obtain ⟨V4, hV4⟩ : ∃ V, w4.alloc (.cells #[.int .i64 r1, .int .i64 r2, .int .i64 r3, .int .i64 r4] 115) = V := ⟨_, rfl⟩
           have hv4 := alloc_b hV4
           have hc4 := Below.on hb4 hv4
           have b4' := Below.on b3' hc4
           have HE4 := Lib.hid (span_cells hV4)
           clear c0 c1 c2 c3
           obtain ⟨c0, c1, c2, c3⟩ := HX.out V4 b4'
           have hN := HN.out V4 b4')
        | (with_reducible (show Calls _ _ _ V4 _); go_at_call 76; refine hN.mono ?_; rintro e w5 ⟨rfl, hb5⟩
           have b5' := Below.on b4' hb5
           obtain ⟨y0, y1⟩ := HE3.out w5 (Below.on hc4 hb5)
           obtain ⟨y2, y3, y4, y5⟩ := HE4.out w5 hb5)
        | (refine store_part rfl 42 (.tmp 4) (.tmp 75) rfl (w.heap.size + 1) 0 (.agg #[.int .i64 3, .string U, .int .i64 r1, .int .i64 r2, .int .i64 r3, .int .i64 r4, .string ⟨#[]⟩]) [.int .i64 3, .string U, .int .i64 r1, .int .i64 r2, .int .i64 r3, .int .i64 r4, .string ⟨#[]⟩] rfl rfl rfl (by kernel_rfl) (fun u hu => by simp only [List.mem_cons, List.not_mem_nil, or_false] at hu; rcases hu with rfl | rfl | rfl | rfl | rfl | rfl | rfl <;> rfl) _ #[.int .i64 3, .string U, .int .i64 r1, .int .i64 r2, .int .i64 r3, .int .i64 r4, .string ⟨#[]⟩] 42 (HJ.out w5 b5') (Nat.le_of_ble_eq_true rfl) rfl (fun V9 hV9 hg9 _ => ?_)))
      refine bodyPost_ret (ret_q Tryz.results20 rfl rfl hV9) rfl ?_
      exact ⟨rfl, below_gbz (Below.on HBW.out b5') (by omega) hg9⟩
  · have n1 : (M.toList == ([116, 101, 120, 116, 68, 111, 99, 117, 109, 101, 110, 116, 47, 114, 101, 110, 97, 109, 101] : List UInt8)) = false := by
      rw [← hM]
      exact beq_eq_false_iff_ne.2 (fun e => m1 (by unfold mRen; simpa using e))
    have n2 : (M.toList == ([116, 101, 120, 116, 68, 111, 99, 117, 109, 101, 110, 116, 47, 112, 114, 101, 112, 97, 114, 101, 82, 101, 110, 97, 109, 101] : List UInt8)) = false := by
      rw [← hM]
      exact beq_eq_false_iff_ne.2 (fun e => m2 (by unfold mPrep; simpa using e))
    have n3 : (M.toList == ([116, 101, 120, 116, 68, 111, 99, 117, 109, 101, 110, 116, 47, 99, 111, 100, 101, 65, 99, 116, 105, 111, 110] : List UInt8)) = false := by
      rw [← hM]
      exact beq_eq_false_iff_ne.2 (fun e => m3 (by unfold mAct; simpa using e))
    clear hU hNM hp1 hr1 hUR hNR hM m1 m2 m3
    obtain rfl : bad = true := hbd
    go_enter Tryz.func20, Tryz.ntmps20
    go_wp2_with (first
      | (go_at_call 75; refine h75.mono ?_; rintro e w1 ⟨fp, fc, gp, gc, rfl, hkf, _, hb1⟩
         obtain ⟨V1, hV1⟩ : ∃ V, w1.alloc (.cells #[.int .i64 d.kind, .string D, .slice fp d.keys.length fc, .slice gp d.items.length gc] 25) = V := ⟨_, rfl⟩
         have hv1 := alloc_b hV1
         have b1' := Below.on hb1 hv1
         obtain ⟨d0, d1, d2, d3⟩ := box_of hV1 V1 (Below.refl _ _)
         have hA := HU.out V1 _ _ _ _ (hkf.stay hv1))
      | (with_reducible (show Calls _ _ _ V1 _); go_at_call 76; refine hA.mono ?_; rintro e w2 ⟨rfl, hb2⟩
         have b2' := Below.on b1' hb2
         clear c0 c1 c2 c3 d0 d1 d2 d3
         obtain ⟨c0, c1, c2, c3⟩ := HX.out w2 b2'
         have hP := HP.out w2 b2')
      | (go_at_call 81; refine hP.mono ?_; rintro e w3 ⟨rfl, hb3⟩
         obtain ⟨V3, hV3⟩ : ∃ V, w3.alloc (.cells #[.int .i64 p1, .int .i64 p2] 40) = V := ⟨_, rfl⟩
         have hv3 := alloc_b hV3
         have b3' := Below.on b2' (Below.on hb3 hv3)
         have HE3 := Lib.hid (pos_cells hV3)
         clear c0 c1 c2 c3
         obtain ⟨c0, c1, c2, c3⟩ := HX.out V3 b3'
         have hR := HR.out V3 b3')
      | (go_at_call 82; refine hR.mono ?_; rintro e w4 ⟨rfl, hb4⟩
         obtain ⟨V4, hV4⟩ : ∃ V, w4.alloc (.cells #[.int .i64 r1, .int .i64 r2, .int .i64 r3, .int .i64 r4] 115) = V := ⟨_, rfl⟩
         have hv4 := alloc_b hV4
         have hc4 := Below.on hb4 hv4
         have b4' := Below.on b3' hc4
         have HE4 := Lib.hid (span_cells hV4)
         clear c0 c1 c2 c3
         obtain ⟨c0, c1, c2, c3⟩ := HX.out V4 b4'
         have hN := HN.out V4 b4')
      | (with_reducible (show Calls _ _ _ V4 _); go_at_call 76; refine hN.mono ?_; rintro e w5 ⟨rfl, hb5⟩
         have b5' := Below.on b4' hb5
         obtain ⟨y0, y1⟩ := HE3.out w5 (Below.on hc4 hb5)
         obtain ⟨y2, y3, y4, y5⟩ := HE4.out w5 hb5)
      | (refine store_part rfl 42 (.tmp 4) (.tmp 76) rfl (w.heap.size + 1) 0 (.agg #[.int .i64 0, .string ⟨#[]⟩, .int .i64 0, .int .i64 0, .int .i64 0, .int .i64 0, .string ⟨#[]⟩]) [.int .i64 0, .string ⟨#[]⟩, .int .i64 0, .int .i64 0, .int .i64 0, .int .i64 0, .string ⟨#[]⟩] rfl rfl rfl (by kernel_rfl) (fun u hu => by simp only [List.mem_cons, List.not_mem_nil, or_false] at hu; rcases hu with rfl | rfl | rfl | rfl | rfl | rfl | rfl <;> rfl) _ #[.int .i64 0, .string ⟨#[]⟩, .int .i64 0, .int .i64 0, .int .i64 0, .int .i64 0, .string ⟨#[]⟩] 42 (HJ.out w5 b5') (Nat.le_of_ble_eq_true rfl) rfl (fun V9 hV9 hg9 _ => ?_)))
    refine bodyPost_ret (ret_q Tryz.results20 rfl rfl hV9) rfl ?_
    exact ⟨rfl, below_gbz (Below.on HBW.out b5') (by omega) hg9⟩
end Go.Proofs.Ls
