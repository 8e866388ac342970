/- emendref24.IDOf; what a text's version is; the law's same. -/
import Derived.Test.YtaiaiiepbpbmmaaGreatDoorQT
import Derived.Test.YtaiaiiepbpbmmaaGreatDoorZ6
import Derived.Test.YtaiaiiepbpbmmaaGreatDoorI3
namespace Go.Proofs.Rp
open Go.RowKit Go.Maps Go.Lib Go.Proofs.Utf Go.Proofs.Jt Go.Proofs

theorem rfieldA_is {w : World} {x : JV} {S K F : ByteArray} {f : JV} {b : Bool} {kp ip : Option Addr} {kc ic : Nat} (h : KI w x kp kc ip ic) (hS : (⟨x.str.toArray⟩ : ByteArray) = S) (hf : (fieldV x K.data.toList).getD (jn 0) = f) (hb : (fieldV x K.data.toList).isSome = b) (hF : (⟨f.str.toArray⟩ : ByteArray) = F) : ∀ w', Below w.heap.size w w' →
 Calls Tryz.prog 28 #[.agg #[.int .i64 x.kind, .string S, .slice kp x.keys.length kc, .slice ip x.items.length ic], .string K] w' fun e w'' => ∃ fp fc gp gc, e = .returned (.tuple #[.agg #[.int .i64 f.kind, .string F, .slice fp f.keys.length fc, .slice gp f.items.length gc], .bool b]) ∧ KI w'' f fp fc gp gc ∧ f.str.length ≤ maxLen ∧ Below w'.heap.size w' w'' := fun w' hbw => by
 have h1 := rfield_any h K w' hbw
 unfold jval at h1
 rw [hS] at h1
 refine h1.mono ?_
 rintro e w'' ⟨fp, fc, gp, gc, h2, h3, h4, h5⟩
 rw [hf] at h2 h3 h4
 rw [hb] at h2
 exact ⟨fp, fc, gp, gc, by rw [h2, ← hF]; rfl, h3, h4, h5⟩
theorem rfieldK_is {w : World} {Q : Nat → Prop} {x : JV} {S K F : ByteArray} {f : JV} {b : Bool} {kp ip : Option Addr} {kc ic : Nat} (h : KP w Q x kp kc ip ic) (hS : (⟨x.str.toArray⟩ : ByteArray) = S) (hf : (fieldV x K.data.toList).getD (jn 0) = f) (hb : (fieldV x K.data.toList).isSome = b) (hF : (⟨f.str.toArray⟩ : ByteArray) = F) : ∀ w', Below w.heap.size w w' →
 Calls Tryz.prog 28 #[.agg #[.int .i64 x.kind, .string S, .slice kp x.keys.length kc, .slice ip x.items.length ic], .string K] w' fun e w'' => ∃ fp fc gp gc, e = .returned (.tuple #[.agg #[.int .i64 f.kind, .string F, .slice fp f.keys.length fc, .slice gp f.items.length gc], .bool b]) ∧ KP w Q f fp fc gp gc ∧ f.str.length ≤ maxLen ∧ Below w'.heap.size w' w'' := fun w' hbw => by
 have h1 := rfieldK_any h K w' hbw
 unfold jval at h1
 rw [hS] at h1
 refine h1.mono ?_
 rintro e w'' ⟨fp, fc, gp, gc, h2, h3, h4, h5⟩
 rw [hf] at h2 h3 h4
 rw [hb] at h2
 exact ⟨fp, fc, gp, gc, by rw [h2, ← hF]; rfl, h3, h4, h5⟩
theorem par_oks {l : List UInt8} {v : JV} (h : parV l = (v, 0)) : v.ok = true := by
 unfold parV at h
 split at h
 · rename_i h1
   simp only [Prod.mk.injEq] at h
   exact absurd h.2 h1
 · rename_i h1
   obtain ⟨hv, hx⟩ := toks_lx (Classical.not_not.1 h1)
   split at h
   · cases h
   · split at h
     · rename_i w hw
       split at h
       · cases h
       · cases h
         exact ((val_ok _).1 _ _ _ (hx.good hv) hw).1
     · cases h
theorem okL_get : ∀ (l : List JV) (i : Nat) (y : JV), okL l = true → l[i]? = some y → y.ok = true
 | [], _, _, _, h => by cases h
 | x :: t, i, y, h, hy => by
  rw [okL, Bool.and_eq_true] at h
  cases i with
  | zero => obtain rfl := Option.some.inj hy; exact h.1
  | succ i => exact okL_get t i y h.2 hy
/-- what a key of a text has, if it is a string -/
theorem str_get {l : List UInt8} {v : JV} (h : parV l = (v, 0)) (k : List UInt8) (h4 : (getV v k).kind = 4) : getV v k = txtV (getV v k).str := by
 unfold getV at h4 ⊢
 cases hf : fieldV v k with
 | none => rw [hf] at h4; exact absurd h4 (by decide)
 | some y =>
  rw [hf] at h4
  have hy : y.ok = true := by
   unfold fieldV at hf
   split at hf
   · have hok := par_oks h
     cases v with
     | mk a b c d => exact okL_get d _ y (ok_parts hok).2.2.2 hf
   · cases hf
  cases y with
  | mk a b c d =>
   have h1 := (ok_parts hy).1
   obtain rfl : a = 4 := h4
   unfold JV.shaped at h1
   simp only [show ¬ ((4 : Int) = 0 ∨ (4 : Int) = 1 ∨ (4 : Int) = 2) by decide, show ¬ (4 : Int) = 3 by decide, if_false, if_true, Bool.and_eq_true, List.isEmpty_iff] at h1
   show JV.mk 4 b c d = txtV b
   rw [h1.1, h1.2]
   rfl
theorem ver_eq {l : List UInt8} {v : JV} (h : parV l = (v, 0)) (k : List UInt8) : eqV (getV v k) (txtV v20) = (decide ((getV v k).kind = 4) && decide ((getV v k).str = v20)) := by
 cases he : eqV (getV v k) (txtV v20) with
 | true =>
  rw [(eqV_iff _ _).1 he]
  decide
 | false =>
  refine Eq.symm (Bool.eq_false_iff.2 fun hc => ?_)
  simp only [Bool.and_eq_true, decide_eq_true_eq] at hc
  have h1 := str_get h k hc.1
  rw [hc.2] at h1
  rw [(eqV_iff _ _).2 h1] at he
  cases he
set_option maxRecDepth 100000 in
set_option maxHeartbeats 4000000 in
theorem ridOf_any {w : World} {x : JV} {S : ByteArray} {kp ip : Option Addr} {kc ic : Nat} (h : KI w x kp kc ip ic) (hwt : x.wt ≤ 1000000) (hS : (⟨x.str.toArray⟩ : ByteArray) = S) (i : IdV) (hi : idOfV x = i) (I : ByteArray) (hI : (⟨i.s.toArray⟩ : ByteArray) = I) :
 Calls Tryz.prog 96 #[.agg #[.int .i64 x.kind, .string S, .slice kp x.keys.length kc, .slice ip x.items.length ic]] w fun e w' => e = .returned (.agg #[.int .i64 i.k, .int .i64 i.n, .string I]) ∧ Below w.heap.size w w' := by
 obtain ⟨W1, hW1⟩ : ∃ W, w.alloc (.cells #[.int .i64 x.kind, .string S, .slice kp x.keys.length kc, .slice ip x.items.length ic] 25) = W := ⟨_, rfl⟩
 obtain ⟨W, hW⟩ : ∃ W, W1.alloc (.cells #[.int .i64 0, .int .i64 0, .string ⟨#[]⟩] 62) = W := ⟨_, rfl⟩
 have bW1 := alloc_b hW1
 have bW2 := alloc_b hW
 have bW := Below.on bW1 bW2
 have hz1 : W1.heap.size = w.heap.size + 1 := by rw [← hW1]; simp
 obtain ⟨c0, c1, c2, c3⟩ := box_of hW1 W bW2
 have hJ := row_of hW W (Below.refl _ _)
 rw [hz1] at hJ
 obtain ⟨f, hf⟩ : ∃ f, getV x kId = f := ⟨_, rfl⟩
 obtain ⟨b, hb⟩ : ∃ b, hasV x kId = b := ⟨_, rfl⟩
 obtain ⟨F, hF⟩ : ∃ F : ByteArray, (⟨f.str.toArray⟩ : ByteArray) = F := ⟨_, rfl⟩
 have hfs : F.size ≤ 16777216 := by
  have h1 := getV_wt x kId
  rw [hf] at h1
  have h2 := str_wt f
  rw [← hF, arr_size]
  omega
 have hfield := rfieldA_is (K := ⟨#[105, 100]⟩) (h.stay bW) hS hf hb hF W (Below.refl _ _)
 have hint : (if f.kind = 3 then intL F.data.toList else none) = intV f := by rw [← hF]; rfl
 have hid : i = (match intV f with | some n => ⟨1, n, []⟩ | none => if f.kind = 4 then ⟨2, 0, f.str⟩ else id0) := by rw [← hi, ← hf]; rfl
 have HJ : Hid (∀ V, Below W.heap.size W V → RIBox V (w.heap.size + 1)) := Lib.hid fun V hV => ⟨_, _, _, (hV.block _ (ltS hJ)).trans hJ⟩
 have HBW := Lib.hid bW
 have HF := Lib.hid hF
 have HFS := Lib.hid hfs
 have hnone : b = false → f = jn 0 := fun e => by
  subst e
  rw [← hf]
  unfold getV
  unfold hasV at hb
  cases hq : fieldV x kId with
  | none => rfl
  | some y => rw [hq] at hb; cases hb
 subst hW1
 clear h hwt hS hi hf hF hfs hb bW bW1 bW2 hz1 hJ
 cases b with
 | false =>
  obtain rfl := hnone rfl
  obtain rfl : i = id0 := hid
  have hIn : I = ⟨#[]⟩ := hI.symm
  subst hIn
  rw [show id0.k = 0 from rfl, show id0.n = 0 from rfl]
  clear hI hint hnone
  go_enter Tryz.func96, Tryz.ntmps96
  go_wp2_with (first
   | (go_at_call 28; refine hfield.mono ?_; rintro e w1 ⟨fp, fc, gp, gc, rfl, _, _, hb1⟩
      obtain ⟨V1, hV1⟩ : ∃ V, w1.alloc (.cells #[.int .i64 (jn 0).kind, .string F, .slice fp (jn 0).keys.length fc, .slice gp (jn 0).items.length gc] 25) = V := ⟨_, rfl⟩
      have b1 := Below.on hb1 (alloc_b hV1))
   | (refine store_rid rfl (.tmp 2) (.tmp 14) rfl (w.heap.size + 1) rfl (.int .i64 0) (.int .i64 0) (.string ⟨#[]⟩) rfl rfl (HJ.out V1 b1) (fun V hV hgV _ => ?_)))
  refine bodyPost_ret (ret_rid Tryz.results96 rfl hV) rfl ?_
  exact ⟨rfl, below_gbz (Below.on HBW.out b1) (by omega) hgV⟩
 | true =>
  clear hnone
  cases ho : intV f with
  | some n =>
   rw [ho] at hint hid
   subst hid
   have hIn : I = ⟨#[]⟩ := hI.symm
   subst hIn
   dsimp only
   have HI := Lib.hid hint
   clear hI ho hint
   go_enter Tryz.func96, Tryz.ntmps96
   go_wp2_with (first
    | (go_at_call 28; refine hfield.mono ?_; rintro e w1 ⟨fp, fc, gp, gc, rfl, _, _, hb1⟩
       obtain ⟨V1, hV1⟩ : ∃ V, w1.alloc (.cells #[.int .i64 f.kind, .string F, .slice fp f.keys.length fc, .slice gp f.items.length gc] 25) = V := ⟨_, rfl⟩
       have b1 := Below.on hb1 (alloc_b hV1)
       obtain ⟨d0, d1, d2, d3⟩ := box_of hV1 V1 (Below.refl _ _)
       have h30 := rint_any (w := V1) (kp := fp) (ip := gp) (kn := f.keys.length) (kc := fc) (n := f.items.length) (ic := gc) f.kind F HFS.out _ HI.out)
    | (go_at_call 30; refine h30.mono ?_; rintro e w2 ⟨rfl, hb2⟩; have b2 := Below.on b1 hb2)
    | (refine store_rid rfl (.tmp 2) (.tmp 22) rfl (w.heap.size + 1) rfl (.int .i64 1) (.int .i64 n) (.string ⟨#[]⟩) rfl rfl (HJ.out w2 b2) (fun V hV hgV _ => ?_)))
   refine bodyPost_ret (ret_rid Tryz.results96 rfl hV) rfl ?_
   exact ⟨rfl, below_gbz (Below.on HBW.out b2) (by omega) hgV⟩
  | none =>
   rw [ho] at hint hid
   dsimp only at hid
   by_cases k4 : f.kind = 4
   · rw [if_pos k4] at hid
     subst hid
     have hIF : I = F := by rw [← hI, ← HF.out]
     subst hIF
     dsimp only
     have q4 : (f.kind == 4) = true := by rw [k4]; rfl
     have HI := Lib.hid hint
     clear hI ho hint k4
     go_enter Tryz.func96, Tryz.ntmps96
     go_wp2_with (first
      | (go_at_call 28; refine hfield.mono ?_; rintro e w1 ⟨fp, fc, gp, gc, rfl, _, _, hb1⟩
         obtain ⟨V1, hV1⟩ : ∃ V, w1.alloc (.cells #[.int .i64 f.kind, .string I, .slice fp f.keys.length fc, .slice gp f.items.length gc] 25) = V := ⟨_, rfl⟩
         have b1 := Below.on hb1 (alloc_b hV1)
         have HX := Lib.hid (box_of hV1)
         obtain ⟨d0, d1, d2, d3⟩ := HX.out V1 (Below.refl _ _)
         have h30 := rint_any (w := V1) (kp := fp) (ip := gp) (kn := f.keys.length) (kc := fc) (n := f.items.length) (ic := gc) f.kind I HFS.out _ HI.out)
      | (go_at_call 30; refine h30.mono ?_; rintro e w2 ⟨rfl, hb2⟩; have b2 := Below.on b1 hb2; clear d0 d1 d2 d3; obtain ⟨d0, d1, d2, d3⟩ := HX.out w2 hb2)
      | (refine store_rid rfl (.tmp 2) (.tmp 28) rfl (w.heap.size + 1) rfl (.int .i64 2) (.int .i64 0) (.string I) rfl rfl (HJ.out w2 b2) (fun V hV hgV _ => ?_)))
     refine bodyPost_ret (ret_rid Tryz.results96 rfl hV) rfl ?_
     exact ⟨rfl, below_gbz (Below.on HBW.out b2) (by omega) hgV⟩
   · rw [if_neg k4] at hid
     subst hid
     have hIn : I = ⟨#[]⟩ := hI.symm
     subst hIn
     have q4 : (f.kind == 4) = false := beq_eq_false_iff_ne.2 k4
     have HI := Lib.hid hint
     rw [show id0.k = 0 from rfl, show id0.n = 0 from rfl]
     clear hI ho hint k4
     go_enter Tryz.func96, Tryz.ntmps96
     go_wp2_with (first
      | (go_at_call 28; refine hfield.mono ?_; rintro e w1 ⟨fp, fc, gp, gc, rfl, _, _, hb1⟩
         obtain ⟨V1, hV1⟩ : ∃ V, w1.alloc (.cells #[.int .i64 f.kind, .string F, .slice fp f.keys.length fc, .slice gp f.items.length gc] 25) = V := ⟨_, rfl⟩
         have b1 := Below.on hb1 (alloc_b hV1)
         have HX := Lib.hid (box_of hV1)
         obtain ⟨d0, d1, d2, d3⟩ := HX.out V1 (Below.refl _ _)
         have h30 := rint_any (w := V1) (kp := fp) (ip := gp) (kn := f.keys.length) (kc := fc) (n := f.items.length) (ic := gc) f.kind F HFS.out _ HI.out)
      | (go_at_call 30; refine h30.mono ?_; rintro e w2 ⟨rfl, hb2⟩; have b2 := Below.on b1 hb2; clear d0 d1 d2 d3; obtain ⟨d0, d1, d2, d3⟩ := HX.out w2 hb2)
      | (refine store_rid rfl (.tmp 2) (.tmp 29) rfl (w.heap.size + 1) rfl (.int .i64 0) (.int .i64 0) (.string ⟨#[]⟩) rfl rfl (HJ.out w2 b2) (fun V hV hgV _ => ?_)))
     refine bodyPost_ret (ret_rid Tryz.results96 rfl hV) rfl ?_
     exact ⟨rfl, below_gbz (Below.on HBW.out b2) (by omega) hgV⟩
set_option maxRecDepth 100000 in
theorem same_any37 (k n : Int) (S : ByteArray) (w : World) : Calls Tryz.prog 37 #[.agg #[.int .i64 k, .int .i64 n, .string S], .agg #[.int .i64 k, .int .i64 n, .string S]] w fun e w' => e = .returned (.bool true) ∧ Below w.heap.size w w' := by
 obtain ⟨W1, hW1⟩ : ∃ W, w.alloc (.cells #[.int .i64 k, .int .i64 n, .string S] 57) = W := ⟨_, rfl⟩
 obtain ⟨W, hW⟩ : ∃ W, W1.alloc (.cells #[.int .i64 k, .int .i64 n, .string S] 62) = W := ⟨_, rfl⟩
 have b1 := alloc_b hW1
 have b2 := alloc_b hW
 have hz1 : W1.heap.size = w.heap.size + 1 := by rw [← hW1]; simp
 obtain ⟨c0, c1, c2⟩ := box3_of hW1 W b2
 obtain ⟨d0, d1, d2⟩ := box3_of hW W (Below.refl _ _)
 rw [hz1] at d0 d1 d2
 obtain ⟨s1, s2⟩ := str_same S
 have HB := Lib.hid (Below.on b1 b2)
 subst hW1
 clear b1 b2
 go_enter Tryz.func37, Tryz.ntmps37
 go_wp2_with fail
 go_ret
 exact ⟨rfl, HB.out⟩
end Go.Proofs.Rp
