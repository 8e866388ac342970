/- rpc: Result; idOf; params. -/
import Derived.Test.YtaiaiiepbpbmmaaGreatDoorP5
namespace Go.Proofs.Rp
open Go.RowKit Go.Maps Go.Lib Go.Proofs.Utf Go.Proofs.Jt Go.Proofs

theorem digits_len : ∀ (k u : Nat), u < 10 ^ (k + 1) → (decDigits u).length ≤ k + 1
  | 0, u, h => by rw [decDigits, dif_pos (by simpa using h)]; exact Nat.le_refl _
  | k + 1, u, h => by
    rw [decDigits]
    split
    · show 1 ≤ _; omega
    · have := digits_len k (u / 10) (by rw [Nat.pow_succ] at h; omega)
      rw [List.length_append, List.length_singleton]
      omega
theorem itoa_len {n : Int} (h0 : -9223372036854775808 ≤ n) (h1 : n ≤ 9223372036854775807) : (itoa n).length ≤ 21 := by
  unfold itoa
  split
  · rw [List.length_cons]
    have := digits_len 19 n.natAbs (by omega)
    omega
  · have := digits_len 19 n.toNat (by omega)
    omega
theorem val_wt {i : IdV} (h0 : -9223372036854775808 ≤ i.n) (h1 : i.n ≤ 9223372036854775807) : i.val.wt ≤ 100 + i.s.length ∧ i.val.str.length ≤ 100 + i.s.length := by
  have h2 : (itoa i.n).length ≤ 21 := itoa_len h0 h1
  unfold IdV.val
  split
  · unfold numJ
    rw [JV.wt]
    simp only [keysW, wtL, str_mk]
    omega
  · split
    · unfold txtV
      rw [JV.wt]
      simp only [keysW, wtL, str_mk]
      omega
    · unfold jn
      rw [JV.wt]
      simp only [keysW, wtL, str_mk, List.length_nil]
      omega
theorem getV_wt (x : JV) (k : List UInt8) : (getV x k).wt ≤ x.wt := by
  unfold getV
  cases h : fieldV x k with
  | none => have := jv_wt_pos x; exact this
  | some y =>
    unfold fieldV at h
    split at h
    · have := wt_items h
      show y.wt ≤ _
      omega
    · cases h
theorem leaf_ok {w : World} {y : JV} (hk : y.keys = []) (hi : y.items = []) (hl : y.str.length ≤ maxLen) : KI w (leafC y).y (leafC y).kp (leafC y).kc (leafC y).ip (leafC y).ic ∧ (leafC y).y.str.length ≤ maxLen := ⟨ki_leaf hk hi, hl⟩
theorem keys_short {ks : List (List UInt8)} (h : ks.all (fun k => decide (k.length ≤ 100)) = true) : ∀ s ∈ ks, s.length ≤ maxLen := fun s hs => by
  have := of_decide_eq_true (List.all_eq_true.1 h s hs)
  unfold maxLen
  omega
set_option maxRecDepth 100000 in
set_option maxHeartbeats 4000000 in
theorem result_any {w : World} (i : IdV) (S : ByteArray) (hS : (⟨i.s.toArray⟩ : ByteArray) = S) (h0 : -9223372036854775808 ≤ i.n) (h1 : i.n ≤ 9223372036854775807) (his : i.s.length ≤ 100000)
    {v : JV} {T : ByteArray} {kp ip : Option Addr} {kc ic : Nat} (hT : Tabs w) (hTen : TenV w) (hK : KI w v kp kc ip ic) (hwt : v.wt ≤ 100000) (hT2 : (⟨v.str.toArray⟩ : ByteArray) = T) (X : ByteArray) (n : Nat) (hr : resV i v = (X.data.toList, n)) :
    Calls Tryz.prog 43 #[.agg #[.int .i64 i.k, .int .i64 i.n, .string S], .agg #[.int .i64 v.kind, .string T, .slice kp v.keys.length kc, .slice ip v.items.length ic]] w fun e w' => e = .returned (.tuple #[.string X, .int .i64 n]) ∧ Below w.heap.size w w' := by
  obtain ⟨W1, hW1⟩ : ∃ W, w.alloc (.cells #[.int .i64 i.k, .int .i64 i.n, .string S] 57) = W := ⟨_, rfl⟩
  obtain ⟨W, hW⟩ : ∃ W, W1.alloc (.cells #[.int .i64 v.kind, .string T, .slice kp v.keys.length kc, .slice ip v.items.length ic] 25) = W := ⟨_, rfl⟩
  have bW1 := alloc_b hW1
  have bW2 := alloc_b hW
  have bW := Below.on bW1 bW2
  have hz1 : W1.heap.size = w.heap.size + 1 := by rw [← hW1]; simp
  have hbi : ∀ V, Below W.heap.size W V → _ := fun V hV => box3_of hW1 V (Below.on bW2 hV)
  have hbv := box_of hW
  rw [hz1] at hbv
  have HI := Lib.hid hbi
  have HV := Lib.hid hbv
  have HT : Hid (∀ V, Below W.heap.size W V → Tabs V) := Lib.hid fun V hV => hT.below (Below.on bW hV)
  have HTen : Hid (∀ V, Below W.heap.size W V → TenV V) := Lib.hid fun V hV => hTen.below (Below.on bW hV)
  have HK : Hid (∀ V, Below W.heap.size W V → KI V v kp kc ip ic) := Lib.hid fun V hV => hK.stay (Below.on bW hV)
  have HBW := Lib.hid bW
  subst hW1
  obtain ⟨c0, c1, c2⟩ := hbi W (Below.refl _ _)
  have hmay := may_any i S hS W
  cases hm : i.may with
  | false =>
    have hr2 : X = ⟨#[]⟩ ∧ n = 2 := by
      unfold resV at hr
      rw [if_neg (by rw [hm]; simp)] at hr
      exact ⟨ByteArray.ext (Array.toList_inj.1 (congrArg Prod.fst hr).symm), (congrArg Prod.snd hr).symm⟩
    obtain ⟨rfl, rfl⟩ := hr2
    rw [hm] at hmay
    clear hm hr hbi hbv hz1 bW bW1 bW2 hT hTen hK hS hT2 hwt
    go_enter Tryz.func43, Tryz.ntmps43
    go_wp2_with (first | (go_at_call 98; refine hmay.mono ?_; rintro e w1 ⟨rfl, hb1⟩))
    go_ret2
    exact ⟨rfl, Below.on HBW.out hb1⟩
  | true =>
    rw [hm] at hmay
    have hput : putV (resO i v) = (X.data.toList, n) := by
      unfold resV at hr
      rwa [if_pos hm] at hr
    obtain ⟨VS, hVS⟩ : ∃ B : ByteArray, (⟨i.val.str.toArray⟩ : ByteArray) = B := ⟨_, rfl⟩
    obtain ⟨hvk, hvi⟩ := val_nil i
    obtain ⟨hvw, hvl⟩ := val_wt h0 h1
    have HPUT := Lib.hid hput
    have HS := Lib.hid (And.intro hS (And.intro hVS hT2))
    have HN := Lib.hid (And.intro hvk hvi)
    have HBD := Lib.hid (And.intro h0 h1)
    have HWT : Hid ((resO i v).wt ≤ 1000000 ∧ i.val.str.length ≤ maxLen ∧ v.str.length ≤ maxLen) := Lib.hid (by
      have := str_wt v
      refine ⟨?_, ?_, ?_⟩
      · unfold resO
        rw [JV.wt]
        simp only [keysW, wtL, kVer, kId, kResult, List.length_cons, List.length_nil]
        have : (txtV v20).wt = 4 := rfl
        omega
      · unfold maxLen; omega
      · unfold maxLen; omega)
    clear hm hr hput hvk hvi hvw hvl h0 h1 hS hVS hT2 hwt hbi hbv hz1 bW bW1 bW2 hT hTen hK
    go_enter Tryz.func43, Tryz.ntmps43
    go_upto_region 4 with (first
      | (go_at_call 98; refine hmay.mono ?_; rintro e w1 ⟨rfl, hb1⟩)
      | (go_at_call 99; refine (message_new _).mono ?_; rintro e w2 ⟨lo, tb, ob, p1, q1, p2, q2, rfl, hop, hb2⟩; have HOP := Lib.hid hop; have b2 := Below.on hb1 hb2; clear hop))
    clear c0 c1 c2
    obtain ⟨c0, c1, c2⟩ := HI.out w2 b2
    have hval := value_any i S VS HS.out.1 HS.out.2.1 HBD.out.1 HBD.out.2 w2 (HTen.out w2 b2)
    go_upto_region 5 with (first
      | (go_at_call 100; refine hval.mono ?_; rintro e w3 ⟨rfl, hb3⟩
         have had := add_leaf (HOP.out.below hb3) ⟨#[105, 100]⟩ i.val VS HS.out.2.1 HN.out.1 HN.out.2 (by decide) (by decide))
      | (go_at_call 154; refine had.mono ?_; rintro e w4 ⟨rfl, p3, q3, p4, q4, hop4, hb4⟩; have HO4 := Lib.hid hop4; have b14 : Below w1.heap.size w1 w4 := Below.on hb2 hb3 |>.trans hb4; have b4 := Below.on hb1 b14; clear hop4))
    clear c0 c1 c2
    obtain ⟨d0, d1, d2, d3⟩ := HV.out w4 b4
    have had2 := add_any HO4.out ⟨#[114, 101, 115, 117, 108, 116]⟩ ⟨v, kp, kc, ip, ic⟩ T HS.out.2.2 (by decide) (by show 2 ≤ 1000; decide)
    go_upto_region 6 with (first
      | (go_at_call 154; refine had2.mono ?_; rintro e w5 ⟨rfl, p5, q5, p6, q6, hop5, hb5⟩; have HO5 := Lib.hid hop5; have b15 : Below w1.heap.size w1 w5 := b14.trans hb5; have b5 := Below.on hb1 b15; clear hop5))
    have hop5 : OP w1.heap.size w5 lo tb ob [kVer, kId, kResult] [leafC (txtV v20), leafC i.val, ⟨v, kp, kc, ip, ic⟩] p5 q5 p6 q6 := HO5.out
    obtain ⟨o0, o1, o2, o3⟩ := cells4 hop5.ho
    have hki : KI w5 (resO i v) p5 q5 p6 q6 := hop5.ki (fun c hc => by
      simp only [List.mem_cons, List.not_mem_nil, or_false] at hc
      rcases hc with rfl | rfl | rfl
      · exact leaf_ok rfl rfl (by decide)
      · exact leaf_ok HN.out.1 HN.out.2 HWT.out.2.1
      · exact ⟨HK.out w5 b5, HWT.out.2.2⟩) ⟨(by show 3 ≤ maxLen; decide), by decide, keys_short (by decide)⟩
    have h84 : Calls Tryz.prog 84 #[.agg #[.int .i64 6, .string ⟨#[]⟩, .slice p5 3 q5, .slice p6 3 q6]] w5 fun e w'' => e = .returned (.tuple #[.string X, .int .i64 (n : Nat)]) ∧ Below w5.heap.size w5 w'' := put_is (HT.out w5 b5) hki HWT.out.1 (S := ⟨#[]⟩) rfl HPUT.out w5 (Below.refl _ _)
    simp only [List.length_cons, List.length_nil] at o2 o3
    go_wp2_with (first
      | (go_at_call 84; refine h84.mono ?_; rintro e w6 ⟨rfl, hb6⟩))
    go_ret2
    exact ⟨rfl, Below.on HBW.out (Below.on b5 hb6)⟩
set_option maxRecDepth 100000 in
set_option maxHeartbeats 4000000 in
theorem idOf_any {w : World} {x : JV} {S : ByteArray} {kp ip : Option Addr} {kc ic : Nat} (hE : ErrV w) (h : KI w x kp kc ip ic) (hwt : x.wt ≤ 1000000) (hS : (⟨x.str.toArray⟩ : ByteArray) = S) (i : IdV) (hi : idOfV x = i) (b : Bool) (hb : hasV x kId = b) (I : ByteArray) (hI : (⟨i.s.toArray⟩ : ByteArray) = I) :
    Calls Tryz.prog 93 #[.agg #[.int .i64 x.kind, .string S, .slice kp x.keys.length kc, .slice ip x.items.length ic]] w fun e w' => e = .returned (.tuple #[.agg #[.int .i64 i.k, .int .i64 i.n, .string I], .bool b]) ∧ Below w.heap.size w w' := by
  obtain ⟨W1, hW1⟩ : ∃ W, w.alloc (.cells #[.int .i64 x.kind, .string S, .slice kp x.keys.length kc, .slice ip x.items.length ic] 25) = W := ⟨_, rfl⟩
  obtain ⟨W, hW⟩ : ∃ W, W1.alloc (.cells #[.int .i64 0, .int .i64 0, .string ⟨#[]⟩] 57) = W := ⟨_, rfl⟩
  have bW1 := alloc_b hW1
  have bW2 := alloc_b hW
  have bW := Below.on bW1 bW2
  have hz1 : W1.heap.size = w.heap.size + 1 := by rw [← hW1]; simp
  obtain ⟨c0, c1, c2, c3⟩ := box_of hW1 W bW2
  have hJ : IBox W (w.heap.size + 1) := by rw [← hW, ← hz1]; exact IBox.alloc _ _ _ _
  obtain ⟨f, hf⟩ : ∃ f, getV x kId = f := ⟨_, rfl⟩
  obtain ⟨F, hF⟩ : ∃ F : ByteArray, (⟨f.str.toArray⟩ : ByteArray) = F := ⟨_, rfl⟩
  have hfs : F.size ≤ 16777216 := by
    have h1 := getV_wt x kId
    rw [hf] at h1
    have h2 := str_wt f
    rw [← hF, arr_size]
    omega
  have hfield := fieldA_is (K := ⟨#[105, 100]⟩) (h.stay bW) hwt hS hf hb hF W (Below.refl _ _)
  have hint : (if f.kind = 3 then intL F.data.toList else none) = intV f := by rw [← hF]; rfl
  have hid : i = (match intV f with | some n => ⟨1, n, []⟩ | none => if f.kind = 4 then ⟨2, 0, f.str⟩ else id0) := by rw [← hi, ← hf]; rfl
  have HJ := Lib.hid hJ
  have HBW := Lib.hid bW
  have HE : Hid (∀ V, Below W.heap.size W V → ErrV V) := Lib.hid fun V hV => hE.below (Below.on bW hV)
  have HF := Lib.hid hF
  have HFS := Lib.hid hfs
  subst hW1
  clear h hwt hS hi hf hF hfs hb bW bW1 bW2 hz1 hJ hE
  cases ho : intV f with
  | some n =>
    rw [ho] at hint hid
    subst hid
    have hIn : I = ⟨#[]⟩ := hI.symm
    subst hIn
    dsimp only
    have HI := Lib.hid hint
    clear hI ho hint
    go_enter Tryz.func93, Tryz.ntmps93
    go_wp2_with (first
      | (go_at_call 27; refine hfield.mono ?_; rintro e w1 ⟨fp, fc, gp, gc, rfl, _, _, hb1⟩
         obtain ⟨V1, hV1⟩ : ∃ V, w1.alloc (.cells #[.int .i64 f.kind, .string F, .slice fp f.keys.length fc, .slice gp f.items.length gc] 25) = V := ⟨_, rfl⟩
         have b1 := Below.on hb1 (alloc_b hV1)
         obtain ⟨d0, d1, d2, d3⟩ := box_of hV1 V1 (Below.refl _ _)
         have h29 := int_any (kp := fp) (ip := gp) (kn := f.keys.length) (kc := fc) (n := f.items.length) (ic := gc) f.kind F (HE.out V1 b1) HFS.out _ HI.out)
      | (go_at_call 29; refine h29.mono ?_; rintro e w2 ⟨rfl, hb2⟩; have b2 := Below.on b1 hb2; have hj2 : IBox w2 (w.heap.size + 1) := HJ.out.same (b2.block _ HJ.out.lt); have HJ2 := Lib.hid hj2; clear hj2)
      | (refine store_id rfl (.tmp 2) (.tmp 20) rfl (w.heap.size + 1) rfl (.int .i64 1) (.int .i64 n) (.string ⟨#[]⟩) rfl rfl HJ2.out (fun V hV hgV _ => ?_)))
    refine bodyPost_ret (ret_id2 Tryz.results93 rfl rfl hV) rfl ?_
    exact ⟨rfl, below_gbz (Below.on HBW.out b2) (by omega) hgV⟩
  | none =>
    rw [ho] at hint hid
    dsimp only at hid
    by_cases k4 : f.kind = 4
    · rw [if_pos k4] at hid
      subst hid
      have hIF : I = F := by rw [← hI, ← HF.out]
      subst hIF
      dsimp only
      have q4 : (f.kind == 4) = true := by rw [k4]; rfl
      have HI := Lib.hid hint
      clear hI ho hint k4
      go_enter Tryz.func93, Tryz.ntmps93
      go_wp2_with (first
        | (go_at_call 27; refine hfield.mono ?_; rintro e w1 ⟨fp, fc, gp, gc, rfl, _, _, hb1⟩
           obtain ⟨V1, hV1⟩ : ∃ V, w1.alloc (.cells #[.int .i64 f.kind, .string I, .slice fp f.keys.length fc, .slice gp f.items.length gc] 25) = V := ⟨_, rfl⟩
           have hv1 := alloc_b hV1
           have b1 := Below.on hb1 hv1
           have HX := Lib.hid (box_of hV1)
           obtain ⟨d0, d1, d2, d3⟩ := HX.out V1 (Below.refl _ _)
           have h29 := int_any (kp := fp) (ip := gp) (kn := f.keys.length) (kc := fc) (n := f.items.length) (ic := gc) f.kind I (HE.out V1 b1) HFS.out _ HI.out)
        | (go_at_call 29; refine h29.mono ?_; rintro e w2 ⟨rfl, hb2⟩; have b2 := Below.on b1 hb2; have hj2 : IBox w2 (w.heap.size + 1) := HJ.out.same (b2.block _ HJ.out.lt); have HJ2 := Lib.hid hj2; clear hj2; clear d0 d1 d2 d3; obtain ⟨d0, d1, d2, d3⟩ := HX.out w2 hb2)
        | (refine store_id rfl (.tmp 2) (.tmp 27) rfl (w.heap.size + 1) rfl (.int .i64 2) (.int .i64 0) (.string I) rfl rfl HJ2.out (fun V hV hgV _ => ?_)))
      refine bodyPost_ret (ret_id2 Tryz.results93 rfl rfl hV) rfl ?_
      exact ⟨rfl, below_gbz (Below.on HBW.out b2) (by omega) hgV⟩
    · rw [if_neg k4] at hid
      subst hid
      have hIn : I = ⟨#[]⟩ := hI.symm
      subst hIn
      have q4 : (f.kind == 4) = false := beq_eq_false_iff_ne.2 k4
      have HI := Lib.hid hint
      rw [show id0.k = 0 from rfl, show id0.n = 0 from rfl]
      clear hI ho hint k4
      go_enter Tryz.func93, Tryz.ntmps93
      go_wp2_with (first
        | (go_at_call 27; refine hfield.mono ?_; rintro e w1 ⟨fp, fc, gp, gc, rfl, _, _, hb1⟩
           obtain ⟨V1, hV1⟩ : ∃ V, w1.alloc (.cells #[.int .i64 f.kind, .string F, .slice fp f.keys.length fc, .slice gp f.items.length gc] 25) = V := ⟨_, rfl⟩
           have hv1 := alloc_b hV1
           have b1 := Below.on hb1 hv1
           have HX := Lib.hid (box_of hV1)
           obtain ⟨d0, d1, d2, d3⟩ := HX.out V1 (Below.refl _ _)
           have h29 := int_any (kp := fp) (ip := gp) (kn := f.keys.length) (kc := fc) (n := f.items.length) (ic := gc) f.kind F (HE.out V1 b1) HFS.out _ HI.out)
        | (go_at_call 29; refine h29.mono ?_; rintro e w2 ⟨rfl, hb2⟩; have b2 := Below.on b1 hb2; have hj2 : IBox w2 (w.heap.size + 1) := HJ.out.same (b2.block _ HJ.out.lt); have HJ2 := Lib.hid hj2; clear hj2; clear d0 d1 d2 d3; obtain ⟨d0, d1, d2, d3⟩ := HX.out w2 hb2)
        | (refine store_id rfl (.tmp 2) (.tmp 29) rfl (w.heap.size + 1) rfl (.int .i64 0) (.int .i64 0) (.string ⟨#[]⟩) rfl rfl HJ2.out (fun V hV hgV _ => ?_)))
      refine bodyPost_ret (ret_id2 Tryz.results93 rfl rfl hV) rfl ?_
      exact ⟨rfl, below_gbz (Below.on HBW.out b2) (by omega) hgV⟩
set_option maxRecDepth 100000 in
theorem params_any (k : Int) (S : ByteArray) (kp ip : Option Addr) (kn kc n ic : Nat) (w : World) : Calls Tryz.prog 94 #[.agg #[.int .i64 k, .string S, .slice kp kn kc, .slice ip n ic]] w fun e w' => e = .returned (.bool (decide (k = 0) || decide (k = 5) || decide (k = 6))) ∧ Below w.heap.size w w' := by
  obtain ⟨W, hW⟩ : ∃ W, w.alloc (.cells #[.int .i64 k, .string S, .slice kp kn kc, .slice ip n ic] 25) = W := ⟨_, rfl⟩
  have bW := alloc_b hW
  obtain ⟨c0, c1, c2, c3⟩ := box_of hW W (Below.refl _ _)
  have HB := Lib.hid bW
  clear bW
  by_cases k0 : k = 0
  · subst k0
    go_enter Tryz.func94, Tryz.ntmps94
    go_wp2_with fail
    go_ret
    exact ⟨rfl, HB.out⟩
  · have q0 : (k == 0) = false := beq_eq_false_iff_ne.2 k0
    rw [decide_eq_false k0]
    by_cases k5 : k = 5
    · subst k5
      go_enter Tryz.func94, Tryz.ntmps94
      go_wp2_with fail
      go_ret
      exact ⟨rfl, HB.out⟩
    · have q5 : (k == 5) = false := beq_eq_false_iff_ne.2 k5
      rw [decide_eq_false k5]
      by_cases k6 : k = 6
      · subst k6
        go_enter Tryz.func94, Tryz.ntmps94
        go_wp2_with fail
        go_ret
        exact ⟨rfl, HB.out⟩
      · have q6 : (k == 6) = false := beq_eq_false_iff_ne.2 k6
        rw [decide_eq_false k6]
        go_enter Tryz.func94, Tryz.ntmps94
        go_wp2_with fail
        go_ret
        exact ⟨rfl, HB.out⟩
end Go.Proofs.Rp
