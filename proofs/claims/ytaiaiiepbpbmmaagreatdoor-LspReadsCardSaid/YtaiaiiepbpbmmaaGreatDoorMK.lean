/- The reference's Note. Printed by gen_mk.py. -/
import Derived.Test.YtaiaiiepbpbmmaaGreatDoorMH
import Derived.Test.YtaiaiiepbpbmmaaGreatDoorMJ
namespace Go.Proofs.Ls
open Go.RowKit Go.Maps Go.Lib Go.Proofs.Utf Go.Proofs.Jt Go.Proofs

theorem wholeR_or (x : JV) (K : List UInt8) (b : Bool) : wholeR x K b = ((wholeR x K false).1, b || (wholeR x K false).2) := by
  unfold wholeR
  simp only [fldR_or x K 3 b, Bool.or_assoc]
theorem whole_eq {x g : JV} {K : List UInt8} {v : Int} {b : Bool} (h : wholeR x K false = (v, b)) (hg : (fieldV x K).getD (jn 0) = g) : (intV g).getD 0 = v ∧ (!(intV g).isSome) = b ∧ ((intV g).isSome = true → (fieldV x K).isSome = true) := by
  unfold wholeR at h
  cases hq : fieldV x K with
  | none =>
    have e : fldR x K 3 false = (jn 0, true) := by unfold fldR; rw [hq]
    rw [hq] at hg
    obtain rfl : jn 0 = g := hg
    simp only [e, Prod.mk.injEq] at h
    exact ⟨h.1, by rw [← h.2]; rfl, fun e => (by cases e)⟩
  | some y =>
    rw [hq] at hg
    obtain rfl : y = g := hg
    by_cases hk : y.kind = 3
    · have e : fldR x K 3 false = (y, false) := by unfold fldR; rw [hq]; exact if_pos hk
      simp only [e, Prod.mk.injEq] at h
      exact ⟨h.1, by rw [← h.2]; simp, fun _ => rfl⟩
    · have e : fldR x K 3 false = (jn 0, true) := by unfold fldR; rw [hq]; exact if_neg hk
      have e2 : intV y = none := by unfold intV; rw [if_neg hk]
      simp only [e, Prod.mk.injEq] at h
      rw [e2]
      exact ⟨h.1, by rw [← h.2]; rfl, fun e => (by cases e)⟩
theorem name_id {x h : JV} {s : List UInt8} {bn : Bool} (hn : nameR x false = (s, bn)) (hh : (fieldV x kId).getD (jn 0) = h) : ∃ si, idR h.kind h.str = (si, bn) ∧ (bn = false → si = s ∧ (fieldV x kId).isSome = true) := by
  unfold nameR at hn
  unfold idR
  rw [hh] at hn
  rw [show (if h.kind = 3 then intL h.str else none) = intV h from rfl]
  cases ho : intV h with
  | some n =>
    rw [ho] at hn
    simp only [Prod.mk.injEq] at hn
    refine ⟨itoa n, by rw [← hn.2], fun _ => ⟨hn.1, ?_⟩⟩
    cases hq : fieldV x kId with
    | some y => rfl
    | none =>
      rw [hq] at hh
      obtain rfl : jn 0 = h := hh
      cases ho
  | none =>
    rw [ho] at hn
    simp only [Prod.mk.injEq] at hn
    cases hq : fieldV x kId with
    | none =>
      rw [hq] at hh
      obtain rfl : jn 0 = h := hh
      have e : fldR x kId 4 false = (jn 0, true) := by unfold fldR; rw [hq]
      rw [e] at hn
      obtain rfl : true = bn := hn.2
      exact ⟨[], rfl, fun e => (by cases e)⟩
    | some y =>
      rw [hq] at hh
      obtain rfl : y = h := hh
      by_cases hk : y.kind = 4
      · have e : fldR x kId 4 false = (y, false) := by unfold fldR; rw [hq]; exact if_pos hk
        rw [e] at hn
        exact ⟨quoteR y.str, by rw [if_pos hk, ← hn.2]; rfl, fun _ => ⟨hn.1, rfl⟩⟩
      · have e : fldR x kId 4 false = (jn 0, true) := by unfold fldR; rw [hq]; exact if_neg hk
        rw [e] at hn
        obtain rfl : true = bn := hn.2
        exact ⟨[], by rw [if_neg hk], fun e => (by cases e)⟩
theorem note_split {m : List UInt8} {x d u t f : JV} {o : OpV} {v : Int} {s : List UInt8} {cs : List ChV} {bad bd bu bt bw bf bc bn : Bool} (hq : noteR m x = (o, bad)) (hd : fldR x kDoc 6 false = (d, bd)) (hu : fldR d kUri 4 false = (u, bu)) (ht : fldR d kText 4 false = (t, bt)) (hw : wholeR d kVersion false = (v, bw)) (hf : fldR x kChanges 5 false = (f, bf)) (hc : chsR f.items false = (cs, bc)) (hi : nameR x false = (s, bn)) :
    (m = mOpen ∧ o = ⟨1, u.str, t.str, v, [], []⟩ ∧ bad = (bd || bu || bt || bw)) ∨ (m = mChange ∧ o = ⟨2, u.str, [], v, cs, []⟩ ∧ bad = (bd || bu || bw || bf || bc)) ∨ (m = mClose ∧ o = ⟨3, u.str, [], 0, [], []⟩ ∧ bad = (bd || bu)) ∨ (m = mCancel ∧ o = ⟨4, [], [], 0, [], s⟩ ∧ bad = bn) ∨ (¬ m = mOpen ∧ ¬ m = mChange ∧ ¬ m = mClose ∧ ¬ m = mCancel ∧ bad = true) := by
  unfold noteR at hq
  by_cases m1 : m = mOpen
  · rw [if_pos m1] at hq
    simp only [hd, fldR_or d kUri 4 bd, hu, fldR_or d kText 4 (bd || bu), ht, wholeR_or d kVersion (bd || bu || bt), hw, Prod.mk.injEq] at hq
    exact .inl ⟨m1, hq.1.symm, hq.2.symm⟩
  rw [if_neg m1] at hq
  by_cases m2 : m = mChange
  · rw [if_pos m2] at hq
    simp only [hd, fldR_or d kUri 4 bd, hu, wholeR_or d kVersion (bd || bu), hw, fldR_or x kChanges 5 (bd || bu || bw), hf, chsR_or f.items (bd || bu || bw || bf), hc, Prod.mk.injEq] at hq
    exact .inr (.inl ⟨m2, hq.1.symm, hq.2.symm⟩)
  rw [if_neg m2] at hq
  by_cases m3 : m = mClose
  · rw [if_pos m3] at hq
    simp only [hd, fldR_or d kUri 4 bd, hu, Prod.mk.injEq] at hq
    exact .inr (.inr (.inl ⟨m3, hq.1.symm, hq.2.symm⟩))
  rw [if_neg m3] at hq
  by_cases m4 : m = mCancel
  · rw [if_pos m4] at hq
    simp only [hi, Prod.mk.injEq] at hq
    exact .inr (.inr (.inr (.inl ⟨m4, hq.1.symm, hq.2.symm⟩)))
  rw [if_neg m4] at hq
  simp only [Prod.mk.injEq] at hq
  exact .inr (.inr (.inr (.inr ⟨m1, m2, m3, m4, hq.2.symm⟩)))
theorem ret_o36 {fn : Func} {p u : Tmp} (h : fn.results = #[.cell p 36, .tmp u]) {tmps : Array Value} {w : World} {g : Nat} (hp : tmps.getD p undef = .pointer (some ⟨g, 0, none⟩)) {v0 v1 v2 v3 v4 v5 e : Value} (he : tmps.getD u undef = e) (hg : w.heap[g]? = some (.cells #[v0, v1, v2, v3, v4, v5] 36 (0, 0))) :
    (results fn tmps).run Tryz.prog w = .ok (.tuple #[.agg #[v0, v1, v2, v3, v4, v5], e]) w := by
  rw [results_cell_tmp h, hp, he]
  have hl := run_loadVar_row (P := Tryz.prog) w g 36 36 #[v0, v1, v2, v3, v4, v5] (0, 0) _ hg Tryz.underlying36 rfl (by kernel_rfl)
  simp only [asAddr, Sem.run_pure, Result.andThen_ok, hl]
set_option maxRecDepth 100000 in
set_option maxHeartbeats 32000000 in
theorem rnote_any {w : World} {x : JV} {S : ByteArray} {kp ip : Option Addr} {kc ic : Nat} (h : KI w x kp kc ip ic) (hwt : x.wt ≤ 1000000) (hS : (⟨x.str.toArray⟩ : ByteArray) = S) (m : List UInt8) (M : ByteArray) (hM : (⟨m.toArray⟩ : ByteArray) = M) (o : OpV) (bad : Bool) (hn : noteR m x = (o, bad)) :
    Calls Tryz.prog 18 #[.string M, .agg #[.int .i64 x.kind, .string S, .slice kp x.keys.length kc, .slice ip x.items.length ic]] w fun e w' => ∃ v, e = .returned (.tuple #[v, .bool (!bad)]) ∧ OpP w' 140 w.heap.size v (if bad = true then zeroOp else o) ∧ Below w.heap.size w w' := by
  obtain ⟨W1, hW1⟩ : ∃ W, w.alloc (.cells #[.int .i64 x.kind, .string S, .slice kp x.keys.length kc, .slice ip x.items.length ic] 25) = W := ⟨_, rfl⟩
  obtain ⟨W, hW⟩ : ∃ W, W1.alloc (.cells #[.int .i64 0, .string ⟨#[]⟩, .string ⟨#[]⟩, .int .i64 0, .slice none 0 0, .string ⟨#[]⟩] 36) = W := ⟨_, rfl⟩
  have bW1 := alloc_b hW1
  have bW2 := alloc_b hW
  have bW := Below.on bW1 bW2
  have z1 : W1.heap.size = w.heap.size + 1 := by rw [← hW1]; simp
  have z2 : W.heap.size = w.heap.size + 2 := by rw [← hW]; simp; omega
  have hJ := row_at hW
  rw [z1] at hJ
  have HJ : Hid (∀ V, Below W.heap.size W V → V.heap[w.heap.size + 1]? = some (.cells #[.int .i64 0, .string ⟨#[]⟩, .string ⟨#[]⟩, .int .i64 0, .slice none 0 0, .string ⟨#[]⟩] 36 (0, 0))) := Lib.hid fun V hV => (hV.block _ (ltS hJ)).trans hJ
  have HBW := Lib.hid bW
  have HX : Hid (∀ V, Below W.heap.size W V → _) := Lib.hid fun V hV => box_of hW1 V (Below.on bW2 hV)
  obtain ⟨c0, c1, c2, c3⟩ := HX.out W (Below.refl _ _)
  obtain ⟨d, bd, hd⟩ : ∃ f b, fldR x kDoc 6 false = (f, b) := ⟨_, _, rfl⟩
  obtain ⟨D, hD⟩ : ∃ B : ByteArray, (⟨d.str.toArray⟩ : ByteArray) = B := ⟨_, rfl⟩
  obtain ⟨u, bu, hu⟩ : ∃ f b, fldR d kUri 4 false = (f, b) := ⟨_, _, rfl⟩
  obtain ⟨U, hU⟩ : ∃ B : ByteArray, (⟨u.str.toArray⟩ : ByteArray) = B := ⟨_, rfl⟩
  obtain ⟨t, bt, ht⟩ : ∃ f b, fldR d kText 4 false = (f, b) := ⟨_, _, rfl⟩
  obtain ⟨T, hT⟩ : ∃ B : ByteArray, (⟨t.str.toArray⟩ : ByteArray) = B := ⟨_, rfl⟩
  obtain ⟨v, bw, hw⟩ : ∃ n b, wholeR d kVersion false = (n, b) := ⟨_, _, rfl⟩
  obtain ⟨f, bf, hf⟩ : ∃ n b, fldR x kChanges 5 false = (n, b) := ⟨_, _, rfl⟩
  obtain ⟨cs, bc, hc⟩ : ∃ n b, chsR f.items false = (n, b) := ⟨_, _, rfl⟩
  obtain ⟨s, bn, hi⟩ : ∃ n b, nameR x false = (n, b) := ⟨_, _, rfl⟩
  obtain ⟨g, hg⟩ : ∃ g, (fieldV d kVersion).getD (jn 0) = g := ⟨_, rfl⟩
  obtain ⟨G, hG⟩ : ∃ B : ByteArray, (⟨g.str.toArray⟩ : ByteArray) = B := ⟨_, rfl⟩
  obtain ⟨gs, hgs⟩ : ∃ b, (fieldV d kVersion).isSome = b := ⟨_, rfl⟩
  obtain ⟨h', hh⟩ : ∃ g, (fieldV x kId).getD (jn 0) = g := ⟨_, rfl⟩
  obtain ⟨H, hH⟩ : ∃ B : ByteArray, (⟨h'.str.toArray⟩ : ByteArray) = B := ⟨_, rfl⟩
  obtain ⟨hs', hhs⟩ : ∃ b, (fieldV x kId).isSome = b := ⟨_, rfl⟩
  have hwd : d.wt ≤ 1000000 := by have := fldR_wt x kDoc 6 false; rw [hd] at this; exact Nat.le_trans this hwt
  have hgl : G.size ≤ 16777216 := by
    rw [← hG, arr_size, ← hg]
    cases hq : fieldV d kVersion with
    | none => exact Nat.zero_le _
    | some y =>
      have h3 := field_wt hq
      have h4 := str_wt y
      show y.str.length ≤ _
      omega
  have hhl : H.size ≤ 16777216 := by
    rw [← hH, arr_size, ← hh]
    cases hq : fieldV x kId with
    | none => exact Nat.zero_le _
    | some y =>
      have h3 := field_wt hq
      have h4 := str_wt y
      show y.str.length ≤ _
      omega
  obtain ⟨io, hio⟩ : ∃ q, intV g = q := ⟨_, rfl⟩
  have hwe := whole_eq hw hg
  rw [hio, hgs] at hwe
  have hint : (if g.kind = 3 then intL G.data.toList else none) = io := by rw [← hio, ← hG]; rfl
  obtain ⟨si, hsi, hsn⟩ := name_id hi hh
  rw [hhs] at hsn
  have h75 := rwithin75 (h.stay bW) hS ⟨#[116, 101, 120, 116, 68, 111, 99, 117, 109, 101, 110, 116]⟩ d bd hd D hD
  have hk6 : bd = false → x.kind = 6 := fun e => by
    rcases fldR_split hd with ⟨y, q1, _⟩ | ⟨_, _, q⟩ | ⟨_, _, _, _, q⟩
    · unfold fieldV at q1
      split at q1
      · rename_i q2
        exact q2.1
      · cases q1
    · rw [q] at e; cases e
    · rw [q] at e; cases e
  have HU : Hid (∀ (V : World) (fp gp : Option Addr) (fc gc : Nat), KI V d fp fc gp gc → ∀ V', Below V.heap.size V V' → Calls Tryz.prog 76 #[.agg #[.int .i64 d.kind, .string D, .slice fp d.keys.length fc, .slice gp d.items.length gc], .string ⟨#[117, 114, 105]⟩] V' fun e w' => e = .returned (.tuple #[.string U, .bool (!bu)]) ∧ Below V'.heap.size V' w') := Lib.hid fun V fp gp fc gc hk V' hV => rtext76 (hk.stay hV) hD ⟨#[117, 114, 105]⟩ u bu hu U hU
  have HT : Hid (∀ (V : World) (fp gp : Option Addr) (fc gc : Nat), KI V d fp fc gp gc → ∀ V', Below V.heap.size V V' → Calls Tryz.prog 76 #[.agg #[.int .i64 d.kind, .string D, .slice fp d.keys.length fc, .slice gp d.items.length gc], .string ⟨#[116, 101, 120, 116]⟩] V' fun e w' => e = .returned (.tuple #[.string T, .bool (!bt)]) ∧ Below V'.heap.size V' w') := Lib.hid fun V fp gp fc gc hk V' hV => rtext76 (hk.stay hV) hD ⟨#[116, 101, 120, 116]⟩ t bt ht T hT
  have HV : Hid (∀ (V : World) (fp gp : Option Addr) (fc gc : Nat), KI V d fp fc gp gc → ∀ V', Below V.heap.size V V' → Calls Tryz.prog 28 #[.agg #[.int .i64 d.kind, .string D, .slice fp d.keys.length fc, .slice gp d.items.length gc], .string ⟨#[118, 101, 114, 115, 105, 111, 110]⟩] V' fun e w'' => ∃ fp fc gp gc, e = .returned (.tuple #[.agg #[.int .i64 g.kind, .string G, .slice fp g.keys.length fc, .slice gp g.items.length gc], .bool gs]) ∧ Below V'.heap.size V' w'') := Lib.hid fun V fp gp fc gc hk V' hV => (rfW hk hD (K := ⟨#[118, 101, 114, 115, 105, 111, 110]⟩) (f := g) (b := gs) hg hgs hG V' hV).mono fun e w'' ⟨fp, fc, gp, gc, q1, _, _, q2⟩ => ⟨fp, fc, gp, gc, q1, q2⟩
  have HI30 : Hid (∀ (V : World) (fp gp : Option Addr) (fc gc : Nat), Calls Tryz.prog 30 #[.agg #[.int .i64 g.kind, .string G, .slice fp g.keys.length fc, .slice gp g.items.length gc]] V fun e w' => e = .returned (.tuple #[.int .i64 (io.getD 0), .bool io.isSome]) ∧ Below V.heap.size V w') := Lib.hid fun V fp gp fc gc => rint_any g.kind G hgl io hint
  have HCH : Hid (∀ V, Below W.heap.size W V → Calls Tryz.prog 77 #[.agg #[.int .i64 x.kind, .string S, .slice kp x.keys.length kc, .slice ip x.items.length ic]] V fun e w' => ∃ p n c, e = .returned (.tuple #[.slice p n c, .bool (!(bf || bc))]) ∧ ((bf || bc) = false → n = cs.length ∧ w'.ownsRow V.heap.size 140 6 (.slice p cs.length c) cs.length (chC cs)) ∧ Below V.heap.size V w') := Lib.hid fun V hV => rchanges77 (h.stay (Below.on bW hV)) hwt hS f bf hf cs bc hc
  have HID : Hid (∀ V, Below W.heap.size W V → Calls Tryz.prog 28 #[.agg #[.int .i64 x.kind, .string S, .slice kp x.keys.length kc, .slice ip x.items.length ic], .string ⟨#[105, 100]⟩] V fun e w'' => ∃ fp fc gp gc, e = .returned (.tuple #[.agg #[.int .i64 h'.kind, .string H, .slice fp h'.keys.length fc, .slice gp h'.items.length gc], .bool hs']) ∧ Below V.heap.size V w'') := Lib.hid fun V hV => (rfW (h.stay bW) hS (K := ⟨#[105, 100]⟩) (f := h') (b := hs') hh hhs hH V hV).mono fun e w'' ⟨fp, fc, gp, gc, q1, _, _, q2⟩ => ⟨fp, fc, gp, gc, q1, q2⟩
  have H78 : Hid (∀ (V : World) (fp gp : Option Addr) (fc gc : Nat), Calls Tryz.prog 78 #[.agg #[.int .i64 h'.kind, .string H, .slice fp h'.keys.length fc, .slice gp h'.items.length gc]] V fun e w' => ∃ R : ByteArray, e = .returned (.tuple #[.string R, .bool (!bn)]) ∧ (bn = false → R = ⟨si.toArray⟩) ∧ Below V.heap.size V w') := Lib.hid fun V fp gp fc gc => id78 h'.kind H hhl si bn (by rw [← hH]; exact hsi)
  have HSP := Lib.hid (note_split hn hd hu ht hw hf hc hi)
  have HWE := Lib.hid hwe
  have HSN := Lib.hid hsn
  have HEQ := Lib.hid (And.intro hU (And.intro hT hM))
  obtain ⟨Gd, hGd⟩ : ∃ b, (!(bd || bu)) = b := ⟨_, rfl⟩
  have HGD := Lib.hid hGd
  subst hW1
  clear h hwt hS bW1 bW2 bW hJ hD hd hu hw ht hf hc hi hg hG hgs hh hH hhs hwd hgl hhl hio hwe hint hsi hsn hn hU hT hM hGd
  go_enter Tryz.func18, Tryz.ntmps18
  go_upto_region 3 with (first
    | (go_at_call 75; refine h75.mono ?_; rintro e w1 ⟨fp, fc, gp, gc, rfl, hkf, _, hb1⟩
       obtain ⟨V1, hV1⟩ : ∃ V, w1.alloc (.cells #[.int .i64 d.kind, .string D, .slice fp d.keys.length fc, .slice gp d.items.length gc] 25) = V := ⟨_, rfl⟩
       have hv1 := alloc_b hV1
       have b1' := Below.on hb1 hv1
       have HKF : Hid (KI V1 d fp fc gp gc) := Lib.hid (hkf.stay hv1)
       have HDB : Hid (∀ V, Below V1.heap.size V1 V → _) := Lib.hid (box_of hV1)
       obtain ⟨d0, d1, d2, d3⟩ := HDB.out V1 (Below.refl _ _)
       have hA := HU.out V1 _ _ _ _ HKF.out V1 (Below.refl _ _)
       clear hkf)
    | (with_reducible (show Calls _ _ _ V1 _); go_at_call 76; refine hA.mono ?_; rintro e w2 ⟨rfl, hb2⟩
       have b2' := Below.on b1' hb2
       clear c0 c1 c2 c3 d0 d1 d2 d3
       obtain ⟨c0, c1, c2, c3⟩ := HX.out w2 b2'))
  go_cut [10] (fun q wx => q = .bool Gd ∧ wx = w2)
  case first =>
    cases bd with
    | true =>
      obtain rfl : false = Gd := by rw [← HGD.out]; rfl
      by_cases k6 : x.kind = 6
      · have t1 : (x.kind == 6) = true := by simp [k6]
        clear k6
        go_wp2_with fail
        go_meet
        exact ⟨rfl, rfl⟩
      · have t1 : (x.kind == 6) = false := by simp [k6]
        clear k6
        go_wp2_with fail
        go_meet
        exact ⟨rfl, rfl⟩
    | false =>
      have t1 : (x.kind == 6) = true := by simp [hk6 rfl]
      clear hk6
      cases bu with
      | true =>
        obtain rfl : false = Gd := by rw [← HGD.out]; rfl
        go_wp2_with fail
        go_meet
        exact ⟨rfl, rfl⟩
      | false =>
        obtain rfl : true = Gd := by rw [← HGD.out]; rfl
        go_wp2_with fail
        go_meet
        exact ⟨rfl, rfl⟩
  case rest =>
  obtain ⟨rfl, hwx⟩ := hcut
  rw [hwx]
  clear hk6 c0 c1 c2 c3 hwx
  obtain ⟨d0, d1, d2, d3⟩ := HDB.out w2 hb2
  have hB := HV.out V1 _ _ _ _ HKF.out w2 hb2
  go_upto_region 6 with (first
    | (go_at_call 28; refine hB.mono ?_; rintro e w3 ⟨k3, kc3, i3, ic3, rfl, hb3⟩
       obtain ⟨V3, hV3⟩ : ∃ V, w3.alloc (.cells #[.int .i64 g.kind, .string G, .slice k3 g.keys.length kc3, .slice i3 g.items.length ic3] 25) = V := ⟨_, rfl⟩
       have hb3' := Below.on hb3 (alloc_b hV3)
       clear d0 d1 d2 d3
       obtain ⟨d0, d1, d2, d3⟩ := box_of hV3 V3 (Below.refl _ _)
       have hC := HI30.out V3 k3 i3 kc3 ic3)
    | (go_at_call 30; refine hC.mono ?_; rintro e w4 ⟨rfl, hb4⟩
       clear d0 d1 d2 d3
       have b4 := Below.on hb2 (Below.on hb3' hb4)))
  obtain ⟨Wd, hWd⟩ : ∃ b, io.isSome = b := ⟨_, rfl⟩
  have HWD := Lib.hid hWd
  rw [hWd]
  go_cut [14] (fun q wx => q = .bool Wd ∧ wx = w4)
  case first =>
    cases Wd with
    | true =>
      obtain rfl : gs = true := HWE.out.2.2 HWD.out
      go_wp2_with fail
      go_meet
      exact ⟨rfl, rfl⟩
    | false =>
      go_wp2_with fail
      go_meet
      exact ⟨rfl, rfl⟩
  case rest =>
  obtain ⟨rfl, hwx⟩ := hcut
  rw [hwx, HWE.out.1]
  have hbw : (!Wd) = bw := by rw [← HWD.out]; exact HWE.out.2.1
  have b4' := Below.on b1' b4
  have HB4 := Lib.hid b4'
  clear hwx hWd hA hB hC
  rcases HSP.out with ⟨rfl, rfl, hbd⟩ | ⟨rfl, rfl, hbd⟩ | ⟨rfl, rfl, hbd⟩ | ⟨rfl, rfl, hbd⟩ | ⟨m1, m2, m3, m4, hbd⟩
  · obtain rfl : (⟨#[116, 101, 120, 116, 68, 111, 99, 117, 109, 101, 110, 116, 47, 100, 105, 100, 79, 112, 101, 110]⟩ : ByteArray) = M := HEQ.out.2.2
    obtain ⟨d0, d1, d2, d3⟩ := HDB.out w4 b4
    have hD := HT.out V1 _ _ _ _ HKF.out w4 b4
    cases Gd with
    | false =>
      have hbu : (bd || bu) = true := by rw [← Bool.not_not (bd || bu), HGD.out]; rfl
      obtain rfl : bad = true := by rw [hbd]; rw [hbu]; rfl
      clear hbw
      try clear hbd
      try clear hbu
      try clear hbd2
      go_wp2_with (first
        | (go_at_call 76; refine hD.mono ?_; rintro e w5 ⟨rfl, hb5⟩
           have b5 := Below.on b4' hb5)
        | (refine store_part rfl 36 (.tmp 4) (.tmp 116) rfl (w.heap.size + 1) 0 (.agg #[.int .i64 0, .string ⟨#[]⟩, .string ⟨#[]⟩, .int .i64 0, .slice none 0 0, .string ⟨#[]⟩]) [.int .i64 0, .string ⟨#[]⟩, .string ⟨#[]⟩, .int .i64 0, .slice none 0 0, .string ⟨#[]⟩] rfl rfl rfl (by kernel_rfl) (fun u hu => by simp only [List.mem_cons, List.not_mem_nil, or_false] at hu; rcases hu with rfl | rfl | rfl | rfl | rfl | rfl <;> rfl) _ #[.int .i64 0, .string ⟨#[]⟩, .string ⟨#[]⟩, .int .i64 0, .slice none 0 0, .string ⟨#[]⟩] 36 (HJ.out w5 b5) (Nat.le_of_ble_eq_true rfl) rfl (fun V9 hV9 hg9 _ => ?_)))
      refine bodyPost_ret (ret_o36 Tryz.results18 rfl rfl hV9) rfl ?_
      exact ⟨_, rfl, OpP.flat rfl rfl, below_gbz (Below.on HBW.out b5) (by omega) hg9⟩
    | true =>
      have hbu : (bd || bu) = false := by rw [← Bool.not_not (bd || bu), HGD.out]; rfl
      cases bt with
      | true =>
        obtain rfl : bad = true := by rw [hbd]; rw [hbu]; rfl
        clear hbw
        try clear hbd
        try clear hbu
        try clear hbd2
        go_wp2_with (first
          | (go_at_call 76; refine hD.mono ?_; rintro e w5 ⟨rfl, hb5⟩
             have b5 := Below.on b4' hb5)
          | (refine store_part rfl 36 (.tmp 4) (.tmp 116) rfl (w.heap.size + 1) 0 (.agg #[.int .i64 0, .string ⟨#[]⟩, .string ⟨#[]⟩, .int .i64 0, .slice none 0 0, .string ⟨#[]⟩]) [.int .i64 0, .string ⟨#[]⟩, .string ⟨#[]⟩, .int .i64 0, .slice none 0 0, .string ⟨#[]⟩] rfl rfl rfl (by kernel_rfl) (fun u hu => by simp only [List.mem_cons, List.not_mem_nil, or_false] at hu; rcases hu with rfl | rfl | rfl | rfl | rfl | rfl <;> rfl) _ #[.int .i64 0, .string ⟨#[]⟩, .string ⟨#[]⟩, .int .i64 0, .slice none 0 0, .string ⟨#[]⟩] 36 (HJ.out w5 b5) (Nat.le_of_ble_eq_true rfl) rfl (fun V9 hV9 hg9 _ => ?_)))
        refine bodyPost_ret (ret_o36 Tryz.results18 rfl rfl hV9) rfl ?_
        exact ⟨_, rfl, OpP.flat rfl rfl, below_gbz (Below.on HBW.out b5) (by omega) hg9⟩
      | false =>
        cases Wd with
        | false =>
          obtain rfl : bad = true := by rw [hbd]; rw [← hbw, hbu]; rfl
          clear hbw
          try clear hbd
          try clear hbu
          try clear hbd2
          go_wp2_with (first
            | (go_at_call 76; refine hD.mono ?_; rintro e w5 ⟨rfl, hb5⟩
               have b5 := Below.on b4' hb5)
            | (refine store_part rfl 36 (.tmp 4) (.tmp 116) rfl (w.heap.size + 1) 0 (.agg #[.int .i64 0, .string ⟨#[]⟩, .string ⟨#[]⟩, .int .i64 0, .slice none 0 0, .string ⟨#[]⟩]) [.int .i64 0, .string ⟨#[]⟩, .string ⟨#[]⟩, .int .i64 0, .slice none 0 0, .string ⟨#[]⟩] rfl rfl rfl (by kernel_rfl) (fun u hu => by simp only [List.mem_cons, List.not_mem_nil, or_false] at hu; rcases hu with rfl | rfl | rfl | rfl | rfl | rfl <;> rfl) _ #[.int .i64 0, .string ⟨#[]⟩, .string ⟨#[]⟩, .int .i64 0, .slice none 0 0, .string ⟨#[]⟩] 36 (HJ.out w5 b5) (Nat.le_of_ble_eq_true rfl) rfl (fun V9 hV9 hg9 _ => ?_)))
          refine bodyPost_ret (ret_o36 Tryz.results18 rfl rfl hV9) rfl ?_
          exact ⟨_, rfl, OpP.flat rfl rfl, below_gbz (Below.on HBW.out b5) (by omega) hg9⟩
        | true =>
          obtain rfl : bad = false := by rw [hbd]; rw [← hbw, hbu]; rfl
          clear hbw
          try clear hbd
          try clear hbu
          try clear hbd2
          go_wp2_with (first
            | (go_at_call 76; refine hD.mono ?_; rintro e w5 ⟨rfl, hb5⟩
               have b5 := Below.on b4' hb5)
            | (refine store_part rfl 36 (.tmp 4) (.tmp 74) rfl (w.heap.size + 1) 0 (.agg #[.int .i64 1, .string U, .string T, .int .i64 v, .slice none 0 0, .string ⟨#[]⟩]) [.int .i64 1, .string U, .string T, .int .i64 v, .slice none 0 0, .string ⟨#[]⟩] rfl rfl rfl (by kernel_rfl) (fun u hu => by simp only [List.mem_cons, List.not_mem_nil, or_false] at hu; rcases hu with rfl | rfl | rfl | rfl | rfl | rfl <;> rfl) _ #[.int .i64 1, .string U, .string T, .int .i64 v, .slice none 0 0, .string ⟨#[]⟩] 36 (HJ.out w5 b5) (Nat.le_of_ble_eq_true rfl) rfl (fun V9 hV9 hg9 _ => ?_)))
          refine bodyPost_ret (ret_o36 Tryz.results18 rfl rfl hV9) rfl ?_
          exact ⟨_, rfl, OpP.flat rfl (by dsimp only [if_neg, Bool.false_eq_true]; rw [← HEQ.out.1, ← HEQ.out.2.1]), below_gbz (Below.on HBW.out b5) (by omega) hg9⟩
  · obtain rfl : (⟨#[116, 101, 120, 116, 68, 111, 99, 117, 109, 101, 110, 116, 47, 100, 105, 100, 67, 104, 97, 110, 103, 101]⟩ : ByteArray) = M := HEQ.out.2.2
    obtain ⟨c0, c1, c2, c3⟩ := HX.out w4 b4'
    have hD := HCH.out w4 b4'
    obtain ⟨bq, hbq⟩ : ∃ b, (bf || bc) = b := ⟨_, rfl⟩
    rw [hbq] at hD
    have hbd2 : bad = (bd || bu || bw || bq) := by rw [hbd, ← hbq]; simp only [Bool.or_assoc]
    cases Gd with
    | false =>
      have hbu : (bd || bu) = true := by rw [← Bool.not_not (bd || bu), HGD.out]; rfl
      obtain rfl : bad = true := by rw [hbd2]; rw [hbu]; rfl
      clear hbw
      try clear hbd
      try clear hbu
      try clear hbd2
      go_wp2_with (first
        | (go_at_call 77; refine hD.mono ?_; rintro e w5 ⟨p, n, c, rfl, _, hb5⟩
           have b5 := Below.on b4' hb5)
        | (refine store_part rfl 36 (.tmp 4) (.tmp 116) rfl (w.heap.size + 1) 0 (.agg #[.int .i64 0, .string ⟨#[]⟩, .string ⟨#[]⟩, .int .i64 0, .slice none 0 0, .string ⟨#[]⟩]) [.int .i64 0, .string ⟨#[]⟩, .string ⟨#[]⟩, .int .i64 0, .slice none 0 0, .string ⟨#[]⟩] rfl rfl rfl (by kernel_rfl) (fun u hu => by simp only [List.mem_cons, List.not_mem_nil, or_false] at hu; rcases hu with rfl | rfl | rfl | rfl | rfl | rfl <;> rfl) _ #[.int .i64 0, .string ⟨#[]⟩, .string ⟨#[]⟩, .int .i64 0, .slice none 0 0, .string ⟨#[]⟩] 36 (HJ.out w5 b5) (Nat.le_of_ble_eq_true rfl) rfl (fun V9 hV9 hg9 _ => ?_)))
      refine bodyPost_ret (ret_o36 Tryz.results18 rfl rfl hV9) rfl ?_
      exact ⟨_, rfl, OpP.flat rfl rfl, below_gbz (Below.on HBW.out b5) (by omega) hg9⟩
    | true =>
      have hbu : (bd || bu) = false := by rw [← Bool.not_not (bd || bu), HGD.out]; rfl
      cases bq with
      | true =>
        obtain rfl : bad = true := by rw [hbd2]; rw [Bool.or_true]
        clear hbw
        try clear hbd
        try clear hbu
        try clear hbd2
        go_wp2_with (first
          | (go_at_call 77; refine hD.mono ?_; rintro e w5 ⟨p, n, c, rfl, _, hb5⟩
             have b5 := Below.on b4' hb5)
          | (refine store_part rfl 36 (.tmp 4) (.tmp 116) rfl (w.heap.size + 1) 0 (.agg #[.int .i64 0, .string ⟨#[]⟩, .string ⟨#[]⟩, .int .i64 0, .slice none 0 0, .string ⟨#[]⟩]) [.int .i64 0, .string ⟨#[]⟩, .string ⟨#[]⟩, .int .i64 0, .slice none 0 0, .string ⟨#[]⟩] rfl rfl rfl (by kernel_rfl) (fun u hu => by simp only [List.mem_cons, List.not_mem_nil, or_false] at hu; rcases hu with rfl | rfl | rfl | rfl | rfl | rfl <;> rfl) _ #[.int .i64 0, .string ⟨#[]⟩, .string ⟨#[]⟩, .int .i64 0, .slice none 0 0, .string ⟨#[]⟩] 36 (HJ.out w5 b5) (Nat.le_of_ble_eq_true rfl) rfl (fun V9 hV9 hg9 _ => ?_)))
        refine bodyPost_ret (ret_o36 Tryz.results18 rfl rfl hV9) rfl ?_
        exact ⟨_, rfl, OpP.flat rfl rfl, below_gbz (Below.on HBW.out b5) (by omega) hg9⟩
      | false =>
        cases Wd with
        | false =>
          obtain rfl : bad = true := by rw [hbd2]; rw [← hbw, hbu]; rfl
          clear hbw
          try clear hbd
          try clear hbu
          try clear hbd2
          go_wp2_with (first
            | (go_at_call 77; refine hD.mono ?_; rintro e w5 ⟨p, n, c, rfl, _, hb5⟩
               have b5 := Below.on b4' hb5)
            | (refine store_part rfl 36 (.tmp 4) (.tmp 116) rfl (w.heap.size + 1) 0 (.agg #[.int .i64 0, .string ⟨#[]⟩, .string ⟨#[]⟩, .int .i64 0, .slice none 0 0, .string ⟨#[]⟩]) [.int .i64 0, .string ⟨#[]⟩, .string ⟨#[]⟩, .int .i64 0, .slice none 0 0, .string ⟨#[]⟩] rfl rfl rfl (by kernel_rfl) (fun u hu => by simp only [List.mem_cons, List.not_mem_nil, or_false] at hu; rcases hu with rfl | rfl | rfl | rfl | rfl | rfl <;> rfl) _ #[.int .i64 0, .string ⟨#[]⟩, .string ⟨#[]⟩, .int .i64 0, .slice none 0 0, .string ⟨#[]⟩] 36 (HJ.out w5 b5) (Nat.le_of_ble_eq_true rfl) rfl (fun V9 hV9 hg9 _ => ?_)))
          refine bodyPost_ret (ret_o36 Tryz.results18 rfl rfl hV9) rfl ?_
          exact ⟨_, rfl, OpP.flat rfl rfl, below_gbz (Below.on HBW.out b5) (by omega) hg9⟩
        | true =>
          obtain rfl : bad = false := by rw [hbd2]; rw [← hbw, hbu]; rfl
          clear hbw
          try clear hbd
          try clear hbu
          try clear hbd2
          go_wp2_with (first
            | (go_at_call 77; refine hD.mono ?_; rintro e w5 ⟨p, n, c, rfl, hrw, hb5⟩; obtain ⟨rfl, hrow⟩ := hrw rfl; have HROW := Lib.hid hrow; clear hrow hrw
               have b5 := Below.on b4' hb5)
            | (refine store_part rfl 36 (.tmp 4) (.tmp 92) rfl (w.heap.size + 1) 0 (.agg #[.int .i64 2, .string U, .string ⟨#[]⟩, .int .i64 v, .slice p cs.length c, .string ⟨#[]⟩]) [.int .i64 2, .string U, .string ⟨#[]⟩, .int .i64 v, .slice p cs.length c, .string ⟨#[]⟩] rfl rfl rfl (by kernel_rfl) (fun u hu => by simp only [List.mem_cons, List.not_mem_nil, or_false] at hu; rcases hu with rfl | rfl | rfl | rfl | rfl | rfl <;> rfl) _ #[.int .i64 2, .string U, .string ⟨#[]⟩, .int .i64 v, .slice p cs.length c, .string ⟨#[]⟩] 36 (HJ.out w5 b5) (Nat.le_of_ble_eq_true rfl) rfl (fun V9 hV9 hg9 _ => ?_)))
          refine bodyPost_ret (ret_o36 Tryz.results18 rfl rfl hV9) rfl ?_
          have hs5 := (Below.on HBW.out HB4.out).size
          have hsW := HB4.out.size
          exact ⟨_, rfl, ⟨p, c, by rw [← HEQ.out.1], row_low (row_fr HROW.out (FrP.of (P := fun q => q = w.heap.size + 1) hg9 rfl) (fun q hq e => by have := row_lt HROW.out hq; omega)) (by omega)⟩, below_gbz (Below.on HBW.out b5) (by omega) hg9⟩
  · obtain rfl : (⟨#[116, 101, 120, 116, 68, 111, 99, 117, 109, 101, 110, 116, 47, 100, 105, 100, 67, 108, 111, 115, 101]⟩ : ByteArray) = M := HEQ.out.2.2
    cases Gd with
    | false =>
      have hbu : (bd || bu) = true := by rw [← Bool.not_not (bd || bu), HGD.out]; rfl
      obtain rfl : bad = true := by rw [hbd]; exact hbu
      clear hbw
      try clear hbd
      try clear hbu
      try clear hbd2
      go_wp2_with (first
        | fail
        | (refine store_part rfl 36 (.tmp 4) (.tmp 116) rfl (w.heap.size + 1) 0 (.agg #[.int .i64 0, .string ⟨#[]⟩, .string ⟨#[]⟩, .int .i64 0, .slice none 0 0, .string ⟨#[]⟩]) [.int .i64 0, .string ⟨#[]⟩, .string ⟨#[]⟩, .int .i64 0, .slice none 0 0, .string ⟨#[]⟩] rfl rfl rfl (by kernel_rfl) (fun u hu => by simp only [List.mem_cons, List.not_mem_nil, or_false] at hu; rcases hu with rfl | rfl | rfl | rfl | rfl | rfl <;> rfl) _ #[.int .i64 0, .string ⟨#[]⟩, .string ⟨#[]⟩, .int .i64 0, .slice none 0 0, .string ⟨#[]⟩] 36 (HJ.out w4 b4') (Nat.le_of_ble_eq_true rfl) rfl (fun V9 hV9 hg9 _ => ?_)))
      refine bodyPost_ret (ret_o36 Tryz.results18 rfl rfl hV9) rfl ?_
      exact ⟨_, rfl, OpP.flat rfl rfl, below_gbz (Below.on HBW.out b4') (by omega) hg9⟩
    | true =>
      have hbu : (bd || bu) = false := by rw [← Bool.not_not (bd || bu), HGD.out]; rfl
      obtain rfl : bad = false := by rw [hbd]; exact hbu
      clear hbw
      try clear hbd
      try clear hbu
      try clear hbd2
      go_wp2_with (first
        | fail
        | (refine store_part rfl 36 (.tmp 4) (.tmp 97) rfl (w.heap.size + 1) 0 (.agg #[.int .i64 3, .string U, .string ⟨#[]⟩, .int .i64 0, .slice none 0 0, .string ⟨#[]⟩]) [.int .i64 3, .string U, .string ⟨#[]⟩, .int .i64 0, .slice none 0 0, .string ⟨#[]⟩] rfl rfl rfl (by kernel_rfl) (fun u hu => by simp only [List.mem_cons, List.not_mem_nil, or_false] at hu; rcases hu with rfl | rfl | rfl | rfl | rfl | rfl <;> rfl) _ #[.int .i64 3, .string U, .string ⟨#[]⟩, .int .i64 0, .slice none 0 0, .string ⟨#[]⟩] 36 (HJ.out w4 b4') (Nat.le_of_ble_eq_true rfl) rfl (fun V9 hV9 hg9 _ => ?_)))
      refine bodyPost_ret (ret_o36 Tryz.results18 rfl rfl hV9) rfl ?_
      exact ⟨_, rfl, OpP.flat rfl (by rw [← HEQ.out.1]), below_gbz (Below.on HBW.out b4') (by omega) hg9⟩
  · obtain rfl : (⟨#[36, 47, 99, 97, 110, 99, 101, 108, 82, 101, 113, 117, 101, 115, 116]⟩ : ByteArray) = M := HEQ.out.2.2
    obtain ⟨c0, c1, c2, c3⟩ := HX.out w4 b4'
    have hD := HID.out w4 b4'
    cases bn with
    | true =>
      cases hs' with
      | true =>
        obtain rfl : bad = true := hbd
        clear hbw
        try clear hbd
        try clear hbu
        try clear hbd2
        go_wp2_with (first
          | (with_reducible (show Calls _ _ _ w4 _); go_at_call 28; refine hD.mono ?_; rintro e w5 ⟨k4, kc4, i4, ic4, rfl, hb5⟩
             obtain ⟨V5, hV5⟩ : ∃ V, w5.alloc (.cells #[.int .i64 h'.kind, .string H, .slice k4 h'.keys.length kc4, .slice i4 h'.items.length ic4] 25) = V := ⟨_, rfl⟩
             have hb5' := Below.on hb5 (alloc_b hV5)
             obtain ⟨d0, d1, d2, d3⟩ := box_of hV5 V5 (Below.refl _ _)
             have hF := H78.out V5 k4 i4 kc4 ic4)
          | (go_at_call 78; refine hF.mono ?_; rintro e w6 ⟨R, rfl, hR, hb6⟩
             have HR := Lib.hid hR
             clear hR
             have b6 := Below.on b4' (Below.on hb5' hb6))
          | (refine store_part rfl 36 (.tmp 4) (.tmp 116) rfl (w.heap.size + 1) 0 (.agg #[.int .i64 0, .string ⟨#[]⟩, .string ⟨#[]⟩, .int .i64 0, .slice none 0 0, .string ⟨#[]⟩]) [.int .i64 0, .string ⟨#[]⟩, .string ⟨#[]⟩, .int .i64 0, .slice none 0 0, .string ⟨#[]⟩] rfl rfl rfl (by kernel_rfl) (fun u hu => by simp only [List.mem_cons, List.not_mem_nil, or_false] at hu; rcases hu with rfl | rfl | rfl | rfl | rfl | rfl <;> rfl) _ #[.int .i64 0, .string ⟨#[]⟩, .string ⟨#[]⟩, .int .i64 0, .slice none 0 0, .string ⟨#[]⟩] 36 (HJ.out w6 b6) (Nat.le_of_ble_eq_true rfl) rfl (fun V9 hV9 hg9 _ => ?_)))
        refine bodyPost_ret (ret_o36 Tryz.results18 rfl rfl hV9) rfl ?_
        exact ⟨_, rfl, OpP.flat rfl rfl, below_gbz (Below.on HBW.out b6) (by omega) hg9⟩
      | false =>
        obtain rfl : bad = true := hbd
        clear hbw
        try clear hbd
        try clear hbu
        try clear hbd2
        go_wp2_with (first
          | (with_reducible (show Calls _ _ _ w4 _); go_at_call 28; refine hD.mono ?_; rintro e w5 ⟨k4, kc4, i4, ic4, rfl, hb5⟩
             obtain ⟨V5, hV5⟩ : ∃ V, w5.alloc (.cells #[.int .i64 h'.kind, .string H, .slice k4 h'.keys.length kc4, .slice i4 h'.items.length ic4] 25) = V := ⟨_, rfl⟩
             have hb5' := Below.on hb5 (alloc_b hV5)
             obtain ⟨d0, d1, d2, d3⟩ := box_of hV5 V5 (Below.refl _ _)
             have hF := H78.out V5 k4 i4 kc4 ic4)
          | (go_at_call 78; refine hF.mono ?_; rintro e w6 ⟨R, rfl, hR, hb6⟩
             have HR := Lib.hid hR
             clear hR
             have b6 := Below.on b4' (Below.on hb5' hb6))
          | (refine store_part rfl 36 (.tmp 4) (.tmp 116) rfl (w.heap.size + 1) 0 (.agg #[.int .i64 0, .string ⟨#[]⟩, .string ⟨#[]⟩, .int .i64 0, .slice none 0 0, .string ⟨#[]⟩]) [.int .i64 0, .string ⟨#[]⟩, .string ⟨#[]⟩, .int .i64 0, .slice none 0 0, .string ⟨#[]⟩] rfl rfl rfl (by kernel_rfl) (fun u hu => by simp only [List.mem_cons, List.not_mem_nil, or_false] at hu; rcases hu with rfl | rfl | rfl | rfl | rfl | rfl <;> rfl) _ #[.int .i64 0, .string ⟨#[]⟩, .string ⟨#[]⟩, .int .i64 0, .slice none 0 0, .string ⟨#[]⟩] 36 (HJ.out w6 b6) (Nat.le_of_ble_eq_true rfl) rfl (fun V9 hV9 hg9 _ => ?_)))
        refine bodyPost_ret (ret_o36 Tryz.results18 rfl rfl hV9) rfl ?_
        exact ⟨_, rfl, OpP.flat rfl rfl, below_gbz (Below.on HBW.out b6) (by omega) hg9⟩
    | false =>
      obtain rfl : hs' = true := (HSN.out rfl).2
      obtain rfl : bad = false := hbd
      clear hbw
      try clear hbd
      try clear hbu
      try clear hbd2
      go_wp2_with (first
        | (with_reducible (show Calls _ _ _ w4 _); go_at_call 28; refine hD.mono ?_; rintro e w5 ⟨k4, kc4, i4, ic4, rfl, hb5⟩
           obtain ⟨V5, hV5⟩ : ∃ V, w5.alloc (.cells #[.int .i64 h'.kind, .string H, .slice k4 h'.keys.length kc4, .slice i4 h'.items.length ic4] 25) = V := ⟨_, rfl⟩
           have hb5' := Below.on hb5 (alloc_b hV5)
           obtain ⟨d0, d1, d2, d3⟩ := box_of hV5 V5 (Below.refl _ _)
           have hF := H78.out V5 k4 i4 kc4 ic4)
        | (go_at_call 78; refine hF.mono ?_; rintro e w6 ⟨R, rfl, hR, hb6⟩
           have HR := Lib.hid hR
           clear hR
           have b6 := Below.on b4' (Below.on hb5' hb6))
        | (refine store_part rfl 36 (.tmp 4) (.tmp 115) rfl (w.heap.size + 1) 0 (.agg #[.int .i64 4, .string ⟨#[]⟩, .string ⟨#[]⟩, .int .i64 0, .slice none 0 0, .string R]) [.int .i64 4, .string ⟨#[]⟩, .string ⟨#[]⟩, .int .i64 0, .slice none 0 0, .string R] rfl rfl rfl (by kernel_rfl) (fun u hu => by simp only [List.mem_cons, List.not_mem_nil, or_false] at hu; rcases hu with rfl | rfl | rfl | rfl | rfl | rfl <;> rfl) _ #[.int .i64 4, .string ⟨#[]⟩, .string ⟨#[]⟩, .int .i64 0, .slice none 0 0, .string R] 36 (HJ.out w6 b6) (Nat.le_of_ble_eq_true rfl) rfl (fun V9 hV9 hg9 _ => ?_)))
      refine bodyPost_ret (ret_o36 Tryz.results18 rfl rfl hV9) rfl ?_
      exact ⟨_, rfl, OpP.flat rfl (by rw [HR.out (by simp), (HSN.out (by simp)).1]), below_gbz (Below.on HBW.out b6) (by omega) hg9⟩
  · have n1 := meth_ne HEQ.out.2.2 m1
    have n2 := meth_ne HEQ.out.2.2 m2
    have n3 := meth_ne HEQ.out.2.2 m3
    have n4 := meth_ne HEQ.out.2.2 m4
    unfold mOpen at n1
    unfold mChange at n2
    unfold mClose at n3
    unfold mCancel at n4
    obtain rfl : bad = true := hbd
    clear hbw
    try clear hbd
    try clear hbu
    try clear hbd2
    go_wp2_with (first
      | fail
      | (refine store_part rfl 36 (.tmp 4) (.tmp 116) rfl (w.heap.size + 1) 0 (.agg #[.int .i64 0, .string ⟨#[]⟩, .string ⟨#[]⟩, .int .i64 0, .slice none 0 0, .string ⟨#[]⟩]) [.int .i64 0, .string ⟨#[]⟩, .string ⟨#[]⟩, .int .i64 0, .slice none 0 0, .string ⟨#[]⟩] rfl rfl rfl (by kernel_rfl) (fun u hu => by simp only [List.mem_cons, List.not_mem_nil, or_false] at hu; rcases hu with rfl | rfl | rfl | rfl | rfl | rfl <;> rfl) _ #[.int .i64 0, .string ⟨#[]⟩, .string ⟨#[]⟩, .int .i64 0, .slice none 0 0, .string ⟨#[]⟩] 36 (HJ.out w4 b4') (Nat.le_of_ble_eq_true rfl) rfl (fun V9 hV9 hg9 _ => ?_)))
    refine bodyPost_ret (ret_o36 Tryz.results18 rfl rfl hV9) rfl ?_
    exact ⟨_, rfl, OpP.flat rfl rfl, below_gbz (Below.on HBW.out b4') (by omega) hg9⟩
end Go.Proofs.Ls
