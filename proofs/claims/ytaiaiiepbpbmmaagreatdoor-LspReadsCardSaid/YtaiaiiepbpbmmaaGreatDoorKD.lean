/- Merged texts: LR, LS. -/
import Derived.Test.YtaiaiiepbpbmmaaGreatDoorKA
import Derived.Test.YtaiaiiepbpbmmaaGreatDoorZ6
import Derived.Test.YtaiaiiepbpbmmaaGreatDoorI3
/- LR: the reference's reader of params: text, within. -/
namespace Go.Proofs.Ls
open Go.RowKit Go.Maps Go.Lib Go.Proofs.Utf Go.Proofs.Jt Go.Proofs

/-- the reference's Field: what it gives lies where the value lies -/
theorem rfW {w : World} {x : JV} {S K F : ByteArray} {f : JV} {b : Bool} {kp ip : Option Addr} {kc ic : Nat} (h : KI w x kp kc ip ic) (hS : (⟨x.str.toArray⟩ : ByteArray) = S) (hf : (fieldV x K.data.toList).getD (jn 0) = f) (hb : (fieldV x K.data.toList).isSome = b) (hF : (⟨f.str.toArray⟩ : ByteArray) = F) : ∀ w', Below w.heap.size w w' →
    Calls Tryz.prog 28 #[.agg #[.int .i64 x.kind, .string S, .slice kp x.keys.length kc, .slice ip x.items.length ic], .string K] w' fun e w'' => ∃ fp fc gp gc, e = .returned (.tuple #[.agg #[.int .i64 f.kind, .string F, .slice fp f.keys.length fc, .slice gp f.items.length gc], .bool b]) ∧ KI w f fp fc gp gc ∧ f.str.length ≤ maxLen ∧ Below w'.heap.size w' w'' := fun w' hbw => by
  cases h with
  | mk _ _ _ _ _ fp fc gp gc hk hz hi hh =>
    have h1 := rfield_gen (kc := kc) (ic := ic) (KI w) (KP.leaf _ (fun _ => True) _ _).ki fp fc gp gc hk hz hi hh K w' hbw
    unfold jval at h1
    rw [hS] at h1
    refine h1.mono ?_
    rintro e w'' ⟨fp, fc, gp, gc, h2, h3, h4, h5⟩
    rw [hf] at h2 h3 h4
    rw [hb] at h2
    exact ⟨fp, fc, gp, gc, by rw [h2, ← hF]; rfl, h3, h4, h5⟩
/-- what a field of a kind is, by what Field says -/
theorem fldR_split {x : JV} {K : List UInt8} {k : Int} {f : JV} {b : Bool} (hf : fldR x K k false = (f, b)) : (∃ y, fieldV x K = some y ∧ y.kind = k ∧ f = y ∧ b = false) ∨ (fieldV x K = none ∧ f = jn 0 ∧ b = true) ∨ (∃ y, fieldV x K = some y ∧ ¬ y.kind = k ∧ f = jn 0 ∧ b = true) := by
  unfold fldR at hf
  cases hq : fieldV x K with
  | none =>
    rw [hq] at hf
    simp only [Prod.mk.injEq] at hf
    exact .inr (.inl ⟨rfl, hf.1.symm, hf.2.symm⟩)
  | some y =>
    rw [hq] at hf
    dsimp only at hf
    by_cases hk : y.kind = k
    · rw [if_pos hk] at hf
      simp only [Prod.mk.injEq] at hf
      exact .inl ⟨y, rfl, hk, hf.1.symm, hf.2.symm⟩
    · rw [if_neg hk] at hf
      simp only [Prod.mk.injEq] at hf
      exact .inr (.inr ⟨y, rfl, hk, hf.1.symm, hf.2.symm⟩)
set_option maxRecDepth 100000 in
set_option maxHeartbeats 8000000 in
theorem rtext76 {w : World} {x : JV} {S : ByteArray} {kp ip : Option Addr} {kc ic : Nat} (h : KI w x kp kc ip ic) (hS : (⟨x.str.toArray⟩ : ByteArray) = S) (K : ByteArray) (f : JV) (b : Bool) (hf : fldR x K.data.toList 4 false = (f, b)) (F : ByteArray) (hF : (⟨f.str.toArray⟩ : ByteArray) = F) :
    Calls Tryz.prog 76 #[.agg #[.int .i64 x.kind, .string S, .slice kp x.keys.length kc, .slice ip x.items.length ic], .string K] w fun e w' => e = .returned (.tuple #[.string F, .bool (!b)]) ∧ Below w.heap.size w w' := by
  obtain ⟨W, hW⟩ : ∃ W, w.alloc (.cells #[.int .i64 x.kind, .string S, .slice kp x.keys.length kc, .slice ip x.items.length ic] 25) = W := ⟨_, rfl⟩
  have bW := alloc_b hW
  obtain ⟨c0, c1, c2, c3⟩ := box_of hW W (Below.refl _ _)
  have HBW := Lib.hid bW
  rcases fldR_split hf with ⟨y, h1, h2, rfl, rfl⟩ | ⟨h1, rfl, rfl⟩ | ⟨y, h1, h2, rfl, rfl⟩
  · have hfield := rfW (h.stay bW) hS (K := K) (f := f) (b := true) (by rw [h1]; rfl) (by rw [h1]; rfl) hF W (Below.refl _ _)
    have t1 : (f.kind != 4) = false := by simp [h2]
    clear h hS hf hF h1 h2 bW
    go_enter Tryz.func76, Tryz.ntmps76
    go_wp2_with (first
      | (go_at_call 28; refine hfield.mono ?_; rintro e w1 ⟨fp, fc, gp, gc, rfl, _, _, hb1⟩
         obtain ⟨V1, hV1⟩ : ∃ V, w1.alloc (.cells #[.int .i64 f.kind, .string F, .slice fp f.keys.length fc, .slice gp f.items.length gc] 25) = V := ⟨_, rfl⟩
         have b1 := Below.on hb1 (alloc_b hV1)
         obtain ⟨d0, d1, d2, d3⟩ := box_of hV1 V1 (Below.refl _ _)))
    go_ret2
    exact ⟨rfl, Below.on HBW.out b1⟩
  · obtain rfl : (⟨#[]⟩ : ByteArray) = F := hF
    have hfield := rfW (h.stay bW) hS (K := K) (f := jn 0) (b := false) (by rw [h1]; rfl) (by rw [h1]; rfl) rfl W (Below.refl _ _)
    clear h hS hf h1 bW
    go_enter Tryz.func76, Tryz.ntmps76
    go_wp2_with (first
      | (go_at_call 28; refine hfield.mono ?_; rintro e w1 ⟨fp, fc, gp, gc, rfl, _, _, hb1⟩
         obtain ⟨V1, hV1⟩ : ∃ V, w1.alloc (.cells #[.int .i64 (jn 0).kind, .string ⟨(jn 0).str.toArray⟩, .slice fp (jn 0).keys.length fc, .slice gp (jn 0).items.length gc] 25) = V := ⟨_, rfl⟩
         have b1 := Below.on hb1 (alloc_b hV1)))
    go_ret2
    exact ⟨rfl, Below.on HBW.out b1⟩
  · obtain rfl : (⟨#[]⟩ : ByteArray) = F := hF
    obtain ⟨Y, hY⟩ : ∃ Y : ByteArray, (⟨y.str.toArray⟩ : ByteArray) = Y := ⟨_, rfl⟩
    have hfield := rfW (h.stay bW) hS (K := K) (f := y) (b := true) (by rw [h1]; rfl) (by rw [h1]; rfl) hY W (Below.refl _ _)
    have t1 : (y.kind != 4) = true := by simp [h2]
    clear h hS hf hY h1 h2 bW
    go_enter Tryz.func76, Tryz.ntmps76
    go_wp2_with (first
      | (go_at_call 28; refine hfield.mono ?_; rintro e w1 ⟨fp, fc, gp, gc, rfl, _, _, hb1⟩
         obtain ⟨V1, hV1⟩ : ∃ V, w1.alloc (.cells #[.int .i64 y.kind, .string Y, .slice fp y.keys.length fc, .slice gp y.items.length gc] 25) = V := ⟨_, rfl⟩
         have b1 := Below.on hb1 (alloc_b hV1)
         obtain ⟨d0, d1, d2, d3⟩ := box_of hV1 V1 (Below.refl _ _)))
    go_ret2
    exact ⟨rfl, Below.on HBW.out b1⟩
set_option maxRecDepth 100000 in
set_option maxHeartbeats 8000000 in
theorem rwithin75 {w : World} {x : JV} {S : ByteArray} {kp ip : Option Addr} {kc ic : Nat} (h : KI w x kp kc ip ic) (hS : (⟨x.str.toArray⟩ : ByteArray) = S) (K : ByteArray) (f : JV) (b : Bool) (hf : fldR x K.data.toList 6 false = (f, b)) (F : ByteArray) (hF : (⟨f.str.toArray⟩ : ByteArray) = F) :
    Calls Tryz.prog 75 #[.agg #[.int .i64 x.kind, .string S, .slice kp x.keys.length kc, .slice ip x.items.length ic], .string K] w fun e w' => ∃ fp fc gp gc, e = .returned (.tuple #[.agg #[.int .i64 f.kind, .string F, .slice fp f.keys.length fc, .slice gp f.items.length gc], .bool (!b)]) ∧ KI w' f fp fc gp gc ∧ f.str.length ≤ maxLen ∧ Below w.heap.size w w' := by
  obtain ⟨W1, hW1⟩ : ∃ W, w.alloc (.cells #[.int .i64 x.kind, .string S, .slice kp x.keys.length kc, .slice ip x.items.length ic] 25) = W := ⟨_, rfl⟩
  obtain ⟨W, hW⟩ : ∃ W, W1.alloc (.cells #[.int .i64 0, .string ⟨#[]⟩, .slice none 0 0, .slice none 0 0] 25) = W := ⟨_, rfl⟩
  have bW1 := alloc_b hW1
  have bW2 := alloc_b hW
  have bW := Below.on bW1 bW2
  have z1 : W1.heap.size = w.heap.size + 1 := by rw [← hW1]; simp
  have z2 : W.heap.size = w.heap.size + 2 := by rw [← hW]; simp; omega
  obtain ⟨c0, c1, c2, c3⟩ := box_of hW1 W bW2
  have hJ : JBox W (w.heap.size + 1) := by rw [← hW, ← z1]; exact JBox.alloc _ _ _ _ _
  have HJ : Hid (∀ V, Below W.heap.size W V → JBox V (w.heap.size + 1)) := Lib.hid fun V hV => hJ.same (hV.block _ hJ.lt)
  have HBW := Lib.hid bW
  have HK : Hid (∀ V, Below w.heap.size w V → KI V x kp kc ip ic) := Lib.hid fun V hV => h.stay hV
  rcases fldR_split hf with ⟨y, h1, h2, rfl, rfl⟩ | ⟨h1, rfl, rfl⟩ | ⟨y, h1, h2, rfl, rfl⟩
  · have hfield := rfW h hS (K := K) (f := f) (b := true) (by rw [h1]; rfl) (by rw [h1]; rfl) hF W bW
    have t1 : (f.kind != 6) = false := by simp [h2]
    subst hW1
    clear h hS hf hF h1 h2 bW bW1 bW2 hJ
    go_enter Tryz.func75, Tryz.ntmps75
    go_wp2_with (first
      | (go_at_call 28; refine hfield.mono ?_; rintro e w1 ⟨fp, fc, gp, gc, rfl, hkf, hlf, hb1⟩
         obtain ⟨V1, hV1⟩ : ∃ V, w1.alloc (.cells #[.int .i64 f.kind, .string F, .slice fp f.keys.length fc, .slice gp f.items.length gc] 25) = V := ⟨_, rfl⟩
         have b1 := Below.on hb1 (alloc_b hV1)
         obtain ⟨d0, d1, d2, d3⟩ := box_of hV1 V1 (Below.refl _ _)
         have HKF := Lib.hid (And.intro hkf hlf)
         clear hkf hlf)
      | (refine store_val rfl (.tmp 4) (.tmp 22) rfl (w.heap.size + 1) rfl (.int .i64 f.kind) (.string F) (.slice fp f.keys.length fc) (.slice gp f.items.length gc) rfl rfl (HJ.out V1 b1) (fun V hV hgV _ => ?_)))
    refine bodyPost_ret (ret_val2 Tryz.results75 rfl rfl hV) rfl ?_
    exact ⟨fp, fc, gp, gc, rfl, HKF.out.1.stay (below_gbz (Below.on HBW.out b1) (by omega) hgV), HKF.out.2, below_gbz (Below.on HBW.out b1) (by omega) hgV⟩
  · obtain rfl : (⟨#[]⟩ : ByteArray) = F := hF
    have hfield := rfW h hS (K := K) (f := jn 0) (b := false) (by rw [h1]; rfl) (by rw [h1]; rfl) rfl W bW
    subst hW1
    clear h hS hf h1 bW bW1 bW2 hJ
    go_enter Tryz.func75, Tryz.ntmps75
    go_wp2_with (first
      | (go_at_call 28; refine hfield.mono ?_; rintro e w1 ⟨fp, fc, gp, gc, rfl, hkf, hlf, hb1⟩
         obtain ⟨V1, hV1⟩ : ∃ V, w1.alloc (.cells #[.int .i64 (jn 0).kind, .string ⟨(jn 0).str.toArray⟩, .slice fp (jn 0).keys.length fc, .slice gp (jn 0).items.length gc] 25) = V := ⟨_, rfl⟩
         have b1 := Below.on hb1 (alloc_b hV1)
         have HKF := Lib.hid (And.intro hkf hlf)
         clear hkf hlf)
      | (refine store_val rfl (.tmp 4) (.tmp 21) rfl (w.heap.size + 1) rfl (.int .i64 0) (.string ⟨#[]⟩) (.slice none 0 0) (.slice none 0 0) rfl rfl (HJ.out V1 b1) (fun V hV hgV _ => ?_)))
    refine bodyPost_ret (ret_val2 Tryz.results75 rfl rfl hV) rfl ?_
    exact ⟨none, 0, none, 0, rfl, (KP.leaf _ (fun _ => True) _ _).ki, Nat.zero_le _, below_gbz (Below.on HBW.out b1) (by omega) hgV⟩
  · obtain rfl : (⟨#[]⟩ : ByteArray) = F := hF
    obtain ⟨Y, hY⟩ : ∃ Y : ByteArray, (⟨y.str.toArray⟩ : ByteArray) = Y := ⟨_, rfl⟩
    have hfield := rfW h hS (K := K) (f := y) (b := true) (by rw [h1]; rfl) (by rw [h1]; rfl) hY W bW
    have t1 : (y.kind != 6) = true := by simp [h2]
    subst hW1
    clear h hS hf hY h1 h2 bW bW1 bW2 hJ
    go_enter Tryz.func75, Tryz.ntmps75
    go_wp2_with (first
      | (go_at_call 28; refine hfield.mono ?_; rintro e w1 ⟨fp, fc, gp, gc, rfl, hkf, hlf, hb1⟩
         obtain ⟨V1, hV1⟩ : ∃ V, w1.alloc (.cells #[.int .i64 y.kind, .string Y, .slice fp y.keys.length fc, .slice gp y.items.length gc] 25) = V := ⟨_, rfl⟩
         have b1 := Below.on hb1 (alloc_b hV1)
         obtain ⟨d0, d1, d2, d3⟩ := box_of hV1 V1 (Below.refl _ _)
         have HKF := Lib.hid (And.intro hkf hlf)
         clear hkf hlf)
      | (refine store_val rfl (.tmp 4) (.tmp 21) rfl (w.heap.size + 1) rfl (.int .i64 0) (.string ⟨#[]⟩) (.slice none 0 0) (.slice none 0 0) rfl rfl (HJ.out V1 b1) (fun V hV hgV _ => ?_)))
    refine bodyPost_ret (ret_val2 Tryz.results75 rfl rfl hV) rfl ?_
    exact ⟨none, 0, none, 0, rfl, (KP.leaf _ (fun _ => True) _ _).ki, Nat.zero_le _, below_gbz (Below.on HBW.out b1) (by omega) hgV⟩
end Go.Proofs.Ls
/- LS: the reference's reader of params: small. -/
namespace Go.Proofs.Ls
open Go.RowKit Go.Maps Go.Lib Go.Proofs.Utf Go.Proofs.Jt Go.Proofs

theorem small_split {x : JV} {K : List UInt8} {n : Int} {b : Bool} (hn : smallR x K false = (n, b)) : (∃ y m, fieldV x K = some y ∧ intV y = some m ∧ n = m ∧ b = (decide (m < 0) || decide (2147483647 < m))) ∨ (fieldV x K = none ∧ b = true) ∨ (∃ y, fieldV x K = some y ∧ intV y = none ∧ b = true) := by
  unfold smallR wholeR at hn
  cases hq : fieldV x K with
  | none =>
    have e : fldR x K 3 false = (jn 0, true) := by unfold fldR; rw [hq]
    simp only [e, Prod.mk.injEq] at hn
    exact .inr (.inl ⟨rfl, by rw [← hn.2]; simp⟩)
  | some y =>
    by_cases hk : y.kind = 3
    · have e : fldR x K 3 false = (y, false) := by unfold fldR; rw [hq]; exact if_pos hk
      cases ho : intV y with
      | none =>
        simp only [e, ho, Prod.mk.injEq] at hn
        exact .inr (.inr ⟨y, rfl, ho, by rw [← hn.2]; simp⟩)
      | some m =>
        simp only [e, ho, Prod.mk.injEq] at hn
        exact .inl ⟨y, m, rfl, ho, by rw [← hn.1]; rfl, by rw [← hn.2]; simp⟩
    · have e : fldR x K 3 false = (jn 0, true) := by unfold fldR; rw [hq]; exact if_neg hk
      simp only [e, Prod.mk.injEq] at hn
      exact .inr (.inr ⟨y, rfl, by unfold intV; rw [if_neg hk], by rw [← hn.2]; simp⟩)
theorem field_wt {x y : JV} {K : List UInt8} (h : fieldV x K = some y) : y.wt ≤ x.wt := by
  have := fldR_wt x K y.kind false
  unfold fldR at this
  rw [h] at this
  dsimp only at this
  rw [if_pos rfl] at this
  exact this
set_option maxRecDepth 100000 in
set_option maxHeartbeats 8000000 in
theorem rsmall132 {w : World} {x : JV} {S : ByteArray} {kp ip : Option Addr} {kc ic : Nat} (h : KI w x kp kc ip ic) (hwt : x.wt ≤ 1000000) (hS : (⟨x.str.toArray⟩ : ByteArray) = S) (K : ByteArray) (n : Int) (b : Bool) (hn : smallR x K.data.toList false = (n, b)) :
    Calls Tryz.prog 132 #[.agg #[.int .i64 x.kind, .string S, .slice kp x.keys.length kc, .slice ip x.items.length ic], .string K] w fun e w' => e = .returned (.tuple #[.int .i64 (if b = true then 0 else n), .bool (!b)]) ∧ Below w.heap.size w w' := by
  obtain ⟨W, hW⟩ : ∃ W, w.alloc (.cells #[.int .i64 x.kind, .string S, .slice kp x.keys.length kc, .slice ip x.items.length ic] 25) = W := ⟨_, rfl⟩
  have bW := alloc_b hW
  obtain ⟨c0, c1, c2, c3⟩ := box_of hW W (Below.refl _ _)
  have HBW := Lib.hid bW
  rcases small_split hn with ⟨y, m, h1, h2, rfl, rfl⟩ | ⟨h1, rfl⟩ | ⟨y, h1, h2, rfl⟩
  · obtain ⟨Y, hY⟩ : ∃ Y : ByteArray, (⟨y.str.toArray⟩ : ByteArray) = Y := ⟨_, rfl⟩
    have hsz : Y.size ≤ 16777216 := by
      have h3 := field_wt h1
      have h4 := str_wt y
      rw [← hY, arr_size]
      omega
    have hfield := rfW (h.stay bW) hS (K := K) (f := y) (b := true) (by rw [h1]; rfl) (by rw [h1]; rfl) hY W (Below.refl _ _)
    have hint : (if y.kind = 3 then intL Y.data.toList else none) = some n := by rw [← h2, ← hY]; rfl
    clear bW h1 h2 hY hwt
    by_cases n0 : n < 0
    · have e0 : (decide (n < 0) || decide (2147483647 < n)) = true := by simp [n0]
      rw [e0] at hn ⊢
      clear e0
      have h30 := fun (V : World) (fp gp : Option Addr) (fc gc : Nat) => rint_any (w := V) (kp := fp) (ip := gp) (kn := y.keys.length) (kc := fc) (n := y.items.length) (ic := gc) y.kind Y hsz (some n) hint
      clear h hS hn hsz hint
      go_enter Tryz.func132, Tryz.ntmps132
      go_wp2_with (first
        | (go_at_call 28; refine hfield.mono ?_; rintro e w1 ⟨fp, fc, gp, gc, rfl, _, _, hb1⟩
           obtain ⟨V1, hV1⟩ : ∃ V, w1.alloc (.cells #[.int .i64 y.kind, .string Y, .slice fp y.keys.length fc, .slice gp y.items.length gc] 25) = V := ⟨_, rfl⟩
           have b1 := Below.on hb1 (alloc_b hV1)
           obtain ⟨d0, d1, d2, d3⟩ := box_of hV1 V1 (Below.refl _ _)
           have hi := h30 V1 fp gp fc gc)
        | (go_at_call 30; refine hi.mono ?_; rintro e w2 ⟨rfl, hb2⟩; have b2 := Below.on b1 hb2))
      go_ret2
      exact ⟨by first | rfl | simp_all, Below.on HBW.out b2⟩
    by_cases n1 : 2147483647 < n
    · have e0 : (decide (n < 0) || decide (2147483647 < n)) = true := by simp [n1]
      rw [e0] at hn ⊢
      clear e0
      have n2 : n > 2147483647 := n1
      have h30 := fun (V : World) (fp gp : Option Addr) (fc gc : Nat) => rint_any (w := V) (kp := fp) (ip := gp) (kn := y.keys.length) (kc := fc) (n := y.items.length) (ic := gc) y.kind Y hsz (some n) hint
      clear h hS hn hsz hint
      go_enter Tryz.func132, Tryz.ntmps132
      go_wp2_with (first
        | (go_at_call 28; refine hfield.mono ?_; rintro e w1 ⟨fp, fc, gp, gc, rfl, _, _, hb1⟩
           obtain ⟨V1, hV1⟩ : ∃ V, w1.alloc (.cells #[.int .i64 y.kind, .string Y, .slice fp y.keys.length fc, .slice gp y.items.length gc] 25) = V := ⟨_, rfl⟩
           have b1 := Below.on hb1 (alloc_b hV1)
           obtain ⟨d0, d1, d2, d3⟩ := box_of hV1 V1 (Below.refl _ _)
           have hi := h30 V1 fp gp fc gc)
        | (go_at_call 30; refine hi.mono ?_; rintro e w2 ⟨rfl, hb2⟩; have b2 := Below.on b1 hb2))
      go_ret2
      exact ⟨by first | rfl | simp_all, Below.on HBW.out b2⟩
    have e0 : (decide (n < 0) || decide (2147483647 < n)) = false := by simp [n0, n1]
    rw [e0] at hn ⊢
    clear e0
    have n2 : ¬ n > 2147483647 := n1
    have h30 := fun (V : World) (fp gp : Option Addr) (fc gc : Nat) => rint_any (w := V) (kp := fp) (ip := gp) (kn := y.keys.length) (kc := fc) (n := y.items.length) (ic := gc) y.kind Y hsz (some n) hint
    clear h hS hn hsz hint
    go_enter Tryz.func132, Tryz.ntmps132
    go_wp2_with (first
      | (go_at_call 28; refine hfield.mono ?_; rintro e w1 ⟨fp, fc, gp, gc, rfl, _, _, hb1⟩
         obtain ⟨V1, hV1⟩ : ∃ V, w1.alloc (.cells #[.int .i64 y.kind, .string Y, .slice fp y.keys.length fc, .slice gp y.items.length gc] 25) = V := ⟨_, rfl⟩
         have b1 := Below.on hb1 (alloc_b hV1)
         obtain ⟨d0, d1, d2, d3⟩ := box_of hV1 V1 (Below.refl _ _)
         have hi := h30 V1 fp gp fc gc)
      | (go_at_call 30; refine hi.mono ?_; rintro e w2 ⟨rfl, hb2⟩; have b2 := Below.on b1 hb2))
    go_ret2
    exact ⟨by first | rfl | simp_all, Below.on HBW.out b2⟩
  · have hfield := rfW (h.stay bW) hS (K := K) (f := jn 0) (b := false) (by rw [h1]; rfl) (by rw [h1]; rfl) (F := ⟨#[]⟩) rfl W (Below.refl _ _)
    have hsz : (⟨#[]⟩ : ByteArray).size ≤ 16777216 := by decide
    have hint : (if (jn 0).kind = 3 then intL (⟨#[]⟩ : ByteArray).data.toList else none) = none := rfl
    clear bW h1 hwt
    have h30 := fun (V : World) (fp gp : Option Addr) (fc gc : Nat) => rint_any (w := V) (kp := fp) (ip := gp) (kn := (jn 0).keys.length) (kc := fc) (n := (jn 0).items.length) (ic := gc) (jn 0).kind ⟨#[]⟩ hsz (none) hint
    clear h hS hn hsz hint
    go_enter Tryz.func132, Tryz.ntmps132
    go_wp2_with (first
      | (go_at_call 28; refine hfield.mono ?_; rintro e w1 ⟨fp, fc, gp, gc, rfl, _, _, hb1⟩
         obtain ⟨V1, hV1⟩ : ∃ V, w1.alloc (.cells #[.int .i64 (jn 0).kind, .string ⟨#[]⟩, .slice fp (jn 0).keys.length fc, .slice gp (jn 0).items.length gc] 25) = V := ⟨_, rfl⟩
         have b1 := Below.on hb1 (alloc_b hV1)
         obtain ⟨d0, d1, d2, d3⟩ := box_of hV1 V1 (Below.refl _ _)
         have hi := h30 V1 fp gp fc gc)
      | (go_at_call 30; refine hi.mono ?_; rintro e w2 ⟨rfl, hb2⟩; have b2 := Below.on b1 hb2))
    go_ret2
    exact ⟨by first | rfl | simp_all, Below.on HBW.out b2⟩
  · obtain ⟨Y, hY⟩ : ∃ Y : ByteArray, (⟨y.str.toArray⟩ : ByteArray) = Y := ⟨_, rfl⟩
    have hsz : Y.size ≤ 16777216 := by
      have h3 := field_wt h1
      have h4 := str_wt y
      rw [← hY, arr_size]
      omega
    have hfield := rfW (h.stay bW) hS (K := K) (f := y) (b := true) (by rw [h1]; rfl) (by rw [h1]; rfl) hY W (Below.refl _ _)
    have hint : (if y.kind = 3 then intL Y.data.toList else none) = none := by rw [← hY]; exact h2
    clear bW h1 h2 hY hwt
    have h30 := fun (V : World) (fp gp : Option Addr) (fc gc : Nat) => rint_any (w := V) (kp := fp) (ip := gp) (kn := y.keys.length) (kc := fc) (n := y.items.length) (ic := gc) y.kind Y hsz (none) hint
    clear h hS hn hsz hint
    go_enter Tryz.func132, Tryz.ntmps132
    go_wp2_with (first
      | (go_at_call 28; refine hfield.mono ?_; rintro e w1 ⟨fp, fc, gp, gc, rfl, _, _, hb1⟩
         obtain ⟨V1, hV1⟩ : ∃ V, w1.alloc (.cells #[.int .i64 y.kind, .string Y, .slice fp y.keys.length fc, .slice gp y.items.length gc] 25) = V := ⟨_, rfl⟩
         have b1 := Below.on hb1 (alloc_b hV1)
         obtain ⟨d0, d1, d2, d3⟩ := box_of hV1 V1 (Below.refl _ _)
         have hi := h30 V1 fp gp fc gc)
      | (go_at_call 30; refine hi.mono ?_; rintro e w2 ⟨rfl, hb2⟩; have b2 := Below.on b1 hb2))
    go_ret2
    exact ⟨by first | rfl | simp_all, Below.on HBW.out b2⟩
end Go.Proofs.Ls
