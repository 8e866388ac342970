/- Merged texts: I7, LB, LC, LE, LF, LN. -/
import Derived.Test.YtaiaiiepbpbmmaaGreatDoorCmVF2
import Derived.Test.YtaiaiiepbpbmmaaGreatDoorCmI2
import Derived.Laws.ResultCell
import Derived.Deep.MidRow
import Derived.Deep.Upon
/- I7: What json's functions leave, in words of cells (for the laws of the layers above). -/
namespace Go.Proofs.Jt
open Go.RowKit Go.Maps Go.Lib Go.Proofs.Utf Go.Proofs

theorem fieldA_is {w : World} {x : JV} {S K F : ByteArray} {f : JV} {b : Bool} {kp ip : Option Addr} {kc ic : Nat} (h : KI w x kp kc ip ic) (hwt : x.wt ≤ 1000000) (hS : (⟨x.str.toArray⟩ : ByteArray) = S) (hf : (fieldV x K.data.toList).getD (jn 0) = f) (hb : (fieldV x K.data.toList).isSome = b) (hF : (⟨f.str.toArray⟩ : ByteArray) = F) : ∀ w', Below w.heap.size w w' →
 Calls Tryz.prog 27 #[.agg #[.int .i64 x.kind, .string S, .slice kp x.keys.length kc, .slice ip x.items.length ic], .string K] w' fun e w'' => ∃ fp fc gp gc, e = .returned (.tuple #[.agg #[.int .i64 f.kind, .string F, .slice fp f.keys.length fc, .slice gp f.items.length gc], .bool b]) ∧ KP w'' (w'.heap.size ≤ ·) f fp fc gp gc ∧ f.str.length ≤ maxLen ∧ Below w'.heap.size w' w'' := fun w' hbw => by
 have h1 := field_any h hwt K w' hbw
 unfold jval at h1
 rw [hS] at h1
 refine h1.mono ?_
 rintro e w'' ⟨fp, fc, gp, gc, h2, h3, h4, h5⟩
 rw [hf] at h2 h3 h4
 rw [hb] at h2
 exact ⟨fp, fc, gp, gc, by rw [h2, ← hF]; rfl, h3, h4, h5⟩
theorem str_wt (x : JV) : x.str.length ≤ x.wt := by
 cases x
 rw [JV.wt]
 show _ ≤ _
 simp only [str_mk]
 omega
end Go.Proofs.Jt
/- LB: lsp's reader of fields in memory: field, text, whole, small. -/
namespace Go.Proofs.Ls
open Go.RowKit Go.Maps Go.Lib Go.Proofs.Utf Go.Proofs.Jt Go.Proofs

/-- a field of a kind, and whether something was not as it must be -/
def fldR (x : JV) (K : List UInt8) (k : Int) (b : Bool) : JV × Bool :=
  match fieldV x K with
  | some f => if f.kind = k then (f, b) else (jn 0, true)
  | none => (jn 0, true)
/-- the reader -/
def RB (w : World) (z : Nat) (b : Bool) : Prop := w.heap[z]? = some (.cells #[.bool b] 124 (0, 0))
theorem RB.lt {w : World} {z : Nat} {b : Bool} (h : RB w z b) : z < w.heap.size := ltS h
theorem RB.below {w w' : World} {z : Nat} {b : Bool} (h : RB w z b) (hb : Below w.heap.size w w') : RB w' z b := (hb.block _ (ltS h)).trans h
theorem RB.cell {w : World} {z : Nat} {b : Bool} (h : RB w z b) : w.cell? ⟨z, 0, none⟩ = some (.bool b) := by simp [World.cell?, show w.heap[z]? = _ from h]
theorem RB.fz {w : World} {z : Nat} {b : Bool} (h : RB w z b) : w.frozen? ⟨z, 0, none⟩ = false := by simp [World.frozen?, show w.heap[z]? = _ from h]
theorem RB.set {w : World} {z : Nat} {b : Bool} (h : RB w z b) (c : Bool) : RB (w.setCell ⟨z, 0, none⟩ (.bool c)) z c := heap_setCell_self (show w.heap[z]? = _ from h) 0 (.bool c)
theorem gb_of {w w' : World} {z : Nat} (h : FrP (fun b => b = z ∨ w.heap.size ≤ b) w w') : w.grownBy w' (some z) := h.gb fun k hk hp => by
  rcases hp with h | h
  · exact h
  · omega
theorem fr_b {w w' : World} {n z : Nat} (h : Below n w w') (_hn : n ≤ w.heap.size) : FrP (fun b => b = z ∨ n ≤ b) w w' := (FrP.of_none (P := fun b => b = z ∨ n ≤ b) (World.grownBy.refl w none)).trans ⟨h.os, h.tape, h.output, h.size, fun k _ hp => h.block k (by omega)⟩
theorem kp_on' {w w' : World} {P : Nat → Prop} {x : JV} {kp ip : Option Addr} {kc ic : Nat} (h : KP w P x kp kc ip ic) (hb : Below w.heap.size w w') : KP w' P x kp kc ip ic :=
  h.fr (FrP.of_none (P := fun _ => False) (gb_below' hb)) fun _ _ => id
set_option maxRecDepth 100000 in
set_option maxHeartbeats 4000000 in
theorem field70 {w : World} {x : JV} {S : ByteArray} {kp ip : Option Addr} {kc ic : Nat} (h : KI w x kp kc ip ic) (hwt : x.wt ≤ 1000000) (hS : (⟨x.str.toArray⟩ : ByteArray) = S) (z : Nat) (b : Bool) (hz : RB w z b) (K : ByteArray) (k : Int) (f : JV) (b' : Bool) (hf : fldR x K.data.toList k b = (f, b')) (F : ByteArray) (hF : (⟨f.str.toArray⟩ : ByteArray) = F) :
    Calls Tryz.prog 70 #[.pointer (some ⟨z, 0, none⟩), .agg #[.int .i64 x.kind, .string S, .slice kp x.keys.length kc, .slice ip x.items.length ic], .string K, .int .i64 k] w fun e w' => ∃ fp fc gp gc, e = .returned (.agg #[.int .i64 f.kind, .string F, .slice fp f.keys.length fc, .slice gp f.items.length gc]) ∧ KP w' (w.heap.size ≤ ·) f fp fc gp gc ∧ f.str.length ≤ maxLen ∧ RB w' z b' ∧ w.grownBy w' (some z) := by
  obtain ⟨W1, hW1⟩ : ∃ W, w.alloc (.cells #[.int .i64 x.kind, .string S, .slice kp x.keys.length kc, .slice ip x.items.length ic] 25) = W := ⟨_, rfl⟩
  obtain ⟨W, hW⟩ : ∃ W, W1.alloc (.cells #[.int .i64 0, .string ⟨#[]⟩, .slice none 0 0, .slice none 0 0] 25) = W := ⟨_, rfl⟩
  have bW1 := alloc_b hW1
  have bW2 := alloc_b hW
  have bW := Below.on bW1 bW2
  have z1 : W1.heap.size = w.heap.size + 1 := by rw [← hW1]; simp
  have z2 : W.heap.size = w.heap.size + 2 := by rw [← hW]; simp; omega
  obtain ⟨c0, c1, c2, c3⟩ := box_of hW1 W bW2
  have hJ : JBox W (w.heap.size + 1) := by rw [← hW, ← z1]; exact JBox.alloc _ _ _ _ _
  have HJ : Hid (∀ V, Below W.heap.size W V → JBox V (w.heap.size + 1)) := Lib.hid fun V hV => hJ.same (hV.block _ hJ.lt)
  have HRZ : Hid (∀ V, Below W.heap.size W V → RB V z b) := Lib.hid fun V hV => hz.below (Below.on bW hV)
  have hzl := hz.lt
  have HBW := Lib.hid bW
  obtain ⟨o, ho⟩ : ∃ o, fieldV x K.data.toList = o := ⟨_, rfl⟩
  unfold fldR at hf
  rw [ho] at hf
  obtain ⟨g, hg⟩ : ∃ g, o.getD (jn 0) = g := ⟨_, rfl⟩
  obtain ⟨G, hG⟩ : ∃ G : ByteArray, (⟨g.str.toArray⟩ : ByteArray) = G := ⟨_, rfl⟩
  have hfield := fieldA_is (h.stay bW) hwt hS (by rw [ho]; exact hg) (by rw [ho]) hG W (Below.refl _ _)
  subst hW1
  clear h hwt hS hz bW bW1 bW2 hJ ho
  cases o with
  | none =>
    cases hf
    obtain rfl : (⟨#[]⟩ : ByteArray) = F := hF
    rw [show (jn 0).kind = 0 from rfl]
    clear hg hG
    go_enter Tryz.func70, Tryz.ntmps70
    go_upto_region 4 with (first
      | (go_at_call 27; refine hfield.mono ?_; rintro e w1 ⟨fp, fc, gp, gc, rfl, hkp, hfl, hb1⟩
         obtain ⟨V1, hV1⟩ : ∃ V, w1.alloc (.cells #[.int .i64 g.kind, .string G, .slice fp g.keys.length fc, .slice gp g.items.length gc] 25) = V := ⟨_, rfl⟩
         have hv1 := alloc_b hV1
         have b1 := Below.on hb1 hv1
         have hrz := HRZ.out V1 b1
         have q1 := hrz.cell
         have q2 := hrz.fz
         obtain ⟨d0, d1, d2, d3⟩ := box_of hV1 V1 (Below.refl _ _)
         have HKP := Lib.hid hkp
         have HFL := Lib.hid hfl
         clear hkp hfl))
    have hrs := hrz.set true
    obtain ⟨V2, hV2⟩ : ∃ V, V1.setCell ⟨z, 0, none⟩ (.bool true) = V := ⟨_, rfl⟩
    have gs2 := gb_set V1 z 0 (.bool true)
    rw [hV2] at hrs gs2 ⊢
    have hj2 : JBox V2 (w.heap.size + 1) := (HJ.out V1 b1).same (gs2.block _ (HJ.out V1 b1).lt (fun e => by have := Option.some.inj e; omega))
    have HJ2 := Lib.hid hj2
    clear hj2 q1 q2 d0 d1 d2 d3
    go_wp2_with (first
      | (refine store_val rfl (.tmp 8) (.tmp 28) rfl (w.heap.size + 1) rfl (.int .i64 0) (.string ⟨#[]⟩) (.slice none 0 0) (.slice none 0 0) rfl rfl HJ2.out (fun V hV hgV _ => ?_)))
    refine bodyPost_ret (ret_val Tryz.results70 rfl hV) rfl ?_
    exact ⟨none, 0, none, 0, rfl, KP.leaf _ _ _ _, Nat.zero_le _, (hgV.block z hrs.lt (fun e => by have := Option.some.inj e; omega)).trans hrs, gb_of (((fr_b (HBW.out.trans (b1.mono HBW.out.size)) (Nat.le_refl _)).trans (FrP.of gs2 (.inl rfl))).trans (FrP.of hgV (.inr (Nat.le_succ _))))⟩
  | some y =>
    obtain rfl : y = g := hg
    dsimp only at hf
    by_cases hk : y.kind = k
    · rw [if_pos hk] at hf
      simp only [Prod.mk.injEq] at hf
      obtain ⟨hf1, hf2⟩ := hf
      subst hf1 hf2
      obtain rfl : F = G := hF.symm.trans hG
      have t1 : (y.kind != k) = false := by simp [hk]
      clear hF hG hk
      go_enter Tryz.func70, Tryz.ntmps70
      go_wp2_with (first
        | (go_at_call 27; refine hfield.mono ?_; rintro e w1 ⟨fp, fc, gp, gc, rfl, hkp, hfl, hb1⟩
           obtain ⟨V1, hV1⟩ : ∃ V, w1.alloc (.cells #[.int .i64 y.kind, .string F, .slice fp y.keys.length fc, .slice gp y.items.length gc] 25) = V := ⟨_, rfl⟩
           have hv1 := alloc_b hV1
           have b1 := Below.on hb1 hv1
           have hrz := HRZ.out V1 b1
           have q1 := hrz.cell
           have q2 := hrz.fz
           obtain ⟨d0, d1, d2, d3⟩ := box_of hV1 V1 (Below.refl _ _)
           have HKP := Lib.hid hkp
           have HFL := Lib.hid hfl
           clear hkp hfl)
        | (refine store_val rfl (.tmp 8) (.tmp 29) rfl (w.heap.size + 1) rfl (.int .i64 y.kind) (.string F) (.slice fp y.keys.length fc) (.slice gp y.items.length gc) rfl rfl (HJ.out V1 b1) (fun V hV hgV _ => ?_)))
      refine bodyPost_ret (ret_val Tryz.results70 rfl hV) rfl ?_
      have hk1 : KP V (w.heap.size ≤ ·) y fp fc gp gc := (((kp_on' HKP.out hv1).fr (FrP.of (P := fun b => b = w.heap.size + 1) hgV rfl) (fun b hb e => by omega))).keep (Nat.le_refl _) (fun _ _ _ => rfl) (fun b hb _ => by omega)
      exact ⟨fp, fc, gp, gc, rfl, hk1, HFL.out, (hgV.block z hrz.lt (fun e => by have := Option.some.inj e; omega)).trans hrz, gb_of ((fr_b (HBW.out.trans (b1.mono HBW.out.size)) (Nat.le_refl _)).trans (FrP.of hgV (.inr (Nat.le_succ _))))⟩
    · rw [if_neg hk] at hf
      simp only [Prod.mk.injEq] at hf
      obtain ⟨hf1, hf2⟩ := hf
      subst hf1 hf2
      obtain rfl : (⟨#[]⟩ : ByteArray) = F := hF
      have t1 : (y.kind != k) = true := by simp [hk]
      rw [show (jn 0).kind = 0 from rfl]
      clear hG hk
      go_enter Tryz.func70, Tryz.ntmps70
      go_upto_region 4 with (first
        | (go_at_call 27; refine hfield.mono ?_; rintro e w1 ⟨fp, fc, gp, gc, rfl, hkp, hfl, hb1⟩
           obtain ⟨V1, hV1⟩ : ∃ V, w1.alloc (.cells #[.int .i64 y.kind, .string G, .slice fp y.keys.length fc, .slice gp y.items.length gc] 25) = V := ⟨_, rfl⟩
           have hv1 := alloc_b hV1
           have b1 := Below.on hb1 hv1
           have hrz := HRZ.out V1 b1
           have q1 := hrz.cell
           have q2 := hrz.fz
           obtain ⟨d0, d1, d2, d3⟩ := box_of hV1 V1 (Below.refl _ _)
           have HKP := Lib.hid hkp
           have HFL := Lib.hid hfl
           clear hkp hfl))
      have hrs := hrz.set true
      obtain ⟨V2, hV2⟩ : ∃ V, V1.setCell ⟨z, 0, none⟩ (.bool true) = V := ⟨_, rfl⟩
      have gs2 := gb_set V1 z 0 (.bool true)
      rw [hV2] at hrs gs2 ⊢
      have hj2 : JBox V2 (w.heap.size + 1) := (HJ.out V1 b1).same (gs2.block _ (HJ.out V1 b1).lt (fun e => by have := Option.some.inj e; omega))
      have HJ2 := Lib.hid hj2
      clear hj2 q1 q2 d0 d1 d2 d3
      go_wp2_with (first
        | (refine store_val rfl (.tmp 8) (.tmp 28) rfl (w.heap.size + 1) rfl (.int .i64 0) (.string ⟨#[]⟩) (.slice none 0 0) (.slice none 0 0) rfl rfl HJ2.out (fun V hV hgV _ => ?_)))
      refine bodyPost_ret (ret_val Tryz.results70 rfl hV) rfl ?_
      exact ⟨none, 0, none, 0, rfl, KP.leaf _ _ _ _, Nat.zero_le _, (hgV.block z hrs.lt (fun e => by have := Option.some.inj e; omega)).trans hrs, gb_of (((fr_b (HBW.out.trans (b1.mono HBW.out.size)) (Nat.le_refl _)).trans (FrP.of gs2 (.inl rfl))).trans (FrP.of hgV (.inr (Nat.le_succ _))))⟩
theorem field_str (k : Int) (F : ByteArray) (fp gp : Option Addr) (a b c d : Nat) (V : World) : (Instr.field 25 (.agg #[.int .i64 k, .string F, .slice fp a b, .slice gp c d]) 1).run Tryz.prog V = .ok (.string F) V := by kernel_rfl
set_option maxRecDepth 100000 in
set_option maxHeartbeats 4000000 in
theorem text71 {w : World} {x : JV} {S : ByteArray} {kp ip : Option Addr} {kc ic : Nat} (h : KI w x kp kc ip ic) (hwt : x.wt ≤ 1000000) (hS : (⟨x.str.toArray⟩ : ByteArray) = S) (z : Nat) (b : Bool) (hz : RB w z b) (K : ByteArray) (f : JV) (b' : Bool) (hf : fldR x K.data.toList 4 b = (f, b')) (F : ByteArray) (hF : (⟨f.str.toArray⟩ : ByteArray) = F) :
    Calls Tryz.prog 71 #[.pointer (some ⟨z, 0, none⟩), .agg #[.int .i64 x.kind, .string S, .slice kp x.keys.length kc, .slice ip x.items.length ic], .string K] w fun e w' => e = .returned (.string F) ∧ RB w' z b' ∧ w.grownBy w' (some z) := by
  obtain ⟨W, hW⟩ : ∃ W, w.alloc (.cells #[.int .i64 x.kind, .string S, .slice kp x.keys.length kc, .slice ip x.items.length ic] 25) = W := ⟨_, rfl⟩
  have bW := alloc_b hW
  obtain ⟨c0, c1, c2, c3⟩ := box_of hW W (Below.refl _ _)
  have h70 := field70 (h.stay bW) hwt hS z b (hz.below bW) K 4 f b' hf F hF
  have HBW := Lib.hid bW
  clear h hwt hS hz hf hF bW
  go_enter Tryz.func71, Tryz.ntmps71
  go_wp2_with (first
    | (go_at_call 70; refine h70.mono ?_; rintro e w1 ⟨fp, fc, gp, gc, rfl, _, _, hr, hg⟩; have hx := field_str f.kind F fp gp f.keys.length fc f.items.length gc))
  go_ret
  exact ⟨rfl, hr, gb_of ((fr_b HBW.out (Nat.le_refl _)).trans (FrP.of hg (.inl rfl)))⟩
theorem below_gb {w0 w V : World} {z : Nat} (h : Below w0.heap.size w0 w) (g : w.grownBy V (some z)) (hz : w0.heap.size ≤ z) : Below w0.heap.size w0 V := h.grown g h.size fun b e => by have := Option.some.inj e; omega
/-- a whole number, and whether something was not as it must be -/
def wholeR (x : JV) (K : List UInt8) (b : Bool) : Int × Bool := ((intV (fldR x K 3 b).1).getD 0, (fldR x K 3 b).2 || !(intV (fldR x K 3 b).1).isSome)
set_option maxRecDepth 100000 in
set_option maxHeartbeats 8000000 in
theorem whole72 {w0 w : World} (HE : ∀ V, Below w0.heap.size w0 V → ErrV V) (hw : Below w0.heap.size w0 w) {x : JV} {S : ByteArray} {kp ip : Option Addr} {kc ic : Nat} (h : KI w x kp kc ip ic) (hwt : x.wt ≤ 1000000) (hS : (⟨x.str.toArray⟩ : ByteArray) = S) (z : Nat) (hz0 : w0.heap.size ≤ z) (b : Bool) (hz : RB w z b) (K : ByteArray) (n : Int) (b' : Bool) (hn : wholeR x K.data.toList b = (n, b')) :
    Calls Tryz.prog 72 #[.pointer (some ⟨z, 0, none⟩), .agg #[.int .i64 x.kind, .string S, .slice kp x.keys.length kc, .slice ip x.items.length ic], .string K] w fun e w' => e = .returned (.int .i64 n) ∧ RB w' z b' ∧ w.grownBy w' (some z) := by
  obtain ⟨W, hW⟩ : ∃ W, w.alloc (.cells #[.int .i64 x.kind, .string S, .slice kp x.keys.length kc, .slice ip x.items.length ic] 25) = W := ⟨_, rfl⟩
  have bW := alloc_b hW
  obtain ⟨c0, c1, c2, c3⟩ := box_of hW W (Below.refl _ _)
  obtain ⟨f, b1, hf⟩ : ∃ f b1, fldR x K.data.toList 3 b = (f, b1) := ⟨_, _, rfl⟩
  obtain ⟨F, hF⟩ : ∃ F : ByteArray, (⟨f.str.toArray⟩ : ByteArray) = F := ⟨_, rfl⟩
  have h70 := field70 (h.stay bW) hwt hS z b (hz.below bW) K 3 f b1 hf F hF
  unfold wholeR at hn
  rw [hf] at hn
  dsimp only at hn
  obtain ⟨o, ho⟩ : ∃ o, intV f = o := ⟨_, rfl⟩
  rw [ho] at hn
  have hfs : f.str.length ≤ 16777216 := by
    have h1 : f = jn 0 ∨ f.wt ≤ x.wt := by
      unfold fldR at hf
      cases hq : fieldV x K.data.toList with
      | none => rw [hq] at hf; cases hf; exact .inl rfl
      | some y =>
        rw [hq] at hf
        dsimp only at hf
        split at hf
        · cases hf
          right
          unfold fieldV at hq
          split at hq
          · have := wt_items hq
            omega
          · cases hq
        · cases hf; exact .inl rfl
    rcases h1 with rfl | h1
    · exact Nat.zero_le _
    · have := str_wt f
      omega
  have hint : (if f.kind = 3 then intL F.data.toList else none) = o := by rw [← ho, ← hF]; rfl
  have HFS : Hid (F.size ≤ 16777216) := Lib.hid (by rw [← hF, arr_size]; exact hfs)
  have HI := Lib.hid hint
  have HBW := Lib.hid bW
  have HW0 := Lib.hid (Below.on hw bW)
  have HEE := Lib.hid HE
  have HN := Lib.hid hn
  clear h hwt hS hz hf hF bW ho hfs hint hw HE hn
  go_enter Tryz.func72, Tryz.ntmps72
  go_upto_region 2 with (first
    | (go_at_call 70; refine h70.mono ?_; rintro e w1 ⟨fp, fc, gp, gc, rfl, _, _, hr, hg⟩
       have hb1 := below_gb HW0.out hg hz0
       have h29 := int_any (w := w1) (kp := fp) (ip := gp) (kn := f.keys.length) (kc := fc) (n := f.items.length) (ic := gc) f.kind F (HEE.out w1 hb1) HFS.out o HI.out)
    | (go_at_call 29; refine h29.mono ?_; rintro e w2 ⟨rfl, hb2⟩))
  have hr2 := hr.below hb2
  have q1 := hr2.cell
  have q2 := hr2.fz
  have hrs := hr2.set b'
  obtain ⟨V2, hV2⟩ : ∃ V, w2.setCell ⟨z, 0, none⟩ (.bool b') = V := ⟨_, rfl⟩
  have gs2 := gb_set w2 z 0 (.bool b')
  rw [hV2] at hrs gs2
  have HF : Hid (w.grownBy V2 (some z)) := Lib.hid (gb_of ((((fr_b HBW.out (Nat.le_refl _)).trans (FrP.of hg (.inl rfl))).trans (FrP.of_none (gb_below' hb2))).trans (FrP.of gs2 (.inl rfl))))
  have HRS := Lib.hid hrs
  have hnb := HN.out
  simp only [Prod.mk.injEq] at hnb
  obtain ⟨rfl, hnb⟩ := hnb
  clear hr hr2 hg hb2 hrs gs2 c0 c1 c2 c3 h70
  cases b1 with
  | true =>
    obtain rfl : true = b' := by rw [← hnb]; rfl
    clear hnb
    go_wp2_with fail
    go_ret
    exact ⟨rfl, HRS.out, HF.out⟩
  | false =>
    cases ho : o.isSome with
    | true =>
      obtain rfl : false = b' := by rw [← hnb, ho]; rfl
      clear hnb
      go_wp2_with fail
      go_ret
      exact ⟨rfl, HRS.out, HF.out⟩
    | false =>
      obtain rfl : true = b' := by rw [← hnb, ho]; rfl
      clear hnb
      go_wp2_with fail
      go_ret
      exact ⟨rfl, HRS.out, HF.out⟩
end Go.Proofs.Ls
/- LC: lsp's reader of fields: small, position, span. Printed by gen_lc.py. -/
namespace Go.Proofs.Ls
open Go.RowKit Go.Maps Go.Lib Go.Proofs.Utf Go.Proofs.Jt Go.Proofs

def smallR (x : JV) (K : List UInt8) (b : Bool) : Int × Bool := ((wholeR x K b).1, (wholeR x K b).2 || decide ((wholeR x K b).1 < 0) || decide (2147483647 < (wholeR x K b).1))
def kLine : List UInt8 := [108, 105, 110, 101]
def kChar : List UInt8 := [99, 104, 97, 114, 97, 99, 116, 101, 114]
def kStart : List UInt8 := [115, 116, 97, 114, 116]
def kEnd : List UInt8 := [101, 110, 100]
/-- a position: its line and its place in it -/
def posR (x : JV) (K : List UInt8) (b : Bool) : (Int × Int) × Bool :=
  (((smallR (fldR x K 6 b).1 kLine (fldR x K 6 b).2).1, (smallR (fldR x K 6 b).1 kChar (smallR (fldR x K 6 b).1 kLine (fldR x K 6 b).2).2).1), (smallR (fldR x K 6 b).1 kChar (smallR (fldR x K 6 b).1 kLine (fldR x K 6 b).2).2).2)
/-- a range -/
def spanR (x : JV) (K : List UInt8) (b : Bool) : ((Int × Int) × (Int × Int)) × Bool :=
  (((posR (fldR x K 6 b).1 kStart (fldR x K 6 b).2).1, (posR (fldR x K 6 b).1 kEnd (posR (fldR x K 6 b).1 kStart (fldR x K 6 b).2).2).1), (posR (fldR x K 6 b).1 kEnd (posR (fldR x K 6 b).1 kStart (fldR x K 6 b).2).2).2)
theorem fldR_wt (x : JV) (K : List UInt8) (k : Int) (b : Bool) : (fldR x K k b).1.wt ≤ x.wt := by
  unfold fldR
  cases hq : fieldV x K with
  | none => exact jv_wt_pos x
  | some y =>
    dsimp only
    split
    · unfold fieldV at hq
      split at hq
      · have := wt_items hq
        show y.wt ≤ _
        omega
      · cases hq
    · exact jv_wt_pos x
set_option maxRecDepth 100000 in
set_option maxHeartbeats 8000000 in
theorem small131 {w0 w : World} (HE : ∀ V, Below w0.heap.size w0 V → ErrV V) (hw : Below w0.heap.size w0 w) {x : JV} {S : ByteArray} {kp ip : Option Addr} {kc ic : Nat} (h : KI w x kp kc ip ic) (hwt : x.wt ≤ 1000000) (hS : (⟨x.str.toArray⟩ : ByteArray) = S) (z : Nat) (hz0 : w0.heap.size ≤ z) (b : Bool) (hz : RB w z b) (K : ByteArray) (n : Int) (b' : Bool) (hn : smallR x K.data.toList b = (n, b')) :
    Calls Tryz.prog 131 #[.pointer (some ⟨z, 0, none⟩), .agg #[.int .i64 x.kind, .string S, .slice kp x.keys.length kc, .slice ip x.items.length ic], .string K] w fun e w' => e = .returned (.int .i64 n) ∧ RB w' z b' ∧ w.grownBy w' (some z) := by
  obtain ⟨W, hW⟩ : ∃ W, w.alloc (.cells #[.int .i64 x.kind, .string S, .slice kp x.keys.length kc, .slice ip x.items.length ic] 25) = W := ⟨_, rfl⟩
  have bW := alloc_b hW
  obtain ⟨c0, c1, c2, c3⟩ := box_of hW W (Below.refl _ _)
  obtain ⟨m, b1, hm⟩ : ∃ m b1, wholeR x K.data.toList b = (m, b1) := ⟨_, _, rfl⟩
  have h72 := whole72 HE (Below.on hw bW) (h.stay bW) hwt hS z hz0 b (hz.below bW) K m b1 hm
  unfold smallR at hn
  rw [hm] at hn
  simp only [Prod.mk.injEq] at hn
  obtain ⟨rfl, hnb⟩ := hn
  have HBW := Lib.hid bW
  have HN := Lib.hid hnb
  clear h hwt hS hz bW hw HE hnb hm
  go_enter Tryz.func131, Tryz.ntmps131
  go_upto_region 2 with (first
    | (go_at_call 72; refine h72.mono ?_; rintro e w2 ⟨rfl, hr2, hg⟩))
  have q1 := hr2.cell
  have q2 := hr2.fz
  have hrs := hr2.set b'
  obtain ⟨V2, hV2⟩ : ∃ V, w2.setCell ⟨z, 0, none⟩ (.bool b') = V := ⟨_, rfl⟩
  have gs2 := gb_set w2 z 0 (.bool b')
  rw [hV2] at hrs gs2
  have HF : Hid (w.grownBy V2 (some z)) := Lib.hid (gb_of (((fr_b HBW.out (Nat.le_refl _)).trans (FrP.of hg (.inl rfl))).trans (FrP.of gs2 (.inl rfl))))
  have HRS := Lib.hid hrs
  clear hr2 hg hrs gs2 c0 c1 c2 c3 h72
  cases b1 with
  | true =>
    obtain rfl : true = b' := by rw [← HN.out]; rfl
    go_wp2_with fail
    go_ret
    exact ⟨rfl, HRS.out, HF.out⟩
  | false =>
    by_cases hlt : m < 0
    · obtain rfl : true = b' := by rw [← HN.out]; simp [hlt]
      go_wp2_with fail
      go_ret
      exact ⟨rfl, HRS.out, HF.out⟩
    · by_cases hgt : 2147483647 < m
      · obtain rfl : true = b' := by rw [← HN.out]; simp [hgt]
        go_wp2_with fail
        go_ret
        exact ⟨rfl, HRS.out, HF.out⟩
      · obtain rfl : false = b' := by rw [← HN.out]; simp [hlt, hgt]
        go_wp2_with fail
        go_ret
        exact ⟨rfl, HRS.out, HF.out⟩
theorem row_at {w W : World} {o : Obj} (hW : w.alloc o = W) : W.heap[w.heap.size]? = some o := by rw [← hW]; exact World.alloc_heap_new w _
/-- a box of it -/
def posBox (w : World) (z : Nat) : Prop := ∃ a0 a1, w.heap[z]? = some (.cells #[a0, a1] 40 (0, 0))
theorem pos_of {w : World} {z : Nat} {a0 a1 : Value} (h : w.heap[z]? = some (.cells #[a0, a1] 40 (0, 0))) : posBox w z := ⟨a0, a1, h⟩
theorem posBox.gb {w W : World} {z r : Nat} (h : posBox w z) (hg : w.grownBy W (some r)) (hne : z ≠ r) : posBox W z := by
  obtain ⟨a0, a1, h⟩ := h
  exact ⟨a0, a1, (hg.block z (ltS h) (fun e => hne (Option.some.inj e))).trans h⟩
theorem store_pos {op : Oper} {a : Act} {w : World} {K : Act → World → Prop} {Q : Exit → Act → World → Prop} (x y : Operand) (ho : op.op = .store 40 x y) (z : Nat) (hx : a.eval x = .pointer (some ⟨z, 0, none⟩))
    (v0 v1 : Value) (hy : a.eval y = .agg #[v0, v1]) (h1 : (#[v0, v1] : Array Value).all (·.oneCell') = true) (hz : posBox w z)
    (h : ∀ W, W.heap[z]? = some (.cells #[v0, v1] 40 (0, 0)) → w.grownBy W (some z) → W.heap.size = w.heap.size → K (a.put op.dst undef) W) : op.wp Tryz.prog a w K Q := by
  obtain ⟨a0, a1, hz⟩ := hz
  refine wp_store_row 40 x y ho z #[v0, v1] hx hy 40 #[a0, a1] hz (by kernel_rfl) rfl h1 ?_
  exact h _ (heap_setRow_self hz) (gb_setRow _ _ _) (by show (w.heap.modify z _).size = _; rw [Array.size_modify])
theorem ret_pos {fn : Func} {p : Tmp} (h : fn.results = #[.cell p 40]) {tmps : Array Value} {w : World} {g : Nat} (hp : tmps.getD p undef = .pointer (some ⟨g, 0, none⟩)) {v0 v1 : Value} (hg : w.heap[g]? = some (.cells #[v0, v1] 40 (0, 0))) :
    (results fn tmps).run Tryz.prog w = .ok (.agg #[v0, v1]) w := results_cell_row h tmps w g 40 _ _ _ hp hg Tryz.underlying40 rfl (by kernel_rfl)
set_option maxRecDepth 100000 in
set_option maxHeartbeats 8000000 in
theorem position79 {w0 w : World} (HE : ∀ V, Below w0.heap.size w0 V → ErrV V) (hw : Below w0.heap.size w0 w) {x : JV} {S : ByteArray} {kp ip : Option Addr} {kc ic : Nat} (h : KI w x kp kc ip ic) (hwt : x.wt ≤ 1000000) (hS : (⟨x.str.toArray⟩ : ByteArray) = S) (z : Nat) (hz0 : w0.heap.size ≤ z) (b : Bool) (hz : RB w z b) (K : ByteArray) (p : Int × Int) (b' : Bool) (hn : posR x K.data.toList b = (p, b')) :
    Calls Tryz.prog 79 #[.pointer (some ⟨z, 0, none⟩), .agg #[.int .i64 x.kind, .string S, .slice kp x.keys.length kc, .slice ip x.items.length ic], .string K] w fun e w' => e = .returned (.agg #[.int .i64 p.1, .int .i64 p.2]) ∧ RB w' z b' ∧ w.grownBy w' (some z) := by
  obtain ⟨W1, hW1⟩ : ∃ W, w.alloc (.cells #[.int .i64 x.kind, .string S, .slice kp x.keys.length kc, .slice ip x.items.length ic] 25) = W := ⟨_, rfl⟩
  obtain ⟨W, hW⟩ : ∃ W, W1.alloc (.cells #[.int .i64 0, .int .i64 0] 40) = W := ⟨_, rfl⟩
  have bW1 := alloc_b hW1
  have bW2 := alloc_b hW
  have bW := Below.on bW1 bW2
  have z1 : W1.heap.size = w.heap.size + 1 := by rw [← hW1]; simp
  have z2 : W.heap.size = w.heap.size + 2 := by rw [← hW]; simp; omega
  obtain ⟨c0, c1, c2, c3⟩ := box_of hW1 W bW2
  have hJ := World.alloc_heap_new W1 (.cells #[.int .i64 0, .int .i64 0] 40)
  rw [hW, z1] at hJ
  have HJ : Hid (posBox W (w.heap.size + 1)) := Lib.hid (pos_of hJ)
  obtain ⟨f, b1, hf⟩ : ∃ f b1, fldR x K.data.toList 6 b = (f, b1) := ⟨_, _, rfl⟩
  obtain ⟨F, hF⟩ : ∃ F : ByteArray, (⟨f.str.toArray⟩ : ByteArray) = F := ⟨_, rfl⟩
  have h70 := field70 (h.stay bW) hwt hS z b (hz.below bW) K 6 f b1 hf F hF
  have hfw : f.wt ≤ 1000000 := by
    have := fldR_wt x K.data.toList 6 b
    rw [hf] at this
    exact Nat.le_trans this hwt
  obtain ⟨pA, b2, hpA⟩ : ∃ p b2, smallR f kLine b1 = (p, b2) := ⟨_, _, rfl⟩
  obtain ⟨pB, b3, hpB⟩ : ∃ p b3, smallR f kChar b2 = (p, b3) := ⟨_, _, rfl⟩
  unfold posR at hn
  rw [hf] at hn
  dsimp only at hn
  rw [hpA] at hn
  dsimp only at hn
  rw [hpB] at hn
  simp only [Prod.mk.injEq] at hn
  obtain ⟨rfl, rfl⟩ := hn
  have hzl := hz.lt
  have HW0 := Lib.hid (And.intro bW (Below.on hw bW))
  have HE0 : Hid (∀ V, Below w0.heap.size w0 V → ErrV V) := Lib.hid HE
  have HWT := Lib.hid (And.intro hfw hF)
  subst hW1
  clear h hwt hS hz bW1 bW2 bW hJ hf hF hfw hw HE
  go_enter Tryz.func79, Tryz.ntmps79
  go_upto_region 2 with (first
    | (go_at_call 70; refine h70.mono ?_; rintro e w1 ⟨fp, fc, gp, gc, rfl, hkp, _, hr1, hg1⟩
       obtain ⟨V1, hV1⟩ : ∃ V, w1.alloc (.cells #[.int .i64 f.kind, .string F, .slice fp f.keys.length fc, .slice gp f.items.length gc] 25) = V := ⟨_, rfl⟩
       have hv1 := alloc_b hV1
       have hfb := row_at hV1))
  obtain ⟨zb, hzb⟩ : ∃ z, w1.heap.size = z := ⟨_, rfl⟩
  rw [hzb] at hfb
  have hzbl : W.heap.size ≤ zb := by have := hg1.size; omega
  have hjv : posBox V1 (w.heap.size + 1) := by
    obtain ⟨a0, a1, hj⟩ := HJ.out.gb hg1 (by omega)
    exact ⟨a0, a1, (hv1.block _ (ltS hj)).trans hj⟩
  have hbv : Below w0.heap.size w0 V1 := (below_gb HW0.out.2 hg1 hz0).trans (hv1.mono (by have := (below_gb HW0.out.2 hg1 hz0).size; omega))
  have hbd : Below V1.heap.size V1 V1.drew := (Below.refl _ _).drew
  have hkd := kp_on' (kp_on' hkp hv1) hbd
  have hA := small131 HE0.out (Below.on hbv hbd) hkd.ki HWT.out.1 HWT.out.2 z hz0 b1 ((hr1.below hv1).below hbd) ⟨#[108, 105, 110, 101]⟩ pA b2 hpA
  have HFB := Lib.hid hfb
  have HZB : Hid (zb < V1.heap.size) := Lib.hid (ltS hfb)
  have HJV := Lib.hid hjv
  have HJD : Hid (posBox V1.drew (w.heap.size + 1)) := Lib.hid hjv
  have HKD := Lib.hid hkd
  have HBD := Lib.hid (Below.on hbv hbd)
  have HF1 := Lib.hid ((((fr_b (z := z) HW0.out.1 (Nat.le_refl _)).trans (FrP.of hg1 (.inl rfl))).trans (FrP.of_none (gb_below' hv1))).drew)
  clear hkp hr1 hg1 hv1 hfb hjv hbv hbd hkd h70 c0 c1 c2 c3 z1
  refine wp_region_held_drew (S := (fun V => V.heap[zb]? = some (.cells #[.int .i64 f.kind, .string F, .slice fp f.keys.length fc, .slice gp f.items.length gc] 25 (0, 0)) ∧ posBox V (w.heap.size + 1))) (by kernel_rfl) ⟨HFB.out, HJV.out⟩ (fun hHeld => ?_)
  refine wpAnyH_take (i := 0) (oi := { dst := some 12, op := Op.move (Operand.tmp 0), type := 190, pos := "lsp.go:68", after := #[], guard := none }) (v := ?_) rfl (by kernel_rfl) (by kernel_rfl) (by kernel_rfl) (fun _ _ _ h => h) (Or.inl ⟨by rfl, ?_⟩) (by assumption) ?_
  rotate_left
  · intro wx hS; go_simp; with_reducible rfl
  try simp only [Act.put, aSA, aSZ, aSS]
  refine wpAnyH_take (i := 1) (oi := { dst := some 13, op := Op.load 25 (Operand.tmp 7), type := 25, pos := "lsp.go:68", after := #[], guard := none }) (v := ?_) rfl (by kernel_rfl) (by kernel_rfl) (by kernel_rfl) (fun _ _ _ h => h) (Or.inl ⟨by rfl, ?_⟩) (by assumption) ?_
  rotate_left
  · intro wx hS; obtain ⟨k0, k1, k2, k3⟩ := cells4 hS.1; go_simp; with_reducible rfl
  try simp only [Act.put, aSA, aSZ, aSS]
  refine wpAnyH_take (i := 3) (oi := { dst := some 15, op := Op.move (Operand.tmp 0), type := 190, pos := "lsp.go:68", after := #[], guard := none }) (v := ?_) rfl (by kernel_rfl) (by kernel_rfl) (by kernel_rfl) (fun _ _ _ h => h) (Or.inl ⟨by rfl, ?_⟩) (by assumption) ?_
  rotate_left
  · intro wx hS; go_simp; with_reducible rfl
  try simp only [Act.put, aSA, aSZ, aSS]
  refine wpAnyH_take (i := 4) (oi := { dst := some 16, op := Op.load 25 (Operand.tmp 7), type := 25, pos := "lsp.go:68", after := #[], guard := none }) (v := ?_) rfl (by kernel_rfl) (by kernel_rfl) (by kernel_rfl) (fun _ _ _ h => h) (Or.inl ⟨by rfl, ?_⟩) (by assumption) ?_
  rotate_left
  · intro wx hS; obtain ⟨k0, k1, k2, k3⟩ := cells4 hS.1; go_simp; with_reducible rfl
  try simp only [Act.put, aSA, aSZ, aSS]
  refine wpAnyH_ready (rs := [2]) (by kernel_rfl) (by simp) (AllReadyH.cons (o := { dst := some 14, op := Op.call { callee := Callee.value (Operand.func 131), args := #[Operand.tmp 12, Operand.tmp 13, Operand.const (Value.string { data := #[108, 105, 110, 101] })], argTypes := #[190, 25, 9] }, type := 3, pos := "lsp.go:68", after := #[{ on := 0, ground := Ground.data }, { on := 1, ground := Ground.data }], guard := none }) rfl (fun K' hK => ?_) AllReadyH.nil)
  rw [if_pos (by rfl)]
  go_simp
  go_at_call 131
  refine hA.mono ?_
  rintro e w2 ⟨rfl, hr2, hg2⟩
  have hb2 := below_gb HBD.out hg2 hz0
  have hk2 := HKD.out.fr (FrP.of (P := fun b => b = z) hg2 rfl) (fun b hb e => by omega)
  have hB := small131 HE0.out hb2 hk2.ki HWT.out.1 HWT.out.2 z hz0 b2 hr2 ⟨#[99, 104, 97, 114, 97, 99, 116, 101, 114]⟩ pB b3 hpB
  have hf2 := (hg2.block zb HZB.out (fun e => by have := Option.some.inj e; omega)).trans HFB.out
  have hj2 : posBox w2 (w.heap.size + 1) := HJD.out.gb hg2 (by omega)
  refine hK.out _ _ ⟨hf2, hj2⟩ (fun hH2 => ?_)
  clear hK K'
  try simp only [Act.put, aSA, aSZ, aSS]
  refine wpAnyH_ready (rs := [5]) (by kernel_rfl) (by simp) (AllReadyH.cons (o := { dst := some 17, op := Op.call { callee := Callee.value (Operand.func 131), args := #[Operand.tmp 15, Operand.tmp 16, Operand.const (Value.string { data := #[99, 104, 97, 114, 97, 99, 116, 101, 114] })], argTypes := #[190, 25, 9] }, type := 3, pos := "lsp.go:68", after := #[{ on := 3, ground := Ground.data }, { on := 4, ground := Ground.data }, { on := 2, ground := Ground.chain }], guard := none }) rfl (fun K' hK => ?_) AllReadyH.nil)
  rw [if_pos (by rfl)]
  go_simp
  go_at_call 131
  refine hB.mono ?_
  rintro e w3 ⟨rfl, hr3, hg3⟩
  have hf3 := (hg3.block zb (ltS hf2) (fun e => by have := Option.some.inj e; omega)).trans hf2
  have hj3 := hj2.gb hg3 (by omega)
  refine hK.out _ _ ⟨hf3, hj3⟩ (fun hH5 => ?_)
  clear hK K'
  try simp only [Act.put, aSA, aSZ, aSS]
  refine wpAnyH_take (i := 6) (oi := { dst := some 18, op := Op.build 40 #[(0, Operand.tmp 14), (1, Operand.tmp 17)], type := 40, pos := "lsp.go:68", after := #[{ on := 2, ground := Ground.data }, { on := 5, ground := Ground.data }], guard := none }) (v := ?_) rfl (by kernel_rfl) (by kernel_rfl) (by kernel_rfl) (fun _ _ _ h => h) (Or.inl ⟨by rfl, ?_⟩) (by assumption) ?_
  rotate_left
  · intro wx hS; go_simp; with_reducible rfl
  try simp only [Act.put, aSA, aSZ, aSS]
  refine wpAnyH_ready (rs := [7]) (by kernel_rfl) (by simp) (AllReadyH.cons (o := { dst := none, op := Op.store 40 (Operand.tmp 6) (Operand.tmp 18), type := 0, pos := "lsp.go:68", after := #[{ on := 6, ground := Ground.data }, { on := 5, ground := Ground.chain }, { on := 0, ground := Ground.phase }, { on := 1, ground := Ground.phase }, { on := 2, ground := Ground.phase }, { on := 3, ground := Ground.phase }, { on := 4, ground := Ground.phase }, { on := 5, ground := Ground.phase }, { on := 6, ground := Ground.phase }], guard := none }) rfl (fun K' hK => ?_) AllReadyH.nil)
  rw [if_pos (by rfl)]
  refine store_pos (.tmp 6) (.tmp 18) rfl (w.heap.size + 1) rfl (.int .i64 pA) (.int .i64 pB) rfl (by simp [Value.oneCell']) hj3 (fun V4 hV4 hg4 _ => ?_)
  have hf4 := (hg4.block zb (ltS hf3) (fun e => by have := Option.some.inj e; omega)).trans hf3
  refine hK.out _ _ ⟨hf4, pos_of hV4⟩ (fun hH7 => ?_)
  clear hK K'
  try simp only [Act.put]
  refine wpAnyH_done (by kernel_rfl) ?_ _
  go_wp2_with fail
  refine bodyPost_ret (ret_pos Tryz.results79 rfl hV4) rfl ?_
  exact ⟨rfl, (hg4.block z hr3.lt (fun e => by have := Option.some.inj e; omega)).trans hr3, gb_of (((HF1.out.trans (FrP.of hg2 (.inl rfl))).trans (FrP.of hg3 (.inl rfl))).trans (FrP.of hg4 (.inr (Nat.le_succ _))))⟩
/-- a box of it -/
def spanBox (w : World) (z : Nat) : Prop := ∃ a0 a1 a2 a3, w.heap[z]? = some (.cells #[a0, a1, a2, a3] 115 (0, 0))
theorem span_of {w : World} {z : Nat} {a0 a1 a2 a3 : Value} (h : w.heap[z]? = some (.cells #[a0, a1, a2, a3] 115 (0, 0))) : spanBox w z := ⟨a0, a1, a2, a3, h⟩
theorem spanBox.gb {w W : World} {z r : Nat} (h : spanBox w z) (hg : w.grownBy W (some r)) (hne : z ≠ r) : spanBox W z := by
  obtain ⟨a0, a1, a2, a3, h⟩ := h
  exact ⟨a0, a1, a2, a3, (hg.block z (ltS h) (fun e => hne (Option.some.inj e))).trans h⟩
theorem store_span {op : Oper} {a : Act} {w : World} {K : Act → World → Prop} {Q : Exit → Act → World → Prop} (x y : Operand) (ho : op.op = .store 115 x y) (z : Nat) (hx : a.eval x = .pointer (some ⟨z, 0, none⟩))
    (v0 v1 v2 v3 : Value) (hy : a.eval y = .agg #[v0, v1, v2, v3]) (h1 : (#[v0, v1, v2, v3] : Array Value).all (·.oneCell') = true) (hz : spanBox w z)
    (h : ∀ W, W.heap[z]? = some (.cells #[v0, v1, v2, v3] 115 (0, 0)) → w.grownBy W (some z) → W.heap.size = w.heap.size → K (a.put op.dst undef) W) : op.wp Tryz.prog a w K Q := by
  obtain ⟨a0, a1, a2, a3, hz⟩ := hz
  refine wp_store_row 115 x y ho z #[v0, v1, v2, v3] hx hy 115 #[a0, a1, a2, a3] hz (by kernel_rfl) rfl h1 ?_
  exact h _ (heap_setRow_self hz) (gb_setRow _ _ _) (by show (w.heap.modify z _).size = _; rw [Array.size_modify])
theorem ret_span {fn : Func} {p : Tmp} (h : fn.results = #[.cell p 115]) {tmps : Array Value} {w : World} {g : Nat} (hp : tmps.getD p undef = .pointer (some ⟨g, 0, none⟩)) {v0 v1 v2 v3 : Value} (hg : w.heap[g]? = some (.cells #[v0, v1, v2, v3] 115 (0, 0))) :
    (results fn tmps).run Tryz.prog w = .ok (.agg #[v0, v1, v2, v3]) w := results_cell_row h tmps w g 115 _ _ _ hp hg Tryz.underlying115 rfl (by kernel_rfl)
set_option maxRecDepth 100000 in
set_option maxHeartbeats 8000000 in
theorem span80 {w0 w : World} (HE : ∀ V, Below w0.heap.size w0 V → ErrV V) (hw : Below w0.heap.size w0 w) {x : JV} {S : ByteArray} {kp ip : Option Addr} {kc ic : Nat} (h : KI w x kp kc ip ic) (hwt : x.wt ≤ 1000000) (hS : (⟨x.str.toArray⟩ : ByteArray) = S) (z : Nat) (hz0 : w0.heap.size ≤ z) (b : Bool) (hz : RB w z b) (K : ByteArray) (p : (Int × Int) × (Int × Int)) (b' : Bool) (hn : spanR x K.data.toList b = (p, b')) :
    Calls Tryz.prog 80 #[.pointer (some ⟨z, 0, none⟩), .agg #[.int .i64 x.kind, .string S, .slice kp x.keys.length kc, .slice ip x.items.length ic], .string K] w fun e w' => e = .returned (.agg #[.int .i64 p.1.1, .int .i64 p.1.2, .int .i64 p.2.1, .int .i64 p.2.2]) ∧ RB w' z b' ∧ w.grownBy w' (some z) := by
  obtain ⟨W1, hW1⟩ : ∃ W, w.alloc (.cells #[.int .i64 x.kind, .string S, .slice kp x.keys.length kc, .slice ip x.items.length ic] 25) = W := ⟨_, rfl⟩
  obtain ⟨W, hW⟩ : ∃ W, W1.alloc (.cells #[.int .i64 0, .int .i64 0, .int .i64 0, .int .i64 0] 115) = W := ⟨_, rfl⟩
  have bW1 := alloc_b hW1
  have bW2 := alloc_b hW
  have bW := Below.on bW1 bW2
  have z1 : W1.heap.size = w.heap.size + 1 := by rw [← hW1]; simp
  have z2 : W.heap.size = w.heap.size + 2 := by rw [← hW]; simp; omega
  obtain ⟨c0, c1, c2, c3⟩ := box_of hW1 W bW2
  have hJ := World.alloc_heap_new W1 (.cells #[.int .i64 0, .int .i64 0, .int .i64 0, .int .i64 0] 115)
  rw [hW, z1] at hJ
  have HJ : Hid (spanBox W (w.heap.size + 1)) := Lib.hid (span_of hJ)
  obtain ⟨f, b1, hf⟩ : ∃ f b1, fldR x K.data.toList 6 b = (f, b1) := ⟨_, _, rfl⟩
  obtain ⟨F, hF⟩ : ∃ F : ByteArray, (⟨f.str.toArray⟩ : ByteArray) = F := ⟨_, rfl⟩
  have h70 := field70 (h.stay bW) hwt hS z b (hz.below bW) K 6 f b1 hf F hF
  have hfw : f.wt ≤ 1000000 := by
    have := fldR_wt x K.data.toList 6 b
    rw [hf] at this
    exact Nat.le_trans this hwt
  obtain ⟨pA, b2, hpA⟩ : ∃ p b2, posR f kStart b1 = (p, b2) := ⟨_, _, rfl⟩
  obtain ⟨pB, b3, hpB⟩ : ∃ p b3, posR f kEnd b2 = (p, b3) := ⟨_, _, rfl⟩
  unfold spanR at hn
  rw [hf] at hn
  dsimp only at hn
  rw [hpA] at hn
  dsimp only at hn
  rw [hpB] at hn
  simp only [Prod.mk.injEq] at hn
  obtain ⟨rfl, rfl⟩ := hn
  have hzl := hz.lt
  have HW0 := Lib.hid (And.intro bW (Below.on hw bW))
  have HE0 : Hid (∀ V, Below w0.heap.size w0 V → ErrV V) := Lib.hid HE
  have HWT := Lib.hid (And.intro hfw hF)
  subst hW1
  clear h hwt hS hz bW1 bW2 bW hJ hf hF hfw hw HE
  go_enter Tryz.func80, Tryz.ntmps80
  go_upto_region 2 with (first
    | (go_at_call 70; refine h70.mono ?_; rintro e w1 ⟨fp, fc, gp, gc, rfl, hkp, _, hr1, hg1⟩
       obtain ⟨V1, hV1⟩ : ∃ V, w1.alloc (.cells #[.int .i64 f.kind, .string F, .slice fp f.keys.length fc, .slice gp f.items.length gc] 25) = V := ⟨_, rfl⟩
       have hv1 := alloc_b hV1
       have hfb := row_at hV1))
  obtain ⟨zb, hzb⟩ : ∃ z, w1.heap.size = z := ⟨_, rfl⟩
  rw [hzb] at hfb
  have hzbl : W.heap.size ≤ zb := by have := hg1.size; omega
  have hjv : spanBox V1 (w.heap.size + 1) := by
    obtain ⟨a0, a1, a2, a3, hj⟩ := HJ.out.gb hg1 (by omega)
    exact ⟨a0, a1, a2, a3, (hv1.block _ (ltS hj)).trans hj⟩
  have hbv : Below w0.heap.size w0 V1 := (below_gb HW0.out.2 hg1 hz0).trans (hv1.mono (by have := (below_gb HW0.out.2 hg1 hz0).size; omega))
  have hbd : Below V1.heap.size V1 V1.drew := (Below.refl _ _).drew
  have hkd := kp_on' (kp_on' hkp hv1) hbd
  have hA := position79 HE0.out (Below.on hbv hbd) hkd.ki HWT.out.1 HWT.out.2 z hz0 b1 ((hr1.below hv1).below hbd) ⟨#[115, 116, 97, 114, 116]⟩ pA b2 hpA
  have HFB := Lib.hid hfb
  have HZB : Hid (zb < V1.heap.size) := Lib.hid (ltS hfb)
  have HJV := Lib.hid hjv
  have HJD : Hid (spanBox V1.drew (w.heap.size + 1)) := Lib.hid hjv
  have HKD := Lib.hid hkd
  have HBD := Lib.hid (Below.on hbv hbd)
  have HF1 := Lib.hid ((((fr_b (z := z) HW0.out.1 (Nat.le_refl _)).trans (FrP.of hg1 (.inl rfl))).trans (FrP.of_none (gb_below' hv1))).drew)
  clear hkp hr1 hg1 hv1 hfb hjv hbv hbd hkd h70 c0 c1 c2 c3 z1
  refine wp_region_held_drew (S := (fun V => V.heap[zb]? = some (.cells #[.int .i64 f.kind, .string F, .slice fp f.keys.length fc, .slice gp f.items.length gc] 25 (0, 0)) ∧ spanBox V (w.heap.size + 1))) (by kernel_rfl) ⟨HFB.out, HJV.out⟩ (fun hHeld => ?_)
  refine wpAnyH_take (i := 0) (oi := { dst := some 12, op := Op.move (Operand.tmp 0), type := 190, pos := "lsp.go:74", after := #[], guard := none }) (v := ?_) rfl (by kernel_rfl) (by kernel_rfl) (by kernel_rfl) (fun _ _ _ h => h) (Or.inl ⟨by rfl, ?_⟩) (by assumption) ?_
  rotate_left
  · intro wx hS; go_simp; with_reducible rfl
  try simp only [Act.put, aSA, aSZ, aSS]
  refine wpAnyH_take (i := 1) (oi := { dst := some 13, op := Op.load 25 (Operand.tmp 7), type := 25, pos := "lsp.go:74", after := #[], guard := none }) (v := ?_) rfl (by kernel_rfl) (by kernel_rfl) (by kernel_rfl) (fun _ _ _ h => h) (Or.inl ⟨by rfl, ?_⟩) (by assumption) ?_
  rotate_left
  · intro wx hS; obtain ⟨k0, k1, k2, k3⟩ := cells4 hS.1; go_simp; with_reducible rfl
  try simp only [Act.put, aSA, aSZ, aSS]
  refine wpAnyH_take (i := 3) (oi := { dst := some 15, op := Op.move (Operand.tmp 0), type := 190, pos := "lsp.go:74", after := #[], guard := none }) (v := ?_) rfl (by kernel_rfl) (by kernel_rfl) (by kernel_rfl) (fun _ _ _ h => h) (Or.inl ⟨by rfl, ?_⟩) (by assumption) ?_
  rotate_left
  · intro wx hS; go_simp; with_reducible rfl
  try simp only [Act.put, aSA, aSZ, aSS]
  refine wpAnyH_take (i := 4) (oi := { dst := some 16, op := Op.load 25 (Operand.tmp 7), type := 25, pos := "lsp.go:74", after := #[], guard := none }) (v := ?_) rfl (by kernel_rfl) (by kernel_rfl) (by kernel_rfl) (fun _ _ _ h => h) (Or.inl ⟨by rfl, ?_⟩) (by assumption) ?_
  rotate_left
  · intro wx hS; obtain ⟨k0, k1, k2, k3⟩ := cells4 hS.1; go_simp; with_reducible rfl
  try simp only [Act.put, aSA, aSZ, aSS]
  refine wpAnyH_ready (rs := [2]) (by kernel_rfl) (by simp) (AllReadyH.cons (o := { dst := some 14, op := Op.call { callee := Callee.value (Operand.func 79), args := #[Operand.tmp 12, Operand.tmp 13, Operand.const (Value.string { data := #[115, 116, 97, 114, 116] })], argTypes := #[190, 25, 9] }, type := 40, pos := "lsp.go:74", after := #[{ on := 0, ground := Ground.data }, { on := 1, ground := Ground.data }], guard := none }) rfl (fun K' hK => ?_) AllReadyH.nil)
  rw [if_pos (by rfl)]
  go_simp
  go_at_call 79
  refine hA.mono ?_
  rintro e w2 ⟨rfl, hr2, hg2⟩
  have hb2 := below_gb HBD.out hg2 hz0
  have hk2 := HKD.out.fr (FrP.of (P := fun b => b = z) hg2 rfl) (fun b hb e => by omega)
  have hB := position79 HE0.out hb2 hk2.ki HWT.out.1 HWT.out.2 z hz0 b2 hr2 ⟨#[101, 110, 100]⟩ pB b3 hpB
  have hf2 := (hg2.block zb HZB.out (fun e => by have := Option.some.inj e; omega)).trans HFB.out
  have hj2 : spanBox w2 (w.heap.size + 1) := HJD.out.gb hg2 (by omega)
  refine hK.out _ _ ⟨hf2, hj2⟩ (fun hH2 => ?_)
  clear hK K'
  try simp only [Act.put, aSA, aSZ, aSS]
  refine wpAnyH_ready (rs := [5]) (by kernel_rfl) (by simp) (AllReadyH.cons (o := { dst := some 17, op := Op.call { callee := Callee.value (Operand.func 79), args := #[Operand.tmp 15, Operand.tmp 16, Operand.const (Value.string { data := #[101, 110, 100] })], argTypes := #[190, 25, 9] }, type := 40, pos := "lsp.go:74", after := #[{ on := 3, ground := Ground.data }, { on := 4, ground := Ground.data }, { on := 2, ground := Ground.chain }], guard := none }) rfl (fun K' hK => ?_) AllReadyH.nil)
  rw [if_pos (by rfl)]
  go_simp
  go_at_call 79
  refine hB.mono ?_
  rintro e w3 ⟨rfl, hr3, hg3⟩
  have hf3 := (hg3.block zb (ltS hf2) (fun e => by have := Option.some.inj e; omega)).trans hf2
  have hj3 := hj2.gb hg3 (by omega)
  refine hK.out _ _ ⟨hf3, hj3⟩ (fun hH5 => ?_)
  clear hK K'
  try simp only [Act.put, aSA, aSZ, aSS]
  refine wpAnyH_take (i := 6) (oi := { dst := some 18, op := Op.build 115 #[(0, Operand.tmp 14), (1, Operand.tmp 17)], type := 115, pos := "lsp.go:74", after := #[{ on := 2, ground := Ground.data }, { on := 5, ground := Ground.data }], guard := none }) (v := ?_) rfl (by kernel_rfl) (by kernel_rfl) (by kernel_rfl) (fun _ _ _ h => h) (Or.inl ⟨by rfl, ?_⟩) (by assumption) ?_
  rotate_left
  · intro wx hS; go_simp; with_reducible rfl
  try simp only [Act.put, aSA, aSZ, aSS]
  refine wpAnyH_ready (rs := [7]) (by kernel_rfl) (by simp) (AllReadyH.cons (o := { dst := none, op := Op.store 115 (Operand.tmp 6) (Operand.tmp 18), type := 0, pos := "lsp.go:74", after := #[{ on := 6, ground := Ground.data }, { on := 5, ground := Ground.chain }, { on := 0, ground := Ground.phase }, { on := 1, ground := Ground.phase }, { on := 2, ground := Ground.phase }, { on := 3, ground := Ground.phase }, { on := 4, ground := Ground.phase }, { on := 5, ground := Ground.phase }, { on := 6, ground := Ground.phase }], guard := none }) rfl (fun K' hK => ?_) AllReadyH.nil)
  rw [if_pos (by rfl)]
  refine store_span (.tmp 6) (.tmp 18) rfl (w.heap.size + 1) rfl (.int .i64 pA.1) (.int .i64 pA.2) (.int .i64 pB.1) (.int .i64 pB.2) rfl (by simp [Value.oneCell']) hj3 (fun V4 hV4 hg4 _ => ?_)
  have hf4 := (hg4.block zb (ltS hf3) (fun e => by have := Option.some.inj e; omega)).trans hf3
  refine hK.out _ _ ⟨hf4, span_of hV4⟩ (fun hH7 => ?_)
  clear hK K'
  try simp only [Act.put]
  refine wpAnyH_done (by kernel_rfl) ?_ _
  go_wp2_with fail
  refine bodyPost_ret (ret_span Tryz.results80 rfl hV4) rfl ?_
  exact ⟨rfl, (hg4.block z hr3.lt (fun e => by have := Option.some.inj e; omega)).trans hr3, gb_of (((HF1.out.trans (FrP.of hg2 (.inl rfl))).trans (FrP.of hg3 (.inl rfl))).trans (FrP.of hg4 (.inr (Nat.le_succ _))))⟩
end Go.Proofs.Ls
/- LE: A store into a part of a row, of one cell or several. -/
namespace Go.Proofs.Ls
open Go.RowKit Go.Maps Go.Lib Go.Proofs.Utf Go.Proofs.Jt Go.Proofs

def putMany : Array Value → Nat → List Value → Array Value
  | cs, _, [] => cs
  | cs, o, v :: vs => putMany (cs.setIfInBounds o v) (o + 1) vs
theorem heap_setCells_self {z : Nat} {t : TypeId} {f : Nat × Nat} : ∀ (vs : List Value) (o : Nat) (w : World) (cs : Array Value), w.heap[z]? = some (.cells cs t f) → (w.setCells z o vs).heap[z]? = some (.cells (putMany cs o vs) t f)
  | [], _, _, _, h => h
  | v :: vs, o, w, cs, h => by
    show ((w.setCell ⟨z, o, none⟩ v).setCells z (o + 1) vs).heap[z]? = _
    exact heap_setCells_self vs (o + 1) _ _ (heap_setCell_self h o v)
theorem gb_setCells {z : Nat} : ∀ (vs : List Value) (o : Nat) (w : World), w.grownBy (w.setCells z o vs) (some z)
  | [], _, w => (FrP.refl (fun b => b = z) w).gb fun _ _ h => h
  | v :: vs, o, w => by
    have h1 := gb_set w z o v
    have h2 := gb_setCells (z := z) vs (o + 1) (w.setCell ⟨z, o, none⟩ v)
    exact ((FrP.of (P := fun b => b = z) h1 rfl).trans (FrP.of (P := fun b => b = z) h2 rfl)).gb fun _ _ h => h
theorem size_setCells' {z : Nat} : ∀ (vs : List Value) (o : Nat) (w : World), (w.setCells z o vs).heap.size = w.heap.size
  | [], _, _ => rfl
  | v :: vs, o, w => by
    show ((w.setCell ⟨z, o, none⟩ v).setCells z (o + 1) vs).heap.size = _
    rw [size_setCells' vs (o + 1) _]
    show (w.heap.modify z _).size = _
    rw [Array.size_modify]
theorem run_store_part {P : Program} (w : World) (b o : Nat) (ty : TypeId) (v : Value) (cs : List Value) (hv : v.cells = cs.toArray) (ht : w.there b o cs.length) (hi : (P.info? ty).map (·.size) = some cs.length) (h1 : ∀ u ∈ cs, u.oneCell' = true) :
    (storeVar ty ⟨b, o, none⟩ v).run P w = .ok () (w.setCells b o cs) := by
  have := run_storeCells_cells (P := P) b o cs 0 w (fun j hj => (ht j hj).1) (fun j hj => (ht j hj).2) h1
  cases hq : P.info? ty with
  | none => simp [hq] at hi
  | some i =>
    have hs : cs.length = i.size := by simp [hq] at hi; omega
    simp only [Nat.add_zero] at this
    simp [storeVar, sizeOf, typeInfo, hq, hv, hs, this]
theorem there_row {w : World} {z o n : Nat} {cs : Array Value} {t : TypeId} (hz : w.heap[z]? = some (.cells cs t (0, 0))) (hn : o + n ≤ cs.size) : w.there z o n := fun j hj => by
  refine ⟨?_, by simp [World.frozen?, hz]⟩
  simp [World.cell?, hz]
  omega
theorem wp_store_part {P : Program} {op : Oper} {a : Act} {w : World} {K : Act → World → Prop} {Q : Exit → Act → World → Prop} (ty : TypeId) (x y : Operand) (ho : op.op = .store ty x y)
    (z o : Nat) (v : Value) (vs : List Value) (hx : a.eval x = .pointer (some ⟨z, o, none⟩)) (hy : a.eval y = v) (hv : v.cells = vs.toArray) (hi : (P.info? ty).map (·.size) = some vs.length) (h1 : ∀ u ∈ vs, u.oneCell' = true)
    (cs cs' : Array Value) (t : TypeId) (hz : w.heap[z]? = some (.cells cs t (0, 0))) (hn : o + vs.length ≤ cs.size) (hc : putMany cs o vs = cs')
    (h : ∀ W, W.heap[z]? = some (.cells cs' t (0, 0)) → w.grownBy W (some z) → W.heap.size = w.heap.size → K (a.put op.dst undef) W) : op.wp P a w K Q := by
  unfold Oper.wp execOp
  simp only [ho, hx, hy, Instr.storeAt, Instr.sureAddr, Sem.run_bind, Sem.run_pure, Result.andThen_ok, run_store_part w z o ty v vs hv (there_row hz hn) hi h1]
  exact h _ (by rw [← hc]; exact heap_setCells_self vs o w cs hz) (gb_setCells vs o w) (size_setCells' vs o w)
theorem store_part {P : Program} {ops : Array Oper} {rest : List Oper} {op : Oper} {a : Act} {w : World} {Q : Exit → Act → World → Prop} (hgd : op.guard = none) (ty : TypeId) (x y : Operand) (ho : op.op = .store ty x y)
    (z o : Nat) (v : Value) (vs : List Value) (hx : a.eval x = .pointer (some ⟨z, o, none⟩)) (hy : a.eval y = v) (hv : v.cells = vs.toArray) (hi : (P.info? ty).map (·.size) = some vs.length) (h1 : ∀ u ∈ vs, u.oneCell' = true)
    (cs cs' : Array Value) (t : TypeId) (hz : w.heap[z]? = some (.cells cs t (0, 0))) (hn : o + vs.length ≤ cs.size) (hc : putMany cs o vs = cs')
    (h : ∀ W, W.heap[z]? = some (.cells cs' t (0, 0)) → w.grownBy W (some z) → W.heap.size = w.heap.size → wpList P ops Q rest (a.put op.dst undef) W) : wpList P ops Q (op :: rest) a w :=
  wpList_plain hgd fun _ hK => wp_store_part ty x y ho z o v vs hx hy hv hi h1 cs cs' t hz hn hc fun W a b c => hK _ _ (h W a b c)
end Go.Proofs.Ls
/- LF: lsp.Ask. Printed by gen_lf.py. -/
namespace Go.Proofs.Ls
open Go.RowKit Go.Maps Go.Lib Go.Proofs.Utf Go.Proofs.Jt Go.Proofs

/-- a question -/
structure QV where
  k : Int
  uri : List UInt8
  a : Int × Int
  b : Int × Int
  name : List UInt8
def kDoc : List UInt8 := [116, 101, 120, 116, 68, 111, 99, 117, 109, 101, 110, 116]
def kUri : List UInt8 := [117, 114, 105]
def kNew : List UInt8 := [110, 101, 119, 78, 97, 109, 101]
def kPos : List UInt8 := [112, 111, 115, 105, 116, 105, 111, 110]
def kRange : List UInt8 := [114, 97, 110, 103, 101]
def mRen : List UInt8 := [116, 101, 120, 116, 68, 111, 99, 117, 109, 101, 110, 116, 47, 114, 101, 110, 97, 109, 101]
def mPrep : List UInt8 := [116, 101, 120, 116, 68, 111, 99, 117, 109, 101, 110, 116, 47, 112, 114, 101, 112, 97, 114, 101, 82, 101, 110, 97, 109, 101]
def mAct : List UInt8 := [116, 101, 120, 116, 68, 111, 99, 117, 109, 101, 110, 116, 47, 99, 111, 100, 101, 65, 99, 116, 105, 111, 110]
/-- what a question says, and whether something was not as it must be -/
def askR (m : List UInt8) (x : JV) : QV × Bool :=
  let d := fldR x kDoc 6 false
  let u := fldR d.1 kUri 4 d.2
  if m = mRen then
    let n := fldR x kNew 4 u.2
    let p := posR x kPos n.2
    (⟨2, u.1.str, p.1, p.1, n.1.str⟩, p.2)
  else if m = mPrep then
    let p := posR x kPos u.2
    (⟨1, u.1.str, p.1, p.1, []⟩, p.2)
  else if m = mAct then
    let s := spanR x kRange u.2
    (⟨3, u.1.str, s.1.1, s.1.2, []⟩, s.2)
  else (⟨1, u.1.str, (0, 0), (0, 0), []⟩, true)
theorem RB.gb {w W : World} {z r : Nat} {b : Bool} (h : RB w z b) (hg : w.grownBy W (some r)) (hne : z ≠ r) : RB W z b := (hg.block z h.lt (fun e => hne (Option.some.inj e))).trans h
theorem cells7 {w : World} {z : Nat} {a b c d e f g : Value} {t : TypeId} (hz : w.heap[z]? = some (.cells #[a, b, c, d, e, f, g] t (0, 0))) : w.cell? ⟨z, 0, none⟩ = some a ∧ w.cell? ⟨z, 1, none⟩ = some b ∧ w.cell? ⟨z, 2, none⟩ = some c ∧ w.cell? ⟨z, 3, none⟩ = some d ∧ w.cell? ⟨z, 4, none⟩ = some e ∧ w.cell? ⟨z, 5, none⟩ = some f ∧ w.cell? ⟨z, 6, none⟩ = some g := by
  refine ⟨?_, ?_, ?_, ?_, ?_, ?_, ?_⟩ <;> simp [World.cell?, hz]
def QBox (w : World) (z : Nat) : Prop := ∃ a b c d e f g, w.heap[z]? = some (.cells #[a, b, c, d, e, f, g] 42 (0, 0))
theorem QBox.gb {w W : World} {z r : Nat} (h : QBox w z) (hg : w.grownBy W (some r)) (hne : z ≠ r) : QBox W z := by
  obtain ⟨a, b, c, d, e, f, g, h⟩ := h
  exact ⟨a, b, c, d, e, f, g, (hg.block z (ltS h) (fun e => hne (Option.some.inj e))).trans h⟩
theorem QBox.below {w W : World} {z : Nat} (h : QBox w z) (hb : Below w.heap.size w W) : QBox W z := by
  obtain ⟨a, b, c, d, e, f, g, h⟩ := h
  exact ⟨a, b, c, d, e, f, g, (hb.block z (ltS h)).trans h⟩
theorem ret_q {fn : Func} {p u : Tmp} (h : fn.results = #[.cell p 42, .tmp u]) {tmps : Array Value} {w : World} {g : Nat} (hp : tmps.getD p undef = .pointer (some ⟨g, 0, none⟩)) {v0 v1 v2 v3 v4 v5 v6 e : Value} (he : tmps.getD u undef = e) (hg : w.heap[g]? = some (.cells #[v0, v1, v2, v3, v4, v5, v6] 42 (0, 0))) :
    (results fn tmps).run Tryz.prog w = .ok (.tuple #[.agg #[v0, v1, v2, v3, v4, v5, v6], e]) w := by
  rw [results_cell_tmp h, hp, he]
  have hl := run_loadVar_row (P := Tryz.prog) w g 42 42 #[v0, v1, v2, v3, v4, v5, v6] (0, 0) _ hg Tryz.underlying42 rfl (by kernel_rfl)
  simp only [asAddr, Sem.run_pure, Result.andThen_ok, hl]
end Go.Proofs.Ls
/- LN: emendlaw25's of: the value that a text says. -/
namespace Go.Proofs.Ls
open Go.RowKit Go.Maps Go.Lib Go.Proofs.Utf Go.Proofs.Jt Go.Proofs

set_option maxRecDepth 100000 in
set_option maxHeartbeats 8000000 in
theorem of64 {T : ByteArray} {w : World} (hT : Tabs w) (hs : T.size ≤ 16777216) {v : JV} {n : Nat} {S : ByteArray} (hp : parV T.data.toList = (v, n)) (hS : (⟨v.str.toArray⟩ : ByteArray) = S) :
    Calls Tryz.prog 64 #[.string T] w fun e w' => ∃ kp kc ip ic, e = .returned (.agg #[.int .i64 v.kind, .string S, .slice kp v.keys.length kc, .slice ip v.items.length ic]) ∧ KP w' (w.heap.size ≤ ·) v kp kc ip ic ∧ v.str.length ≤ maxLen ∧ Below w.heap.size w w' := by
  obtain ⟨W, hW⟩ : ∃ W, w.alloc (.cells #[.int .i64 0, .string ⟨#[]⟩, .slice none 0 0, .slice none 0 0] 25) = W := ⟨_, rfl⟩
  have bW := alloc_b hW
  have z1 : W.heap.size = w.heap.size + 1 := by rw [← hW]; simp
  have hJ : JBox W w.heap.size := by rw [← hW]; exact JBox.alloc _ _ _ _ _
  have HJ : Hid (∀ V, Below W.heap.size W V → JBox V w.heap.size) := Lib.hid fun V hV => hJ.same (hV.block _ hJ.lt)
  have h52 := parse_is (hT.below bW) hs hp hS
  have HBW := Lib.hid bW
  clear hT hs hp hS bW hJ
  go_enter Tryz.func64, Tryz.ntmps64
  go_wp2_with (first
    | (go_at_call 52; refine h52.mono ?_; rintro e w1 ⟨kp, kc, ip, ic, rfl, hkp, hfl, hb1⟩
       obtain ⟨V1, hV1⟩ : ∃ V, w1.alloc (.cells #[.int .i64 v.kind, .string S, .slice kp v.keys.length kc, .slice ip v.items.length ic] 25) = V := ⟨_, rfl⟩
       have hv1 := alloc_b hV1
       have b1 := Below.on hb1 hv1
       obtain ⟨d0, d1, d2, d3⟩ := box_of hV1 V1 (Below.refl _ _)
       have HKP := Lib.hid hkp
       have HFL := Lib.hid hfl
       clear hkp hfl)
    | (refine store_val rfl (.tmp 2) (.tmp 10) rfl w.heap.size rfl (.int .i64 v.kind) (.string S) (.slice kp v.keys.length kc) (.slice ip v.items.length ic) rfl rfl (HJ.out V1 b1) (fun V hV hgV _ => ?_)))
  refine bodyPost_ret (ret_val Tryz.results64 rfl hV) rfl ?_
  have hk1 : KP V (w.heap.size ≤ ·) v kp kc ip ic := (((kp_on' HKP.out hv1).fr (FrP.of (P := fun b => b = w.heap.size) hgV rfl) (fun b hb e => by omega))).keep (Nat.le_refl _) (fun _ _ _ => rfl) (fun b hb _ => by omega)
  exact ⟨kp, kc, ip, ic, rfl, hk1, HFL.out, below_gb (Below.on HBW.out b1) hgV (Nat.le_refl _)⟩
end Go.Proofs.Ls
