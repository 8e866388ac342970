/- LspReads' walk. Printed by gen_mr.py. -/
import Derived.Test.YtaiaiiepbpbmmaaGreatDoorMK
import Derived.Test.YtaiaiiepbpbmmaaGreatDoorKE
import Derived.Test.YtaiaiiepbpbmmaaGreatDoorKC
import Derived.Test.YtaiaiiepbpbmmaaGreatDoorKA
import Derived.Test.YtaiaiiepbpbmmaaGreatDoorZY
namespace Go.Proofs.Ls
open Go.RowKit Go.Maps Go.Lib Go.Proofs.Utf Go.Proofs.Jt Go.Proofs

theorem meth_eq {m : List UInt8} {M : ByteArray} (hm : M.data.toList = m) {k : List UInt8} (h : m = k) : (M.toList == k) = true := by
  rw [ByteArray.toList_eq, hm, h]
  exact beq_self_eq_true _
theorem meth_neq {m : List UInt8} {M : ByteArray} (hm : M.data.toList = m) {k : List UInt8} (h : ¬ m = k) : (M.toList == k) = false := by
  rw [ByteArray.toList_eq, hm]
  exact beq_eq_false_iff_ne.2 h
theorem chsR_len : ∀ (l : List JV) (b : Bool), (chsR l b).1.length = l.length
  | [], _ => rfl
  | y :: ys, b => by rw [chsR_cons, List.length_cons, List.length_cons, chsR_len ys]
theorem note_len {m : List UInt8} {x : JV} {o : OpV} {b : Bool} (h : noteR m x = (o, b)) : o.ch.length ≤ x.wt := by
  unfold noteR at h
  split at h
  · simp only [Prod.mk.injEq] at h; rw [← h.1]; exact Nat.zero_le _
  · split at h
    · simp only [Prod.mk.injEq] at h
      rw [← h.1]
      show (chsR _ _).1.length ≤ _
      rw [chsR_len]
      refine Nat.le_trans (Nat.le_trans (items_len _) (wtL_le _)) (fldR_wt _ _ _ _)
    · split at h
      · simp only [Prod.mk.injEq] at h; rw [← h.1]; exact Nat.zero_le _
      · split at h
        · simp only [Prod.mk.injEq] at h; rw [← h.1]; exact Nat.zero_le _
        · simp only [Prod.mk.injEq] at h; rw [← h.1]; exact Nat.zero_le _
theorem ask_meth {m : List UInt8} {x : JV} {q : QV} (h : askR m x = (q, false)) : (decide (m = mPrep ∨ m = mRen ∨ m = mAct)) = true := by
  unfold askR at h
  split at h
  · simp [*]
  · split at h
    · simp [*]
    · split at h
      · simp [*]
      · simp only [Prod.mk.injEq] at h
        cases h.2
def zeroQ : QV := ⟨0, [], (0, 0), (0, 0), []⟩
theorem eqV_self (x : JV) : eqV x x = true := (eqV_iff x x).2 rfl
set_option maxRecDepth 100000 in
set_option maxHeartbeats 32000000 in
theorem lspReads_walk {w : World} {v : Value} {x : JV} (M : ByteArray) (hE : ∀ V, Below w.heap.size w V → Env V) (hx : JArg w v x) :
    Calls Tryz.prog 3 #[.string M, v] w fun e w' => e = .returned (.bool true) ∧ Below w.heap.size w w' := by
  obtain ⟨kp, kc, ip, ic, rfl, h, hsl⟩ := hx
  obtain ⟨S, hS⟩ : ∃ B : ByteArray, (⟨x.str.toArray⟩ : ByteArray) = B := ⟨_, rfl⟩
  unfold jval
  rw [hS]
  obtain ⟨m, hm⟩ : ∃ m, M.data.toList = m := ⟨_, rfl⟩
  have hM : (⟨m.toArray⟩ : ByteArray) = M := by rw [← hm]
  obtain ⟨W, hW⟩ : ∃ W, w.alloc (.cells #[.int .i64 x.kind, .string S, .slice kp x.keys.length kc, .slice ip x.items.length ic] 25) = W := ⟨_, rfl⟩
  have bW := alloc_b hW
  have zW : W.heap.size = w.heap.size + 1 := by rw [← hW]; simp
  have HX : Hid (∀ V, Below W.heap.size W V → _) := Lib.hid (box_of hW)
  obtain ⟨c0, c1, c2, c3⟩ := HX.out W (Below.refl _ _)
  have h14 := few14_any h hsl hS W bW
  have HE : Hid (∀ V, Below W.heap.size W V → Env V) := Lib.hid fun V hV => hE V (Below.on bW hV)
  have HBW := Lib.hid bW
  by_cases hf : 0 < x.sz 3000
  · have hwt : x.wt ≤ 1000000 := by have := few_wt3 hf; omega
    have t0 : decide (0 < x.sz 3000) = true := by simp [hf]
    rw [t0] at h14
    obtain ⟨o, nb, hn⟩ : ∃ o b, noteR m x = (o, b) := ⟨_, _, rfl⟩
    obtain ⟨q, qb, hq⟩ : ∃ o b, askR m x = (o, b) := ⟨_, _, rfl⟩
    obtain ⟨oo, hoo⟩ : ∃ oo, (if nb = true then zeroOp else o) = oo := ⟨_, rfl⟩
    obtain ⟨qq, hqq⟩ : ∃ oo, (if qb = true then zeroQ else q) = oo := ⟨_, rfl⟩
    obtain ⟨U, hU⟩ : ∃ B : ByteArray, (⟨oo.uri.toArray⟩ : ByteArray) = B := ⟨_, rfl⟩
    obtain ⟨T, hT⟩ : ∃ B : ByteArray, (⟨oo.text.toArray⟩ : ByteArray) = B := ⟨_, rfl⟩
    obtain ⟨I, hI⟩ : ∃ B : ByteArray, (⟨oo.id.toArray⟩ : ByteArray) = B := ⟨_, rfl⟩
    obtain ⟨QU, hQU⟩ : ∃ B : ByteArray, (⟨qq.uri.toArray⟩ : ByteArray) = B := ⟨_, rfl⟩
    obtain ⟨QN, hQN⟩ : ∃ B : ByteArray, (⟨qq.name.toArray⟩ : ByteArray) = B := ⟨_, rfl⟩
    have hol : oo.ch.length ≤ 1000000 := by
      rw [← hoo]
      split
      · exact Nat.zero_le _
      · exact Nat.le_trans (note_len hn) hwt
    obtain ⟨A, hA⟩ : ∃ b, decide (m = mPrep ∨ m = mRen ∨ m = mAct) = b := ⟨_, rfl⟩
    have hqA : qb = false → A = true := fun e => by rw [← hA]; rw [e] at hq; exact ask_meth hq
    have HCOPY : Hid (∀ V, Below W.heap.size W V → _) := Lib.hid fun V hV => copy_is h hwt hsl hS V (Below.on bW hV)
    have H17 : Hid (∀ (V : World) (k2 i2 : Option Addr) (kc2 ic2 : Nat), Below W.heap.size W V → KI V x k2 kc2 i2 ic2 → Calls Tryz.prog 17 #[.string M, .agg #[.int .i64 x.kind, .string S, .slice k2 x.keys.length kc2, .slice i2 x.items.length ic2]] V fun e w' => ∃ p c, e = .returned (.tuple #[.agg #[.int .i64 oo.k, .string U, .string T, .int .i64 oo.ver, .slice p oo.ch.length c, .string I], .bool (!nb)]) ∧ OpP w' 117 V.heap.size (.agg #[.int .i64 oo.k, .string U, .string T, .int .i64 oo.ver, .slice p oo.ch.length c, .string I]) oo ∧ Below V.heap.size V w') := Lib.hid fun V k2 i2 kc2 ic2 hV hk => (note_any (fun V' hV' => hE V' (Below.on (Below.on bW hV) hV')) hk hwt hS m M hM o nb hn).mono fun e w' ⟨v, e1, e2, e3⟩ => by
      rw [hoo] at e2
      obtain ⟨p, c, e4, e5⟩ := e2
      rw [hU, hT, hI] at e4
      subst e4
      exact ⟨p, c, e1, ⟨p, c, by rw [hU, hT, hI], e5⟩, e3⟩
    have H18 : Hid (∀ V, Below W.heap.size W V → Calls Tryz.prog 18 #[.string M, .agg #[.int .i64 x.kind, .string S, .slice kp x.keys.length kc, .slice ip x.items.length ic]] V fun e w' => ∃ p c, e = .returned (.tuple #[.agg #[.int .i64 oo.k, .string U, .string T, .int .i64 oo.ver, .slice p oo.ch.length c, .string I], .bool (!nb)]) ∧ OpP w' 140 V.heap.size (.agg #[.int .i64 oo.k, .string U, .string T, .int .i64 oo.ver, .slice p oo.ch.length c, .string I]) oo ∧ Below V.heap.size V w') := Lib.hid fun V hV => (rnote_any (h.stay (Below.on bW hV)) hwt hS m M hM o nb hn).mono fun e w' ⟨v, e1, e2, e3⟩ => by
      rw [hoo] at e2
      obtain ⟨p, c, e4, e5⟩ := e2
      rw [hU, hT, hI] at e4
      subst e4
      exact ⟨p, c, e1, ⟨p, c, by rw [hU, hT, hI], e5⟩, e3⟩
    have hqv : (if qb = true then Value.agg #[.int .i64 0, .string ⟨#[]⟩, .int .i64 0, .int .i64 0, .int .i64 0, .int .i64 0, .string ⟨#[]⟩] else .agg #[.int .i64 q.k, .string ⟨q.uri.toArray⟩, .int .i64 q.a.1, .int .i64 q.a.2, .int .i64 q.b.1, .int .i64 q.b.2, .string ⟨q.name.toArray⟩]) = .agg #[.int .i64 qq.k, .string QU, .int .i64 qq.a.1, .int .i64 qq.a.2, .int .i64 qq.b.1, .int .i64 qq.b.2, .string QN] := by
      rw [← hQU, ← hQN, ← hqq]
      cases qb <;> rfl
    have H19 : Hid (∀ (V : World) (k2 i2 : Option Addr) (kc2 ic2 : Nat), Below W.heap.size W V → KI V x k2 kc2 i2 ic2 → Calls Tryz.prog 19 #[.string M, .agg #[.int .i64 x.kind, .string S, .slice k2 x.keys.length kc2, .slice i2 x.items.length ic2]] V fun e w' => e = .returned (.tuple #[.agg #[.int .i64 qq.k, .string QU, .int .i64 qq.a.1, .int .i64 qq.a.2, .int .i64 qq.b.1, .int .i64 qq.b.2, .string QN], .bool (!qb)]) ∧ Below V.heap.size V w') := Lib.hid fun V k2 i2 kc2 ic2 hV hk => (ask_any (hE V (Below.on bW hV)).rng hk hwt hS m M hM q qb hq _ _ rfl rfl).mono fun e w' ⟨e1, e2⟩ => ⟨by rw [e1, hqv], e2⟩
    have H20 : Hid (∀ V, Below W.heap.size W V → Calls Tryz.prog 20 #[.string M, .agg #[.int .i64 x.kind, .string S, .slice kp x.keys.length kc, .slice ip x.items.length ic]] V fun e w' => e = .returned (.tuple #[.agg #[.int .i64 qq.k, .string QU, .int .i64 qq.a.1, .int .i64 qq.a.2, .int .i64 qq.b.1, .int .i64 qq.b.2, .string QN], .bool (!qb)]) ∧ Below V.heap.size V w') := Lib.hid fun V hV => (rask_any (h.stay (Below.on bW hV)) hwt hS m M hM q qb hq _ _ rfl rfl).mono fun e w' ⟨e1, e2⟩ => ⟨by rw [e1, hqv], e2⟩
    have H23 : Hid (∀ V, Calls Tryz.prog 23 #[.string M] V fun e w' => e = .returned (.bool A) ∧ Below V.heap.size V w') := Lib.hid fun V => by have := asks_any hM V; rw [hA] at this; exact this
    have H24 : Hid (∀ (V : World) (k2 i2 : Option Addr) (kc2 ic2 : Nat), Below W.heap.size W V → KI V x k2 kc2 i2 ic2 → Calls Tryz.prog 24 #[.agg #[.int .i64 x.kind, .string S, .slice k2 x.keys.length kc2, .slice i2 x.items.length ic2], .agg #[.int .i64 x.kind, .string S, .slice kp x.keys.length kc, .slice ip x.items.length ic]] V fun e w' => e = .returned (.bool true) ∧ Below V.heap.size V w') := Lib.hid fun V k2 i2 kc2 ic2 hV hk => by
      have := equal_is hk (h.stay (Below.on bW hV)) hS hS V (Below.refl _ _)
      rw [eqV_self] at this
      exact this
    have HM := Lib.hid (And.intro hm hA)
    have HQA := Lib.hid hqA
    have h16 := HCOPY.out W (Below.refl _ _)
    clear h hS hsl hE bW hf hwt t0 hn hq hoo hqq hU hT hI hQU hQN hA hqA hqv hm hM
    go_enter Tryz.func3, Tryz.ntmps3
    go_upto_region 8 with (first
      | (go_at_call 14; refine h14.mono ?_; rintro e w1 ⟨rfl, hb1⟩
         clear c0 c1 c2 c3
         obtain ⟨c0, c1, c2, c3⟩ := HX.out w1 hb1
         have h16 := HCOPY.out w1 hb1)
      | (go_at_call 16; refine h16.mono ?_; rintro e w2 ⟨k2, kc2, i2, ic2, rfl, hkp, hb2⟩
         obtain ⟨V2, hV2⟩ : ∃ V, w2.alloc (.cells #[.int .i64 x.kind, .string S, .slice k2 x.keys.length kc2, .slice i2 x.items.length ic2] 25) = V := ⟨_, rfl⟩
         have hv2 := alloc_b hV2
         have b2 := Below.on (Below.on hb1 hb2) hv2
         have HK2 : Hid (∀ V, Below V2.heap.size V2 V → KI V x k2 kc2 i2 ic2) := Lib.hid fun V hV => (kp_on' hkp hv2).ki.stay hV
         have HD : Hid (∀ V, Below V2.heap.size V2 V → _) := Lib.hid (box_of hV2)
         clear hkp c0 c1 c2 c3
         obtain ⟨d0, d1, d2, d3⟩ := HD.out V2 (Below.refl _ _)
         have h17 := H17.out V2 k2 i2 kc2 ic2 b2 (HK2.out V2 (Below.refl _ _)))
      | (go_at_call 17; refine h17.mono ?_; rintro e w3 ⟨p, c, rfl, hop, hb3⟩
         obtain ⟨V3, hV3⟩ : ∃ V, w3.alloc (.cells #[.int .i64 oo.k, .string U, .string T, .int .i64 oo.ver, .slice p oo.ch.length c, .string I] 31) = V := ⟨_, rfl⟩
         have hv3 := alloc_b hV3
         have b3 := Below.on b2 (Below.on hb3 hv3)
         have g3 := Below.on hb3 hv3
         have HR3 := Lib.hid (row_at hV3)
         have HO3 := Lib.hid (hop.below hv3)
         clear hop d0 d1 d2 d3
         obtain ⟨c0, c1, c2, c3⟩ := HX.out V3 b3
         have h18 := H18.out V3 b3)
      | (go_at_call 18; refine h18.mono ?_; rintro e w4 ⟨p', c', rfl, hop, hb4⟩
         obtain ⟨V4, hV4⟩ : ∃ V, w4.alloc (.cells #[.int .i64 oo.k, .string U, .string T, .int .i64 oo.ver, .slice p' oo.ch.length c', .string I] 36) = V := ⟨_, rfl⟩
         have hv4 := alloc_b hV4
         have b4 := Below.on b3 (Below.on hb4 hv4)
         have g4 := Below.on hb4 hv4
         have HR4 := Lib.hid (row_at hV4)
         have HO4 := Lib.hid (hop.below hv4)
         clear hop c0 c1 c2 c3
         obtain ⟨d0, d1, d2, d3⟩ := HD.out V4 (Below.on g3 g4)
         have h19 := H19.out V4 k2 i2 kc2 ic2 b4 (HK2.out V4 (Below.on g3 g4)))
      | (go_at_call 19; refine h19.mono ?_; rintro e w5 ⟨rfl, hb5⟩
         obtain ⟨V5, hV5⟩ : ∃ V, w5.alloc (.cells #[.int .i64 qq.k, .string QU, .int .i64 qq.a.1, .int .i64 qq.a.2, .int .i64 qq.b.1, .int .i64 qq.b.2, .string QN] 42) = V := ⟨_, rfl⟩
         have hv5 := alloc_b hV5
         have b5 := Below.on b4 (Below.on hb5 hv5)
         have g5 := Below.on hb5 hv5
         have HR5 := Lib.hid (row_at hV5)
         clear d0 d1 d2 d3
         obtain ⟨c0, c1, c2, c3⟩ := HX.out V5 b5
         have h20 := H20.out V5 b5)
      | (go_at_call 20; refine h20.mono ?_; rintro e w6 ⟨rfl, hb6⟩
         obtain ⟨V6, hV6⟩ : ∃ V, w6.alloc (.cells #[.int .i64 qq.k, .string QU, .int .i64 qq.a.1, .int .i64 qq.a.2, .int .i64 qq.b.1, .int .i64 qq.b.2, .string QN] 42) = V := ⟨_, rfl⟩
         have hv6 := alloc_b hV6
         have b6 := Below.on b5 (Below.on hb6 hv6)
         have g6 := Below.on hb6 hv6
         have HR6 := Lib.hid (row_at hV6)
         clear c0 c1 c2 c3))
    obtain ⟨x3, hx3⟩ : ∃ q, w3.heap.size = q := ⟨_, rfl⟩
    obtain ⟨x4, hx4⟩ : ∃ q, w4.heap.size = q := ⟨_, rfl⟩
    obtain ⟨x5, hx5⟩ : ∃ q, w5.heap.size = q := ⟨_, rfl⟩
    obtain ⟨x6, hx6⟩ : ∃ q, w6.heap.size = q := ⟨_, rfl⟩
    have hr3 : V3.heap[x3]? = some (.cells #[.int .i64 oo.k, .string U, .string T, .int .i64 oo.ver, .slice p oo.ch.length c, .string I] 31 (0, 0)) := by rw [← hx3]; exact HR3.out
    have hr4 : V4.heap[x4]? = some (.cells #[.int .i64 oo.k, .string U, .string T, .int .i64 oo.ver, .slice p' oo.ch.length c', .string I] 36 (0, 0)) := by rw [← hx4]; exact HR4.out
    have hr5 : V5.heap[x5]? = some (.cells #[.int .i64 qq.k, .string QU, .int .i64 qq.a.1, .int .i64 qq.a.2, .int .i64 qq.b.1, .int .i64 qq.b.2, .string QN] 42 (0, 0)) := by rw [← hx5]; exact HR5.out
    have hr6 : V6.heap[x6]? = some (.cells #[.int .i64 qq.k, .string QU, .int .i64 qq.a.1, .int .i64 qq.a.2, .int .i64 qq.b.1, .int .i64 qq.b.2, .string QN] 42 (0, 0)) := by rw [← hx6]; exact HR6.out
    have g46 := Below.on g5 g6
    have g36 := Below.on g4 g46
    have HSS : Hid (∀ v, Below V6.heap.size V6 v → v.heap[x3]? = some (.cells #[.int .i64 oo.k, .string U, .string T, .int .i64 oo.ver, .slice p oo.ch.length c, .string I] 31 (0, 0)) ∧ v.heap[x4]? = some (.cells #[.int .i64 oo.k, .string U, .string T, .int .i64 oo.ver, .slice p' oo.ch.length c', .string I] 36 (0, 0)) ∧ v.heap[x5]? = some (.cells #[.int .i64 qq.k, .string QU, .int .i64 qq.a.1, .int .i64 qq.a.2, .int .i64 qq.b.1, .int .i64 qq.b.2, .string QN] 42 (0, 0)) ∧ v.heap[x6]? = some (.cells #[.int .i64 qq.k, .string QU, .int .i64 qq.a.1, .int .i64 qq.a.2, .int .i64 qq.b.1, .int .i64 qq.b.2, .string QN] 42 (0, 0))) := Lib.hid fun V hV => by
      have q3 := Below.on g36 hV
      have q4 := Below.on g46 hV
      have q5 := Below.on g6 hV
      exact ⟨(q3.block _ (ltS hr3)).trans hr3, (q4.block _ (ltS hr4)).trans hr4, (q5.block _ (ltS hr5)).trans hr5, (hV.block _ (ltS hr6)).trans hr6⟩
    have hd6 : Below V6.heap.size V6 V6.drew := (Below.refl _ _).drew
    have HO3' := Lib.hid (HO3.out.below (Below.on g36 hd6))
    have HO4' := Lib.hid (HO4.out.below (Below.on g46 hd6))
    have HB6 := Lib.hid b6
    have HG26 := Lib.hid (Below.on g3 g36)
    have hA22 := theirs22 HO3'.out hol
    simp only [hx3, hx4, hx5, hx6]
    clear hr3 hr4 hr5 hr6 g36 g46 g3 g4 g5 g6 b2 b3 b4 b5 b6 hx3 hx4 hx5 hx6 HR3 HR4 HR5 HR6 h14 h16 h17 h18 h19 h20
    cases qb with
    | false =>
      obtain rfl : A = true := HQA.out rfl
      refine wp_region_held_drew (S := fun v => v.heap[x3]? = some (.cells #[.int .i64 oo.k, .string U, .string T, .int .i64 oo.ver, .slice p oo.ch.length c, .string I] 31 (0, 0)) ∧ v.heap[x4]? = some (.cells #[.int .i64 oo.k, .string U, .string T, .int .i64 oo.ver, .slice p' oo.ch.length c', .string I] 36 (0, 0)) ∧ v.heap[x5]? = some (.cells #[.int .i64 qq.k, .string QU, .int .i64 qq.a.1, .int .i64 qq.a.2, .int .i64 qq.b.1, .int .i64 qq.b.2, .string QN] 42 (0, 0)) ∧ v.heap[x6]? = some (.cells #[.int .i64 qq.k, .string QU, .int .i64 qq.a.1, .int .i64 qq.a.2, .int .i64 qq.b.1, .int .i64 qq.b.2, .string QN] 42 (0, 0))) (by kernel_rfl) (HSS.out _ hd6) (fun hHeld => ?_)
      refine wpAnyH_take (i := 0) (oi := { dst := some 45, op := Op.load 31 (Operand.tmp 6), type := 31, pos := "law.go:33", after := #[], guard := none }) (v := ?_) rfl (by kernel_rfl) (by kernel_rfl) (by kernel_rfl) (fun _ _ _ h => h) (Or.inl ⟨by rfl, ?_⟩) (by assumption) ?_
      rotate_left
      · intro wx hS; obtain ⟨k0, k1, k2, k3, k4, k5⟩ := cells6 hS.1; go_simp; with_reducible rfl
      try simp only [Act.put, aSA, aSZ, aSS]
      refine wpAnyH_take (i := 2) (oi := { dst := some 47, op := Op.load 36 (Operand.tmp 8), type := 36, pos := "law.go:33", after := #[], guard := none }) (v := ?_) rfl (by kernel_rfl) (by kernel_rfl) (by kernel_rfl) (fun _ _ _ h => h) (Or.inl ⟨by rfl, ?_⟩) (by assumption) ?_
      rotate_left
      · intro wx hS; obtain ⟨k0, k1, k2, k3, k4, k5⟩ := cells6 hS.2.1; go_simp; with_reducible rfl
      try simp only [Act.put, aSA, aSZ, aSS]
      refine wpAnyH_ready (rs := [1]) (by kernel_rfl) (by simp) (AllReadyH.cons (o := { dst := some 46, op := Op.call { callee := Callee.value (Operand.func 22), args := #[Operand.tmp 45], argTypes := #[31] }, type := 36, pos := "law.go:33", after := #[{ on := 0, ground := Ground.data }], guard := none }) rfl (fun K' hK => ?_) AllReadyH.nil)
      rw [if_pos (by rfl)]
      go_simp
      go_at_call 22
      refine hA22.mono ?_
      rintro e w7 ⟨v7, rfl, hop7, hb7⟩
      have hg7 := Below.on hd6 hb7
      have h21 := same21 hop7 (HO4'.out.below hb7) hol
      refine hK.out _ _ (HSS.out _ hg7) (fun hH1 => ?_)
      clear hK K'
      try simp only [Act.put, aSA, aSZ, aSS]
      refine wpAnyH_ready (rs := [3]) (by kernel_rfl) (by simp) (AllReadyH.cons (o := { dst := some 48, op := Op.call { callee := Callee.value (Operand.func 21), args := #[Operand.tmp 46, Operand.tmp 47], argTypes := #[36, 36] }, type := 4, pos := "law.go:33", after := #[{ on := 1, ground := Ground.data }, { on := 2, ground := Ground.data }, { on := 1, ground := Ground.chain }], guard := none }) rfl (fun K' hK => ?_) AllReadyH.nil)
      rw [if_pos (by rfl)]
      go_simp
      go_at_call 21
      refine h21.mono ?_
      rintro e w8 ⟨rfl, hb8⟩
      have hg8 := Below.on hg7 hb8
      refine hK.out _ _ (HSS.out _ hg8) (fun hH3 => ?_)
      clear hK K'
      try simp only [Act.put, aSA, aSZ, aSS]
      refine wpAnyH_take (i := 4) (oi := { dst := some 49, op := Op.unOp UnOp.not 4 (Operand.tmp 48), type := 4, pos := "law.go:33", after := #[{ on := 3, ground := Ground.data }], guard := none }) (v := ?_) rfl (by kernel_rfl) (by kernel_rfl) (by kernel_rfl) (fun _ _ _ h => h) (Or.inl ⟨by rfl, ?_⟩) (by assumption) ?_
      rotate_left
      · intro wx hS; go_simp; with_reducible rfl
      try simp only [Act.put, aSA, aSZ, aSS]
      refine wpAnyH_take (i := 5) (oi := { dst := some 50, op := Op.move (Operand.tmp 49), type := 4, pos := "law.go:33", after := #[{ on := 4, ground := Ground.data }, { on := 3, ground := Ground.chain }], guard := none }) (v := ?_) rfl (by kernel_rfl) (by kernel_rfl) (by kernel_rfl) (fun _ _ _ h => h) (Or.inl ⟨by rfl, ?_⟩) (by assumption) ?_
      rotate_left
      · intro wx hS; go_simp; with_reducible rfl
      try simp only [Act.put, aSA, aSZ, aSS]
      refine wpAnyH_take (i := 6) (oi := { dst := some 51, op := Op.move (Operand.tmp 7), type := 4, pos := "law.go:33", after := #[{ on := 5, ground := Ground.guard }], guard := some (5, false) }) (v := ?_) rfl (by kernel_rfl) (by kernel_rfl) (by kernel_rfl) (fun _ _ _ h => h) (Or.inl ⟨by rfl, ?_⟩) (by assumption) ?_
      rotate_left
      · intro wx hS; go_simp; with_reducible rfl
      try simp only [Act.put, aSA, aSZ, aSS]
      refine wpAnyH_take (i := 7) (oi := { dst := some 52, op := Op.move (Operand.tmp 9), type := 4, pos := "law.go:33", after := #[{ on := 5, ground := Ground.guard }], guard := some (5, false) }) (v := ?_) rfl (by kernel_rfl) (by kernel_rfl) (by kernel_rfl) (fun _ _ _ h => h) (Or.inl ⟨by rfl, ?_⟩) (by assumption) ?_
      rotate_left
      · intro wx hS; go_simp; with_reducible rfl
      try simp only [Act.put, aSA, aSZ, aSS]
      refine wpAnyH_take (i := 8) (oi := { dst := some 53, op := Op.binOp BinOp.neq 4 (Operand.tmp 51) (Operand.tmp 52) 4, type := 4, pos := "law.go:33", after := #[{ on := 6, ground := Ground.data }, { on := 7, ground := Ground.data }, { on := 5, ground := Ground.guard }], guard := some (5, false) }) (v := ?_) rfl (by kernel_rfl) (by kernel_rfl) (by kernel_rfl) (fun _ _ _ h => h) (Or.inl ⟨by rfl, ?_⟩) (by assumption) ?_
      rotate_left
      · intro wx hS; go_simp; with_reducible rfl
      try simp only [Act.put, aSA, aSZ, aSS]
      refine wpAnyH_take (i := 9) (oi := { dst := some 54, op := Op.pick (Operand.tmp 50) (Operand.const (Value.bool true)) (Operand.tmp 53), type := 4, pos := "law.go:33", after := #[{ on := 5, ground := Ground.data }, { on := 8, ground := Ground.data }], guard := none }) (v := ?_) rfl (by kernel_rfl) (by kernel_rfl) (by kernel_rfl) (fun _ _ _ h => h) (Or.inl ⟨by rfl, ?_⟩) (by assumption) ?_
      rotate_left
      · intro wx hS; go_simp; with_reducible rfl
      try simp only [Act.put, aSA, aSZ, aSS]
      refine wpAnyH_take (i := 10) (oi := { dst := some 55, op := Op.move (Operand.tmp 54), type := 4, pos := "law.go:33", after := #[{ on := 9, ground := Ground.data }, { on := 5, ground := Ground.chain }], guard := none }) (v := ?_) rfl (by kernel_rfl) (by kernel_rfl) (by kernel_rfl) (fun _ _ _ h => h) (Or.inl ⟨by rfl, ?_⟩) (by assumption) ?_
      rotate_left
      · intro wx hS; go_simp; with_reducible rfl
      try simp only [Act.put, aSA, aSZ, aSS]
      refine wpAnyH_take (i := 11) (oi := { dst := some 56, op := Op.load 42 (Operand.tmp 10), type := 42, pos := "law.go:33", after := #[{ on := 10, ground := Ground.guard }], guard := some (10, false) }) (v := ?_) rfl (by kernel_rfl) (by kernel_rfl) (by kernel_rfl) (fun _ _ _ h => h) (Or.inl ⟨by rfl, ?_⟩) (by assumption) ?_
      rotate_left
      · intro wx hS; obtain ⟨k0, k1, k2, k3, k4, k5, k6⟩ := cells7 hS.2.2.1; go_simp; with_reducible rfl
      try simp only [Act.put, aSA, aSZ, aSS]
      refine wpAnyH_take (i := 12) (oi := { dst := some 57, op := Op.load 42 (Operand.tmp 12), type := 42, pos := "law.go:33", after := #[{ on := 10, ground := Ground.guard }], guard := some (10, false) }) (v := ?_) rfl (by kernel_rfl) (by kernel_rfl) (by kernel_rfl) (fun _ _ _ h => h) (Or.inl ⟨by rfl, ?_⟩) (by assumption) ?_
      rotate_left
      · intro wx hS; obtain ⟨k0, k1, k2, k3, k4, k5, k6⟩ := cells7 hS.2.2.2; go_simp; with_reducible rfl
      try simp only [Act.put, aSA, aSZ, aSS]
      refine wpAnyH_take (i := 13) (oi := { dst := some 58, op := Op.binOp BinOp.neq 42 (Operand.tmp 56) (Operand.tmp 57) 42, type := 4, pos := "law.go:33", after := #[{ on := 11, ground := Ground.data }, { on := 12, ground := Ground.data }, { on := 10, ground := Ground.guard }], guard := some (10, false) }) (v := ?_) rfl (by kernel_rfl) (by kernel_rfl) (by kernel_rfl) (fun _ _ _ h => h) (Or.inl ⟨by rfl, ?_⟩) (by assumption) ?_
      rotate_left
      · intro wx hS; go_simp; with_reducible rfl
      try simp only [Act.put, aSA, aSZ, aSS]
      refine wpAnyH_take (i := 14) (oi := { dst := some 59, op := Op.pick (Operand.tmp 55) (Operand.const (Value.bool true)) (Operand.tmp 58), type := 4, pos := "law.go:33", after := #[{ on := 10, ground := Ground.data }, { on := 13, ground := Ground.data }], guard := none }) (v := ?_) rfl (by kernel_rfl) (by kernel_rfl) (by kernel_rfl) (fun _ _ _ h => h) (Or.inl ⟨by rfl, ?_⟩) (by assumption) ?_
      rotate_left
      · intro wx hS; go_simp; with_reducible rfl
      try simp only [Act.put, aSA, aSZ, aSS]
      refine wpAnyH_take (i := 15) (oi := { dst := some 60, op := Op.move (Operand.tmp 59), type := 4, pos := "law.go:33", after := #[{ on := 14, ground := Ground.data }, { on := 10, ground := Ground.chain }], guard := none }) (v := ?_) rfl (by kernel_rfl) (by kernel_rfl) (by kernel_rfl) (fun _ _ _ h => h) (Or.inl ⟨by rfl, ?_⟩) (by assumption) ?_
      rotate_left
      · intro wx hS; go_simp; with_reducible rfl
      try simp only [Act.put, aSA, aSZ, aSS]
      refine wpAnyH_take (i := 16) (oi := { dst := some 61, op := Op.move (Operand.tmp 11), type := 4, pos := "law.go:33", after := #[{ on := 15, ground := Ground.guard }], guard := some (15, false) }) (v := ?_) rfl (by kernel_rfl) (by kernel_rfl) (by kernel_rfl) (fun _ _ _ h => h) (Or.inl ⟨by rfl, ?_⟩) (by assumption) ?_
      rotate_left
      · intro wx hS; go_simp; with_reducible rfl
      try simp only [Act.put, aSA, aSZ, aSS]
      refine wpAnyH_take (i := 17) (oi := { dst := some 62, op := Op.move (Operand.tmp 13), type := 4, pos := "law.go:33", after := #[{ on := 15, ground := Ground.guard }], guard := some (15, false) }) (v := ?_) rfl (by kernel_rfl) (by kernel_rfl) (by kernel_rfl) (fun _ _ _ h => h) (Or.inl ⟨by rfl, ?_⟩) (by assumption) ?_
      rotate_left
      · intro wx hS; go_simp; with_reducible rfl
      try simp only [Act.put, aSA, aSZ, aSS]
      refine wpAnyH_take (i := 18) (oi := { dst := some 63, op := Op.binOp BinOp.neq 4 (Operand.tmp 61) (Operand.tmp 62) 4, type := 4, pos := "law.go:33", after := #[{ on := 16, ground := Ground.data }, { on := 17, ground := Ground.data }, { on := 15, ground := Ground.guard }], guard := some (15, false) }) (v := ?_) rfl (by kernel_rfl) (by kernel_rfl) (by kernel_rfl) (fun _ _ _ h => h) (Or.inl ⟨by rfl, ?_⟩) (by assumption) ?_
      rotate_left
      · intro wx hS; go_simp; with_reducible rfl
      try simp only [Act.put, aSA, aSZ, aSS]
      refine wpAnyH_take (i := 19) (oi := { dst := some 64, op := Op.pick (Operand.tmp 60) (Operand.const (Value.bool true)) (Operand.tmp 63), type := 4, pos := "law.go:33", after := #[{ on := 15, ground := Ground.data }, { on := 18, ground := Ground.data }], guard := none }) (v := ?_) rfl (by kernel_rfl) (by kernel_rfl) (by kernel_rfl) (fun _ _ _ h => h) (Or.inl ⟨by rfl, ?_⟩) (by assumption) ?_
      rotate_left
      · intro wx hS; go_simp; with_reducible rfl
      try simp only [Act.put, aSA, aSZ, aSS]
      refine wpAnyH_take (i := 20) (oi := { dst := some 65, op := Op.move (Operand.tmp 64), type := 4, pos := "law.go:33", after := #[{ on := 19, ground := Ground.data }, { on := 15, ground := Ground.chain }], guard := none }) (v := ?_) rfl (by kernel_rfl) (by kernel_rfl) (by kernel_rfl) (fun _ _ _ h => h) (Or.inl ⟨by rfl, ?_⟩) (by assumption) ?_
      rotate_left
      · intro wx hS; go_simp; with_reducible rfl
      try simp only [Act.put, aSA, aSZ, aSS]
      refine wpAnyH_take (i := 21) (oi := { dst := some 66, op := Op.move (Operand.tmp 11), type := 4, pos := "law.go:33", after := #[{ on := 20, ground := Ground.guard }], guard := some (20, false) }) (v := ?_) rfl (by kernel_rfl) (by kernel_rfl) (by kernel_rfl) (fun _ _ _ h => h) (Or.inl ⟨by rfl, ?_⟩) (by assumption) ?_
      rotate_left
      · intro wx hS; go_simp; with_reducible rfl
      try simp only [Act.put, aSA, aSZ, aSS]
      refine wpAnyH_take (i := 22) (oi := { dst := some 67, op := Op.move (Operand.tmp 66), type := 4, pos := "law.go:33", after := #[{ on := 21, ground := Ground.data }, { on := 20, ground := Ground.chain }, { on := 20, ground := Ground.guard }], guard := some (20, false) }) (v := ?_) rfl (by kernel_rfl) (by kernel_rfl) (by kernel_rfl) (fun _ _ _ h => h) (Or.inl ⟨by rfl, ?_⟩) (by assumption) ?_
      rotate_left
      · intro wx hS; go_simp; with_reducible rfl
      try simp only [Act.put, aSA, aSZ, aSS]
      refine wpAnyH_take (i := 23) (oi := { dst := some 68, op := Op.move (Operand.tmp 0), type := 9, pos := "law.go:33", after := #[{ on := 22, ground := Ground.guard }], guard := some (22, true) }) (v := ?_) rfl (by kernel_rfl) (by kernel_rfl) (by kernel_rfl) (fun _ _ _ h => h) (Or.inl ⟨by rfl, ?_⟩) (by assumption) ?_
      rotate_left
      · intro wx hS; go_simp; with_reducible rfl
      try simp only [Act.put, aSA, aSZ, aSS]
      refine wpAnyH_ready (rs := [24]) (by kernel_rfl) (by simp) (AllReadyH.cons (o := { dst := some 69, op := Op.call { callee := Callee.value (Operand.func 23), args := #[Operand.tmp 68], argTypes := #[9] }, type := 4, pos := "law.go:33", after := #[{ on := 23, ground := Ground.data }, { on := 22, ground := Ground.chain }, { on := 22, ground := Ground.guard }], guard := some (22, true) }) rfl (fun K' hK => ?_) AllReadyH.nil)
      rw [if_pos (by rfl)]
      go_simp
      go_at_call 23
      refine (H23.out w8).mono ?_
      rintro e w9 ⟨rfl, hb9⟩
      have hg9 := Below.on hg8 hb9
      refine hK.out _ _ (HSS.out _ hg9) (fun hH24 => ?_)
      clear hK K'
      try simp only [Act.put, aSA, aSZ, aSS]
      refine wpAnyH_take (i := 25) (oi := { dst := some 70, op := Op.unOp UnOp.not 4 (Operand.tmp 69), type := 4, pos := "law.go:33", after := #[{ on := 24, ground := Ground.data }, { on := 22, ground := Ground.guard }], guard := some (22, true) }) (v := ?_) rfl (by kernel_rfl) (by kernel_rfl) (by kernel_rfl) (fun _ _ _ h => h) (Or.inl ⟨by rfl, ?_⟩) (by assumption) ?_
      rotate_left
      · intro wx hS; go_simp; with_reducible rfl
      try simp only [Act.put, aSA, aSZ, aSS]
      refine wpAnyH_take (i := 26) (oi := { dst := some 71, op := Op.pick (Operand.tmp 67) (Operand.tmp 70) (Operand.const (Value.bool false)), type := 4, pos := "law.go:33", after := #[{ on := 22, ground := Ground.data }, { on := 25, ground := Ground.data }, { on := 20, ground := Ground.guard }], guard := some (20, false) }) (v := ?_) rfl (by kernel_rfl) (by kernel_rfl) (by kernel_rfl) (fun _ _ _ h => h) (Or.inl ⟨by rfl, ?_⟩) (by assumption) ?_
      rotate_left
      · intro wx hS; go_simp; with_reducible rfl
      try simp only [Act.put, aSA, aSZ, aSS]
      refine wpAnyH_take (i := 27) (oi := { dst := some 72, op := Op.pick (Operand.tmp 65) (Operand.const (Value.bool true)) (Operand.tmp 71), type := 4, pos := "law.go:33", after := #[{ on := 20, ground := Ground.data }, { on := 26, ground := Ground.data }], guard := none }) (v := ?_) rfl (by kernel_rfl) (by kernel_rfl) (by kernel_rfl) (fun _ _ _ h => h) (Or.inl ⟨by rfl, ?_⟩) (by assumption) ?_
      rotate_left
      · intro wx hS; go_simp; with_reducible rfl
      try simp only [Act.put, aSA, aSZ, aSS]
      refine wpAnyH_done (by kernel_rfl) ?_ _
      go_upto_region 10 with fail
      go_cut [14] (fun q wx => q = .bool true ∧ wx = w9)
      case first =>
        have hmM := HM.out.1
        by_cases m1 : m = mPrep
        · have u1 : (M.toList == ([116, 101, 120, 116, 68, 111, 99, 117, 109, 101, 110, 116, 47, 112, 114, 101, 112, 97, 114, 101, 82, 101, 110, 97, 109, 101] : List UInt8)) = true := meth_eq hmM m1
          go_wp2_with fail
          go_meet
          exact ⟨rfl, rfl⟩
        · have u1 : (M.toList == ([116, 101, 120, 116, 68, 111, 99, 117, 109, 101, 110, 116, 47, 112, 114, 101, 112, 97, 114, 101, 82, 101, 110, 97, 109, 101] : List UInt8)) = false := meth_neq hmM m1
          by_cases m2 : m = mRen
          · have u2 : (M.toList == ([116, 101, 120, 116, 68, 111, 99, 117, 109, 101, 110, 116, 47, 114, 101, 110, 97, 109, 101] : List UInt8)) = true := meth_eq hmM m2
            go_wp2_with fail
            go_meet
            exact ⟨rfl, rfl⟩
          · have u2 : (M.toList == ([116, 101, 120, 116, 68, 111, 99, 117, 109, 101, 110, 116, 47, 114, 101, 110, 97, 109, 101] : List UInt8)) = false := meth_neq hmM m2
            by_cases m3 : m = mAct
            · have u3 : (M.toList == ([116, 101, 120, 116, 68, 111, 99, 117, 109, 101, 110, 116, 47, 99, 111, 100, 101, 65, 99, 116, 105, 111, 110] : List UInt8)) = true := meth_eq hmM m3
              go_wp2_with fail
              go_meet
              exact ⟨rfl, rfl⟩
            · have u3 : (M.toList == ([116, 101, 120, 116, 68, 111, 99, 117, 109, 101, 110, 116, 47, 99, 111, 100, 101, 65, 99, 116, 105, 111, 110] : List UInt8)) = false := meth_neq hmM m3
              have := HM.out.2
              simp [m1, m2, m3] at this
      case rest =>
        obtain ⟨rfl, hwx⟩ := hcut
        rw [hwx]
        clear hwx
        have hbl := Below.on HB6.out hg9
        have h23 := H23.out w9
        go_wp2_with (first
          | (go_at_call 23; refine h23.mono ?_; rintro e wa ⟨rfl, hba⟩
             have bla := Below.on hbl hba
             have gla := Below.on HG26.out (Below.on hg9 hba)
             obtain ⟨d0, d1, d2, d3⟩ := HD.out wa gla
             obtain ⟨c0, c1, c2, c3⟩ := HX.out wa bla
             have h24 := H24.out wa k2 i2 kc2 ic2 bla (HK2.out wa gla))
          | (go_at_call 24; refine h24.mono ?_; rintro e wb ⟨rfl, hbb⟩
             have blb := Below.on bla hbb
             have h15 := awake15 (fun V hV => HE.out V (Below.on blb hV)))
          | (go_at_call 15; refine h15.mono ?_; rintro e wc ⟨rfl, hbc⟩))
        go_ret
        exact ⟨rfl, Below.on (Below.on HBW.out blb) hbc⟩
    | true =>
      refine wp_region_held_drew (S := fun v => v.heap[x3]? = some (.cells #[.int .i64 oo.k, .string U, .string T, .int .i64 oo.ver, .slice p oo.ch.length c, .string I] 31 (0, 0)) ∧ v.heap[x4]? = some (.cells #[.int .i64 oo.k, .string U, .string T, .int .i64 oo.ver, .slice p' oo.ch.length c', .string I] 36 (0, 0)) ∧ v.heap[x5]? = some (.cells #[.int .i64 qq.k, .string QU, .int .i64 qq.a.1, .int .i64 qq.a.2, .int .i64 qq.b.1, .int .i64 qq.b.2, .string QN] 42 (0, 0)) ∧ v.heap[x6]? = some (.cells #[.int .i64 qq.k, .string QU, .int .i64 qq.a.1, .int .i64 qq.a.2, .int .i64 qq.b.1, .int .i64 qq.b.2, .string QN] 42 (0, 0))) (by kernel_rfl) (HSS.out _ hd6) (fun hHeld => ?_)
      refine wpAnyH_take (i := 0) (oi := { dst := some 45, op := Op.load 31 (Operand.tmp 6), type := 31, pos := "law.go:33", after := #[], guard := none }) (v := ?_) rfl (by kernel_rfl) (by kernel_rfl) (by kernel_rfl) (fun _ _ _ h => h) (Or.inl ⟨by rfl, ?_⟩) (by assumption) ?_
      rotate_left
      · intro wx hS; obtain ⟨k0, k1, k2, k3, k4, k5⟩ := cells6 hS.1; go_simp; with_reducible rfl
      try simp only [Act.put, aSA, aSZ, aSS]
      refine wpAnyH_take (i := 2) (oi := { dst := some 47, op := Op.load 36 (Operand.tmp 8), type := 36, pos := "law.go:33", after := #[], guard := none }) (v := ?_) rfl (by kernel_rfl) (by kernel_rfl) (by kernel_rfl) (fun _ _ _ h => h) (Or.inl ⟨by rfl, ?_⟩) (by assumption) ?_
      rotate_left
      · intro wx hS; obtain ⟨k0, k1, k2, k3, k4, k5⟩ := cells6 hS.2.1; go_simp; with_reducible rfl
      try simp only [Act.put, aSA, aSZ, aSS]
      refine wpAnyH_ready (rs := [1]) (by kernel_rfl) (by simp) (AllReadyH.cons (o := { dst := some 46, op := Op.call { callee := Callee.value (Operand.func 22), args := #[Operand.tmp 45], argTypes := #[31] }, type := 36, pos := "law.go:33", after := #[{ on := 0, ground := Ground.data }], guard := none }) rfl (fun K' hK => ?_) AllReadyH.nil)
      rw [if_pos (by rfl)]
      go_simp
      go_at_call 22
      refine hA22.mono ?_
      rintro e w7 ⟨v7, rfl, hop7, hb7⟩
      have hg7 := Below.on hd6 hb7
      have h21 := same21 hop7 (HO4'.out.below hb7) hol
      refine hK.out _ _ (HSS.out _ hg7) (fun hH1 => ?_)
      clear hK K'
      try simp only [Act.put, aSA, aSZ, aSS]
      refine wpAnyH_ready (rs := [3]) (by kernel_rfl) (by simp) (AllReadyH.cons (o := { dst := some 48, op := Op.call { callee := Callee.value (Operand.func 21), args := #[Operand.tmp 46, Operand.tmp 47], argTypes := #[36, 36] }, type := 4, pos := "law.go:33", after := #[{ on := 1, ground := Ground.data }, { on := 2, ground := Ground.data }, { on := 1, ground := Ground.chain }], guard := none }) rfl (fun K' hK => ?_) AllReadyH.nil)
      rw [if_pos (by rfl)]
      go_simp
      go_at_call 21
      refine h21.mono ?_
      rintro e w8 ⟨rfl, hb8⟩
      have hg8 := Below.on hg7 hb8
      refine hK.out _ _ (HSS.out _ hg8) (fun hH3 => ?_)
      clear hK K'
      try simp only [Act.put, aSA, aSZ, aSS]
      refine wpAnyH_take (i := 4) (oi := { dst := some 49, op := Op.unOp UnOp.not 4 (Operand.tmp 48), type := 4, pos := "law.go:33", after := #[{ on := 3, ground := Ground.data }], guard := none }) (v := ?_) rfl (by kernel_rfl) (by kernel_rfl) (by kernel_rfl) (fun _ _ _ h => h) (Or.inl ⟨by rfl, ?_⟩) (by assumption) ?_
      rotate_left
      · intro wx hS; go_simp; with_reducible rfl
      try simp only [Act.put, aSA, aSZ, aSS]
      refine wpAnyH_take (i := 5) (oi := { dst := some 50, op := Op.move (Operand.tmp 49), type := 4, pos := "law.go:33", after := #[{ on := 4, ground := Ground.data }, { on := 3, ground := Ground.chain }], guard := none }) (v := ?_) rfl (by kernel_rfl) (by kernel_rfl) (by kernel_rfl) (fun _ _ _ h => h) (Or.inl ⟨by rfl, ?_⟩) (by assumption) ?_
      rotate_left
      · intro wx hS; go_simp; with_reducible rfl
      try simp only [Act.put, aSA, aSZ, aSS]
      refine wpAnyH_take (i := 6) (oi := { dst := some 51, op := Op.move (Operand.tmp 7), type := 4, pos := "law.go:33", after := #[{ on := 5, ground := Ground.guard }], guard := some (5, false) }) (v := ?_) rfl (by kernel_rfl) (by kernel_rfl) (by kernel_rfl) (fun _ _ _ h => h) (Or.inl ⟨by rfl, ?_⟩) (by assumption) ?_
      rotate_left
      · intro wx hS; go_simp; with_reducible rfl
      try simp only [Act.put, aSA, aSZ, aSS]
      refine wpAnyH_take (i := 7) (oi := { dst := some 52, op := Op.move (Operand.tmp 9), type := 4, pos := "law.go:33", after := #[{ on := 5, ground := Ground.guard }], guard := some (5, false) }) (v := ?_) rfl (by kernel_rfl) (by kernel_rfl) (by kernel_rfl) (fun _ _ _ h => h) (Or.inl ⟨by rfl, ?_⟩) (by assumption) ?_
      rotate_left
      · intro wx hS; go_simp; with_reducible rfl
      try simp only [Act.put, aSA, aSZ, aSS]
      refine wpAnyH_take (i := 8) (oi := { dst := some 53, op := Op.binOp BinOp.neq 4 (Operand.tmp 51) (Operand.tmp 52) 4, type := 4, pos := "law.go:33", after := #[{ on := 6, ground := Ground.data }, { on := 7, ground := Ground.data }, { on := 5, ground := Ground.guard }], guard := some (5, false) }) (v := ?_) rfl (by kernel_rfl) (by kernel_rfl) (by kernel_rfl) (fun _ _ _ h => h) (Or.inl ⟨by rfl, ?_⟩) (by assumption) ?_
      rotate_left
      · intro wx hS; go_simp; with_reducible rfl
      try simp only [Act.put, aSA, aSZ, aSS]
      refine wpAnyH_take (i := 9) (oi := { dst := some 54, op := Op.pick (Operand.tmp 50) (Operand.const (Value.bool true)) (Operand.tmp 53), type := 4, pos := "law.go:33", after := #[{ on := 5, ground := Ground.data }, { on := 8, ground := Ground.data }], guard := none }) (v := ?_) rfl (by kernel_rfl) (by kernel_rfl) (by kernel_rfl) (fun _ _ _ h => h) (Or.inl ⟨by rfl, ?_⟩) (by assumption) ?_
      rotate_left
      · intro wx hS; go_simp; with_reducible rfl
      try simp only [Act.put, aSA, aSZ, aSS]
      refine wpAnyH_take (i := 10) (oi := { dst := some 55, op := Op.move (Operand.tmp 54), type := 4, pos := "law.go:33", after := #[{ on := 9, ground := Ground.data }, { on := 5, ground := Ground.chain }], guard := none }) (v := ?_) rfl (by kernel_rfl) (by kernel_rfl) (by kernel_rfl) (fun _ _ _ h => h) (Or.inl ⟨by rfl, ?_⟩) (by assumption) ?_
      rotate_left
      · intro wx hS; go_simp; with_reducible rfl
      try simp only [Act.put, aSA, aSZ, aSS]
      refine wpAnyH_take (i := 11) (oi := { dst := some 56, op := Op.load 42 (Operand.tmp 10), type := 42, pos := "law.go:33", after := #[{ on := 10, ground := Ground.guard }], guard := some (10, false) }) (v := ?_) rfl (by kernel_rfl) (by kernel_rfl) (by kernel_rfl) (fun _ _ _ h => h) (Or.inl ⟨by rfl, ?_⟩) (by assumption) ?_
      rotate_left
      · intro wx hS; obtain ⟨k0, k1, k2, k3, k4, k5, k6⟩ := cells7 hS.2.2.1; go_simp; with_reducible rfl
      try simp only [Act.put, aSA, aSZ, aSS]
      refine wpAnyH_take (i := 12) (oi := { dst := some 57, op := Op.load 42 (Operand.tmp 12), type := 42, pos := "law.go:33", after := #[{ on := 10, ground := Ground.guard }], guard := some (10, false) }) (v := ?_) rfl (by kernel_rfl) (by kernel_rfl) (by kernel_rfl) (fun _ _ _ h => h) (Or.inl ⟨by rfl, ?_⟩) (by assumption) ?_
      rotate_left
      · intro wx hS; obtain ⟨k0, k1, k2, k3, k4, k5, k6⟩ := cells7 hS.2.2.2; go_simp; with_reducible rfl
      try simp only [Act.put, aSA, aSZ, aSS]
      refine wpAnyH_take (i := 13) (oi := { dst := some 58, op := Op.binOp BinOp.neq 42 (Operand.tmp 56) (Operand.tmp 57) 42, type := 4, pos := "law.go:33", after := #[{ on := 11, ground := Ground.data }, { on := 12, ground := Ground.data }, { on := 10, ground := Ground.guard }], guard := some (10, false) }) (v := ?_) rfl (by kernel_rfl) (by kernel_rfl) (by kernel_rfl) (fun _ _ _ h => h) (Or.inl ⟨by rfl, ?_⟩) (by assumption) ?_
      rotate_left
      · intro wx hS; go_simp; with_reducible rfl
      try simp only [Act.put, aSA, aSZ, aSS]
      refine wpAnyH_take (i := 14) (oi := { dst := some 59, op := Op.pick (Operand.tmp 55) (Operand.const (Value.bool true)) (Operand.tmp 58), type := 4, pos := "law.go:33", after := #[{ on := 10, ground := Ground.data }, { on := 13, ground := Ground.data }], guard := none }) (v := ?_) rfl (by kernel_rfl) (by kernel_rfl) (by kernel_rfl) (fun _ _ _ h => h) (Or.inl ⟨by rfl, ?_⟩) (by assumption) ?_
      rotate_left
      · intro wx hS; go_simp; with_reducible rfl
      try simp only [Act.put, aSA, aSZ, aSS]
      refine wpAnyH_take (i := 15) (oi := { dst := some 60, op := Op.move (Operand.tmp 59), type := 4, pos := "law.go:33", after := #[{ on := 14, ground := Ground.data }, { on := 10, ground := Ground.chain }], guard := none }) (v := ?_) rfl (by kernel_rfl) (by kernel_rfl) (by kernel_rfl) (fun _ _ _ h => h) (Or.inl ⟨by rfl, ?_⟩) (by assumption) ?_
      rotate_left
      · intro wx hS; go_simp; with_reducible rfl
      try simp only [Act.put, aSA, aSZ, aSS]
      refine wpAnyH_take (i := 16) (oi := { dst := some 61, op := Op.move (Operand.tmp 11), type := 4, pos := "law.go:33", after := #[{ on := 15, ground := Ground.guard }], guard := some (15, false) }) (v := ?_) rfl (by kernel_rfl) (by kernel_rfl) (by kernel_rfl) (fun _ _ _ h => h) (Or.inl ⟨by rfl, ?_⟩) (by assumption) ?_
      rotate_left
      · intro wx hS; go_simp; with_reducible rfl
      try simp only [Act.put, aSA, aSZ, aSS]
      refine wpAnyH_take (i := 17) (oi := { dst := some 62, op := Op.move (Operand.tmp 13), type := 4, pos := "law.go:33", after := #[{ on := 15, ground := Ground.guard }], guard := some (15, false) }) (v := ?_) rfl (by kernel_rfl) (by kernel_rfl) (by kernel_rfl) (fun _ _ _ h => h) (Or.inl ⟨by rfl, ?_⟩) (by assumption) ?_
      rotate_left
      · intro wx hS; go_simp; with_reducible rfl
      try simp only [Act.put, aSA, aSZ, aSS]
      refine wpAnyH_take (i := 18) (oi := { dst := some 63, op := Op.binOp BinOp.neq 4 (Operand.tmp 61) (Operand.tmp 62) 4, type := 4, pos := "law.go:33", after := #[{ on := 16, ground := Ground.data }, { on := 17, ground := Ground.data }, { on := 15, ground := Ground.guard }], guard := some (15, false) }) (v := ?_) rfl (by kernel_rfl) (by kernel_rfl) (by kernel_rfl) (fun _ _ _ h => h) (Or.inl ⟨by rfl, ?_⟩) (by assumption) ?_
      rotate_left
      · intro wx hS; go_simp; with_reducible rfl
      try simp only [Act.put, aSA, aSZ, aSS]
      refine wpAnyH_take (i := 19) (oi := { dst := some 64, op := Op.pick (Operand.tmp 60) (Operand.const (Value.bool true)) (Operand.tmp 63), type := 4, pos := "law.go:33", after := #[{ on := 15, ground := Ground.data }, { on := 18, ground := Ground.data }], guard := none }) (v := ?_) rfl (by kernel_rfl) (by kernel_rfl) (by kernel_rfl) (fun _ _ _ h => h) (Or.inl ⟨by rfl, ?_⟩) (by assumption) ?_
      rotate_left
      · intro wx hS; go_simp; with_reducible rfl
      try simp only [Act.put, aSA, aSZ, aSS]
      refine wpAnyH_take (i := 20) (oi := { dst := some 65, op := Op.move (Operand.tmp 64), type := 4, pos := "law.go:33", after := #[{ on := 19, ground := Ground.data }, { on := 15, ground := Ground.chain }], guard := none }) (v := ?_) rfl (by kernel_rfl) (by kernel_rfl) (by kernel_rfl) (fun _ _ _ h => h) (Or.inl ⟨by rfl, ?_⟩) (by assumption) ?_
      rotate_left
      · intro wx hS; go_simp; with_reducible rfl
      try simp only [Act.put, aSA, aSZ, aSS]
      refine wpAnyH_take (i := 21) (oi := { dst := some 66, op := Op.move (Operand.tmp 11), type := 4, pos := "law.go:33", after := #[{ on := 20, ground := Ground.guard }], guard := some (20, false) }) (v := ?_) rfl (by kernel_rfl) (by kernel_rfl) (by kernel_rfl) (fun _ _ _ h => h) (Or.inl ⟨by rfl, ?_⟩) (by assumption) ?_
      rotate_left
      · intro wx hS; go_simp; with_reducible rfl
      try simp only [Act.put, aSA, aSZ, aSS]
      refine wpAnyH_take (i := 22) (oi := { dst := some 67, op := Op.move (Operand.tmp 66), type := 4, pos := "law.go:33", after := #[{ on := 21, ground := Ground.data }, { on := 20, ground := Ground.chain }, { on := 20, ground := Ground.guard }], guard := some (20, false) }) (v := ?_) rfl (by kernel_rfl) (by kernel_rfl) (by kernel_rfl) (fun _ _ _ h => h) (Or.inl ⟨by rfl, ?_⟩) (by assumption) ?_
      rotate_left
      · intro wx hS; go_simp; with_reducible rfl
      try simp only [Act.put, aSA, aSZ, aSS]
      refine wpAnyH_take (i := 23) (oi := { dst := some 68, op := Op.move (Operand.tmp 0), type := 9, pos := "law.go:33", after := #[{ on := 22, ground := Ground.guard }], guard := some (22, true) }) (v := undef) rfl (by kernel_rfl) (by kernel_rfl) (by kernel_rfl) (fun _ _ _ h => h) (Or.inr ⟨by rfl, rfl⟩) (by assumption) ?_
      try simp only [Act.put, aSA, aSZ, aSS]
      refine wpAnyH_take (i := 24) (oi := { dst := some 69, op := Op.call { callee := Callee.value (Operand.func 23), args := #[Operand.tmp 68], argTypes := #[9] }, type := 4, pos := "law.go:33", after := #[{ on := 23, ground := Ground.data }, { on := 22, ground := Ground.chain }, { on := 22, ground := Ground.guard }], guard := some (22, true) }) (v := undef) rfl (by kernel_rfl) (by kernel_rfl) (by kernel_rfl) (fun _ _ _ h => h) (Or.inr ⟨by rfl, rfl⟩) (by assumption) ?_
      try simp only [Act.put, aSA, aSZ, aSS]
      refine wpAnyH_take (i := 25) (oi := { dst := some 70, op := Op.unOp UnOp.not 4 (Operand.tmp 69), type := 4, pos := "law.go:33", after := #[{ on := 24, ground := Ground.data }, { on := 22, ground := Ground.guard }], guard := some (22, true) }) (v := undef) rfl (by kernel_rfl) (by kernel_rfl) (by kernel_rfl) (fun _ _ _ h => h) (Or.inr ⟨by rfl, rfl⟩) (by assumption) ?_
      try simp only [Act.put, aSA, aSZ, aSS]
      refine wpAnyH_take (i := 26) (oi := { dst := some 71, op := Op.pick (Operand.tmp 67) (Operand.tmp 70) (Operand.const (Value.bool false)), type := 4, pos := "law.go:33", after := #[{ on := 22, ground := Ground.data }, { on := 25, ground := Ground.data }, { on := 20, ground := Ground.guard }], guard := some (20, false) }) (v := ?_) rfl (by kernel_rfl) (by kernel_rfl) (by kernel_rfl) (fun _ _ _ h => h) (Or.inl ⟨by rfl, ?_⟩) (by assumption) ?_
      rotate_left
      · intro wx hS; go_simp; with_reducible rfl
      try simp only [Act.put, aSA, aSZ, aSS]
      refine wpAnyH_take (i := 27) (oi := { dst := some 72, op := Op.pick (Operand.tmp 65) (Operand.const (Value.bool true)) (Operand.tmp 71), type := 4, pos := "law.go:33", after := #[{ on := 20, ground := Ground.data }, { on := 26, ground := Ground.data }], guard := none }) (v := ?_) rfl (by kernel_rfl) (by kernel_rfl) (by kernel_rfl) (fun _ _ _ h => h) (Or.inl ⟨by rfl, ?_⟩) (by assumption) ?_
      rotate_left
      · intro wx hS; go_simp; with_reducible rfl
      try simp only [Act.put, aSA, aSZ, aSS]
      refine wpAnyH_done (by kernel_rfl) ?_ _
      go_upto_region 10 with fail
      go_cut [14] (fun q wx => q = .bool A ∧ wx = w8)
      case first =>
        have hmM := HM.out.1
        by_cases m1 : m = mPrep
        · have u1 : (M.toList == ([116, 101, 120, 116, 68, 111, 99, 117, 109, 101, 110, 116, 47, 112, 114, 101, 112, 97, 114, 101, 82, 101, 110, 97, 109, 101] : List UInt8)) = true := meth_eq hmM m1
          obtain rfl : true = A := by rw [← HM.out.2]; simp [m1]
          go_wp2_with fail
          go_meet
          exact ⟨rfl, rfl⟩
        · have u1 : (M.toList == ([116, 101, 120, 116, 68, 111, 99, 117, 109, 101, 110, 116, 47, 112, 114, 101, 112, 97, 114, 101, 82, 101, 110, 97, 109, 101] : List UInt8)) = false := meth_neq hmM m1
          by_cases m2 : m = mRen
          · have u2 : (M.toList == ([116, 101, 120, 116, 68, 111, 99, 117, 109, 101, 110, 116, 47, 114, 101, 110, 97, 109, 101] : List UInt8)) = true := meth_eq hmM m2
            obtain rfl : true = A := by rw [← HM.out.2]; simp [m2]
            go_wp2_with fail
            go_meet
            exact ⟨rfl, rfl⟩
          · have u2 : (M.toList == ([116, 101, 120, 116, 68, 111, 99, 117, 109, 101, 110, 116, 47, 114, 101, 110, 97, 109, 101] : List UInt8)) = false := meth_neq hmM m2
            by_cases m3 : m = mAct
            · have u3 : (M.toList == ([116, 101, 120, 116, 68, 111, 99, 117, 109, 101, 110, 116, 47, 99, 111, 100, 101, 65, 99, 116, 105, 111, 110] : List UInt8)) = true := meth_eq hmM m3
              obtain rfl : true = A := by rw [← HM.out.2]; simp [m3]
              go_wp2_with fail
              go_meet
              exact ⟨rfl, rfl⟩
            · have u3 : (M.toList == ([116, 101, 120, 116, 68, 111, 99, 117, 109, 101, 110, 116, 47, 99, 111, 100, 101, 65, 99, 116, 105, 111, 110] : List UInt8)) = false := meth_neq hmM m3
              obtain rfl : false = A := by rw [← HM.out.2]; simp [m1, m2, m3]
              go_wp2_with fail
              go_meet
              exact ⟨rfl, rfl⟩
      case rest =>
        obtain ⟨rfl, hwx⟩ := hcut
        rw [hwx]
        clear hwx
        have hbl := Below.on HB6.out hg8
        have h23 := H23.out w8
        have hAA : (A == A) = true := by simp
        go_wp2_with (first
          | (go_at_call 23; refine h23.mono ?_; rintro e wa ⟨rfl, hba⟩
             have bla := Below.on hbl hba
             have gla := Below.on HG26.out (Below.on hg8 hba)
             obtain ⟨d0, d1, d2, d3⟩ := HD.out wa gla
             obtain ⟨c0, c1, c2, c3⟩ := HX.out wa bla
             have h24 := H24.out wa k2 i2 kc2 ic2 bla (HK2.out wa gla))
          | (go_at_call 24; refine h24.mono ?_; rintro e wb ⟨rfl, hbb⟩
             have blb := Below.on bla hbb
             have h15 := awake15 (fun V hV => HE.out V (Below.on blb hV)))
          | (go_at_call 15; refine h15.mono ?_; rintro e wc ⟨rfl, hbc⟩))
        go_ret
        exact ⟨rfl, Below.on (Below.on HBW.out blb) hbc⟩
  · have t0 : decide (0 < x.sz 3000) = false := by simp [hf]
    rw [t0] at h14
    have HA : Hid (∀ V, Below W.heap.size W V → Calls Tryz.prog 15 #[] V fun e w' => e = .returned (.bool true) ∧ Below V.heap.size V w') := Lib.hid fun V hV => awake15 fun V' hV' => hE V' (Below.on (Below.on bW hV) hV')
    clear h hS hsl hE bW hf t0 hm hM
    go_enter Tryz.func3, Tryz.ntmps3
    go_wp2_with (first
      | (go_at_call 14; refine h14.mono ?_; rintro e w1 ⟨rfl, hb1⟩
         have h15 := HA.out w1 hb1)
      | (go_at_call 15; refine h15.mono ?_; rintro e w2 ⟨rfl, hb2⟩))
    go_ret
    exact ⟨rfl, Below.on (Below.on HBW.out hb1) hb2⟩
end Go.Proofs.Ls
