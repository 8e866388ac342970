/- Merged texts: LM, MN. -/
import Derived.Test.YtaiaiiepbpbmmaaGreatDoorCmLG
import Derived.Test.YtaiaiiepbpbmmaaGreatDoorCmLH
import Derived.Test.YtaiaiiepbpbmmaaGreatDoorCmLJ
import Derived.Test.YtaiaiiepbpbmmaaGreatDoorCmLK
import Derived.Test.YtaiaiiepbpbmmaaGreatDoorCmMF
import Derived.Test.YtaiaiiepbpbmmaaGreatDoorCmKA
/- LM:  -/
namespace Go.Proofs.Ls
open Go.RowKit Go.Maps Go.Lib Go.Proofs.Utf Go.Proofs.Jt Go.Proofs

theorem ask_any {w : World} (hE : ErrV w) {x : JV} {S : ByteArray} {kp ip : Option Addr} {kc ic : Nat} (h : KI w x kp kc ip ic) (hwt : x.wt ≤ 1000000) (hS : (⟨x.str.toArray⟩ : ByteArray) = S) (m : List UInt8) (M : ByteArray) (hM : (⟨m.toArray⟩ : ByteArray) = M) (q : QV) (bad : Bool) (hq : askR m x = (q, bad)) (UR NR : ByteArray) (hUR : (⟨q.uri.toArray⟩ : ByteArray) = UR) (hNR : (⟨q.name.toArray⟩ : ByteArray) = NR) :
    Calls Tryz.prog 19 #[.string M, .agg #[.int .i64 x.kind, .string S, .slice kp x.keys.length kc, .slice ip x.items.length ic]] w fun e w' => e = .returned (.tuple #[if bad = true then .agg #[.int .i64 0, .string ⟨#[]⟩, .int .i64 0, .int .i64 0, .int .i64 0, .int .i64 0, .string ⟨#[]⟩] else .agg #[.int .i64 q.k, .string UR, .int .i64 q.a.1, .int .i64 q.a.2, .int .i64 q.b.1, .int .i64 q.b.2, .string NR], .bool (!bad)]) ∧ Below w.heap.size w w' := by
  by_cases m1 : m = mRen
  · subst m1
    obtain rfl : (⟨#[116, 101, 120, 116, 68, 111, 99, 117, 109, 101, 110, 116, 47, 114, 101, 110, 97, 109, 101]⟩ : ByteArray) = M := hM
    exact ask_ren hE h hwt hS q bad hq UR NR hUR hNR
  by_cases m2 : m = mPrep
  · subst m2
    obtain rfl : (⟨#[116, 101, 120, 116, 68, 111, 99, 117, 109, 101, 110, 116, 47, 112, 114, 101, 112, 97, 114, 101, 82, 101, 110, 97, 109, 101]⟩ : ByteArray) = M := hM
    exact ask_prep hE h hwt hS q bad hq UR NR hUR hNR
  by_cases m3 : m = mAct
  · subst m3
    obtain rfl : (⟨#[116, 101, 120, 116, 68, 111, 99, 117, 109, 101, 110, 116, 47, 99, 111, 100, 101, 65, 99, 116, 105, 111, 110]⟩ : ByteArray) = M := hM
    exact ask_act hE h hwt hS q bad hq UR NR hUR hNR
  exact ask_other hE h hwt hS M hM m1 m2 m3 q bad hq UR NR hUR hNR
end Go.Proofs.Ls
/- MN: The law's awake. Printed by gen_mn.py. -/
namespace Go.Proofs.Ls
open Go.RowKit Go.Maps Go.Lib Go.Proofs.Utf Go.Proofs.Jt Go.Proofs

def awT1 : ByteArray := ⟨#[123, 34, 105, 100, 34, 58, 55, 125]⟩
def awT2 : ByteArray := ⟨#[123, 34, 116, 101, 120, 116, 68, 111, 99, 117, 109, 101, 110, 116, 34, 58, 123, 34, 117, 114, 105, 34, 58, 34, 117, 34, 125, 44, 34, 112, 111, 115, 105, 116, 105, 111, 110, 34, 58, 123, 34, 108, 105, 110, 101, 34, 58, 49, 44, 34, 99, 104, 97, 114, 97, 99, 116, 101, 114, 34, 58, 50, 125, 44, 34, 110, 101, 119, 78, 97, 109, 101, 34, 58, 34, 110, 34, 125]⟩
def awV1 : JV := .mk 6 [] [[105, 100]] [.mk 3 [55] [] []]
def awV2 : JV := .mk 6 [] [[116, 101, 120, 116, 68, 111, 99, 117, 109, 101, 110, 116], [112, 111, 115, 105, 116, 105, 111, 110], [110, 101, 119, 78, 97, 109, 101]] [.mk 6 [] [[117, 114, 105]] [.mk 4 [117] [] []], .mk 6 [] [[108, 105, 110, 101], [99, 104, 97, 114, 97, 99, 116, 101, 114]] [.mk 3 [49] [] [], .mk 3 [50] [] []], .mk 4 [110] [] []]
theorem awP1 : parV awT1.data.toList = (awV1, 0) := by
  have : eqV (parV awT1.data.toList).1 awV1 = true ∧ (parV awT1.data.toList).2 = 0 := by decide +kernel
  exact Prod.ext ((eqV_iff _ _).1 this.1) this.2
theorem awP2 : parV awT2.data.toList = (awV2, 0) := by
  have : eqV (parV awT2.data.toList).1 awV2 = true ∧ (parV awT2.data.toList).2 = 0 := by decide +kernel
  exact Prod.ext ((eqV_iff _ _).1 this.1) this.2
theorem qv_ext {q r : QV} (h : q.k = r.k ∧ q.uri = r.uri ∧ q.a = r.a ∧ q.b = r.b ∧ q.name = r.name) : q = r := by
  cases q
  cases r
  simp only at h
  obtain ⟨rfl, rfl, rfl, rfl, rfl⟩ := h
  rfl
theorem awN : noteR mCancel awV1 = (⟨4, [], [], 0, [], [55]⟩, false) := by decide +kernel
theorem awQ : askR mRen awV2 = (⟨2, [117], (1, 2), (1, 2), [110]⟩, false) := by
  have : ((askR mRen awV2).1.k = 2 ∧ (askR mRen awV2).1.uri = [117] ∧ (askR mRen awV2).1.a = (1, 2) ∧ (askR mRen awV2).1.b = (1, 2) ∧ (askR mRen awV2).1.name = [110]) ∧ (askR mRen awV2).2 = false := by decide +kernel
  exact Prod.ext (qv_ext this.1) this.2
theorem aw_wt : awV1.wt ≤ 1000000 ∧ awV2.wt ≤ 1000000 := by decide +kernel
theorem aw_note {w : World} (hE : ∀ V, Below w.heap.size w V → Env V) {kp ip : Option Addr} {kc ic : Nat} (h : KI w awV1 kp kc ip ic) :
    Calls Tryz.prog 17 #[.string ⟨#[36, 47, 99, 97, 110, 99, 101, 108, 82, 101, 113, 117, 101, 115, 116]⟩, .agg #[.int .i64 6, .string ⟨#[]⟩, .slice kp 1 kc, .slice ip 1 ic]] w fun e w' => ∃ p c, e = .returned (.tuple #[.agg #[.int .i64 4, .string ⟨#[]⟩, .string ⟨#[]⟩, .int .i64 0, .slice p 0 c, .string ⟨#[55]⟩], .bool true]) ∧ Below w.heap.size w w' := by
  refine (note_any hE h aw_wt.1 rfl mCancel _ rfl _ _ awN).mono ?_
  rintro e w' ⟨v, rfl, ⟨p, c, rfl, _⟩, hb⟩
  exact ⟨p, c, rfl, hb⟩
theorem aw_ask {w : World} (hE : ErrV w) {kp ip : Option Addr} {kc ic : Nat} (h : KI w awV2 kp kc ip ic) :
    Calls Tryz.prog 19 #[.string ⟨#[116, 101, 120, 116, 68, 111, 99, 117, 109, 101, 110, 116, 47, 114, 101, 110, 97, 109, 101]⟩, .agg #[.int .i64 6, .string ⟨#[]⟩, .slice kp 3 kc, .slice ip 3 ic]] w fun e w' => e = .returned (.tuple #[.agg #[.int .i64 2, .string ⟨#[117]⟩, .int .i64 1, .int .i64 2, .int .i64 1, .int .i64 2, .string ⟨#[110]⟩], .bool true]) ∧ Below w.heap.size w w' :=
  ask_any hE h aw_wt.2 rfl mRen _ rfl _ _ awQ _ _ rfl rfl
theorem aw_of1 {w : World} (hT : Tabs w) : Calls Tryz.prog 64 #[.string ⟨#[123, 34, 105, 100, 34, 58, 55, 125]⟩] w fun e w' => ∃ kp kc ip ic, e = .returned (.agg #[.int .i64 6, .string ⟨#[]⟩, .slice kp 1 kc, .slice ip 1 ic]) ∧ KI w' awV1 kp kc ip ic ∧ Below w.heap.size w w' :=
  (of64 (T := awT1) hT (by decide) awP1 rfl).mono fun _ _ ⟨kp, kc, ip, ic, a, b, _, c⟩ => ⟨kp, kc, ip, ic, a, b.ki, c⟩
theorem aw_of2 {w : World} (hT : Tabs w) : Calls Tryz.prog 64 #[.string ⟨#[123, 34, 116, 101, 120, 116, 68, 111, 99, 117, 109, 101, 110, 116, 34, 58, 123, 34, 117, 114, 105, 34, 58, 34, 117, 34, 125, 44, 34, 112, 111, 115, 105, 116, 105, 111, 110, 34, 58, 123, 34, 108, 105, 110, 101, 34, 58, 49, 44, 34, 99, 104, 97, 114, 97, 99, 116, 101, 114, 34, 58, 50, 125, 44, 34, 110, 101, 119, 78, 97, 109, 101, 34, 58, 34, 110, 34, 125]⟩] w fun e w' => ∃ kp kc ip ic, e = .returned (.agg #[.int .i64 6, .string ⟨#[]⟩, .slice kp 3 kc, .slice ip 3 ic]) ∧ KI w' awV2 kp kc ip ic ∧ Below w.heap.size w w' :=
  (of64 (T := awT2) hT (by decide) awP2 rfl).mono fun _ _ ⟨kp, kc, ip, ic, a, b, _, c⟩ => ⟨kp, kc, ip, ic, a, b.ki, c⟩
set_option maxRecDepth 100000 in
set_option maxHeartbeats 16000000 in
theorem awake15 {w : World} (hE : ∀ V, Below w.heap.size w V → Env V) : Calls Tryz.prog 15 #[] w fun e w' => e = .returned (.bool true) ∧ Below w.heap.size w w' := by
  have h1 := aw_of1 (hE w (Below.refl _ _)).tabs
  have HE := Lib.hid hE
  clear hE
  go_enter Tryz.func15, Tryz.ntmps15
  go_wp2_with (first
    | (with_reducible (show Calls _ _ _ w _); go_at_call 64; refine h1.mono ?_; rintro e w1 ⟨kp, kc, ip, ic, rfl, hki, hb1⟩
       have hN := aw_note (fun V hV => HE.out V (Below.on hb1 hV)) hki)
    | (go_at_call 17; refine hN.mono ?_; rintro e w2 ⟨p, c, rfl, hb2⟩
       obtain ⟨V2, hV2⟩ : ∃ V, w2.alloc (.cells #[.int .i64 4, .string ⟨#[]⟩, .string ⟨#[]⟩, .int .i64 0, .slice p 0 c, .string ⟨#[55]⟩] 31) = V := ⟨_, rfl⟩
       have hv2 := alloc_b hV2
       have HR2 := Lib.hid (row_at hV2)
       have b2 := Below.on (Below.on hb1 hb2) hv2
       have h2 := aw_of2 (HE.out V2 b2).tabs)
    | (with_reducible (show Calls _ _ _ V2 _); go_at_call 64; refine h2.mono ?_; rintro e w3 ⟨kp', kc', ip', ic', rfl, hki3, hb3⟩
       have b3 := Below.on b2 hb3
       have hQ := aw_ask (HE.out w3 b3).rng hki3)
    | (go_at_call 19; refine hQ.mono ?_; rintro e w4 ⟨rfl, hb4⟩
       obtain ⟨V4, hV4⟩ : ∃ V, w4.alloc (.cells #[.int .i64 2, .string ⟨#[117]⟩, .int .i64 1, .int .i64 2, .int .i64 1, .int .i64 2, .string ⟨#[110]⟩] 42) = V := ⟨_, rfl⟩
       have hv4 := alloc_b hV4
       have b4 := Below.on b3 (Below.on hb4 hv4)
       have hr2 := ((Below.on hb3 (Below.on hb4 hv4)).block _ (ltS HR2.out)).trans HR2.out
       obtain ⟨y0, y1, y2, y3, y4, y5⟩ := cells6 hr2
       obtain ⟨q0, q1, q2, q3, q4, q5, q6⟩ := cells7 (row_at hV4)))
  go_ret
  exact ⟨rfl, b4⟩
end Go.Proofs.Ls
