/- Merged texts: OA, OE. -/
import Derived.Test.YtaiaiiepbpbmmaaGreatDoorCmKE
import Derived.Test.YtaiaiiepbpbmmaaGreatDoorCmOC
import Derived.Test.YtaiaiiepbpbmmaaGreatDoorCmOD
import Derived.Test.YtaiaiiepbpbmmaaGreatDoorCmNP
/- OA: emendlaw25's no and put. -/
namespace Go.Proofs.Ls
open Go.RowKit Go.Maps Go.Lib Go.Proofs.Utf Go.Proofs.Jt Go.Proofs

set_option maxRecDepth 100000 in
set_option maxHeartbeats 4000000 in
theorem put66 {w : World} (hE : ∀ V, Below w.heap.size w V → Env V) {v : JV} {S X : ByteArray} {kp ip : Option Addr} {kc ic : Nat} (h : KI w v kp kc ip ic) (hwt : v.wt ≤ 1000000) (hS : (⟨v.str.toArray⟩ : ByteArray) = S) (hp : putV v = (X.data.toList, 0)) :
    Calls Tryz.prog 66 #[.agg #[.int .i64 v.kind, .string S, .slice kp v.keys.length kc, .slice ip v.items.length ic]] w fun e w' => e = .returned (.string X) ∧ Below w.heap.size w w' := by
  obtain ⟨W, hW⟩ : ∃ W, w.alloc (.cells #[.int .i64 v.kind, .string S, .slice kp v.keys.length kc, .slice ip v.items.length ic] 25) = W := ⟨_, rfl⟩
  have bW := alloc_b hW
  obtain ⟨c0, c1, c2, c3⟩ := box_of hW W (Below.refl _ _)
  have h84 := put_is (hE w (Below.refl _ _)).tabs h hwt hS hp W bW
  have HB := Lib.hid bW
  clear hE h hwt hS hp bW
  go_enter Tryz.func66, Tryz.ntmps66
  go_wp2_with (first
    | (go_at_call 84; refine h84.mono ?_; rintro e w1 ⟨rfl, hb1⟩))
  go_ret
  exact ⟨rfl, Below.on HB.out hb1⟩
set_option maxRecDepth 100000 in
set_option maxHeartbeats 8000000 in
theorem no65 {w : World} (hE : ∀ V, Below w.heap.size w V → Env V) (m : List UInt8) {M T : ByteArray} (hM : (⟨m.toArray⟩ : ByteArray) = M) (hs : T.size ≤ 16777216) {v : JV} {n : Nat} (hp : parV T.data.toList = (v, n)) (hwt : v.wt ≤ 1000000) (hn : (noteR m v).2 = true) (hq : (askR m v).2 = true) :
    Calls Tryz.prog 65 #[.string M, .string T] w fun e w' => e = .returned (.bool true) ∧ Below w.heap.size w w' := by
  obtain ⟨S, hS⟩ : ∃ B : ByteArray, (⟨v.str.toArray⟩ : ByteArray) = B := ⟨_, rfl⟩
  have H64 : Hid (∀ V, Below w.heap.size w V → Calls Tryz.prog 64 #[.string T] V fun e w' => ∃ kp kc ip ic, e = .returned (.agg #[.int .i64 v.kind, .string S, .slice kp v.keys.length kc, .slice ip v.items.length ic]) ∧ KP w' (V.heap.size ≤ ·) v kp kc ip ic ∧ v.str.length ≤ maxLen ∧ Below V.heap.size V w') := Lib.hid fun V hV => of64 (hE V hV).tabs hs hp hS
  have H17 : Hid (∀ (V : World) (kp : Option Addr) (kc : Nat) (ip : Option Addr) (ic : Nat), Below w.heap.size w V → KI V v kp kc ip ic → Calls Tryz.prog 17 #[.string M, .agg #[.int .i64 v.kind, .string S, .slice kp v.keys.length kc, .slice ip v.items.length ic]] V fun e w' => ∃ p c, e = .returned (.tuple #[.agg #[.int .i64 0, .string ⟨#[]⟩, .string ⟨#[]⟩, .int .i64 0, .slice p 0 c, .string ⟨#[]⟩], .bool false]) ∧ Below V.heap.size V w') := Lib.hid fun V kp kc ip ic hV hk => by
    refine (note_any (fun V' hV' => hE V' (Below.on hV hV')) hk hwt hS m M hM (noteR m v).1 true (Prod.ext rfl hn)).mono ?_
    rintro e w' ⟨_, rfl, ⟨p, c, rfl, _⟩, hb⟩
    exact ⟨p, c, rfl, hb⟩
  have H19 : Hid (∀ (V : World) (kp : Option Addr) (kc : Nat) (ip : Option Addr) (ic : Nat), Below w.heap.size w V → KI V v kp kc ip ic → Calls Tryz.prog 19 #[.string M, .agg #[.int .i64 v.kind, .string S, .slice kp v.keys.length kc, .slice ip v.items.length ic]] V fun e w' => e = .returned (.tuple #[.agg #[.int .i64 0, .string ⟨#[]⟩, .int .i64 0, .int .i64 0, .int .i64 0, .int .i64 0, .string ⟨#[]⟩], .bool false]) ∧ Below V.heap.size V w') := Lib.hid fun V kp kc ip ic hV hk =>
    ask_any (hE V hV).rng hk hwt hS m M hM (askR m v).1 true (Prod.ext rfl hq) _ _ rfl rfl
  have h64a := H64.out w (Below.refl _ _)
  clear hE hM hs hp hwt hn hq hS
  go_enter Tryz.func65, Tryz.ntmps65
  go_upto_region 2 with (first
    | (with_reducible (show Calls _ _ _ w _); go_at_call 64; refine h64a.mono ?_; rintro e w1 ⟨kp, kc, ip, ic, rfl, hkp, _, hb1⟩
       have h17 := H17.out w1 kp kc ip ic hb1 hkp.ki
       clear hkp)
    | (go_at_call 17; refine h17.mono ?_; rintro e w2 ⟨p, c, rfl, hb2⟩))
  obtain ⟨V2, hV2⟩ : ∃ V, w2.alloc (.cells #[.int .i64 0, .string ⟨#[]⟩, .string ⟨#[]⟩, .int .i64 0, .slice p 0 c, .string ⟨#[]⟩] 31) = V := ⟨_, rfl⟩
  rw [hV2]
  have b2 := Below.on (Below.on hb1 hb2) (alloc_b hV2)
  have h64b := H64.out V2 b2
  go_wp2_with (first
    | (with_reducible (show Calls _ _ _ V2 _); go_at_call 64; refine h64b.mono ?_; rintro e w3 ⟨kp', kc', ip', ic', rfl, hkp, _, hb3⟩
       have h19 := H19.out w3 kp' kc' ip' ic' (Below.on b2 hb3) hkp.ki
       clear hkp)
    | (go_at_call 19; refine h19.mono ?_; rintro e w4 ⟨rfl, hb4⟩))
  go_ret
  exact ⟨rfl, Below.on (Below.on b2 hb3) (Below.on hb4 (alloc_b rfl))⟩
end Go.Proofs.Ls
/- OE: LspKnown: what is closed. Printed by gen_oe.py. -/
namespace Go.Proofs.Ls
open Go.RowKit Go.Maps Go.Lib Go.Proofs.Utf Go.Proofs.Jt Go.Proofs

theorem par_of {l : List UInt8} {v : JV} (h : eqV (parV l).1 v = true ∧ (parV l).2 = 0) : parV l = (v, 0) := Prod.ext ((eqV_iff _ _).1 h.1) h.2
def lkH : ByteArray := ⟨#[123, 34, 116, 101, 120, 116, 68, 111, 99, 117, 109, 101, 110, 116, 34, 58, 123, 34, 117, 114, 105, 34, 58, 34, 117, 34, 125, 44, 34, 110, 101, 119, 78, 97, 109, 101, 34, 58, 34, 110, 34, 44, 34, 112, 111, 115, 105, 116, 105, 111, 110, 34, 58, 123, 34, 99, 104, 97, 114, 97, 99, 116, 101, 114, 34, 58, 50, 44, 34, 108, 105, 110, 101, 34, 58]⟩
def lkTA1 : ByteArray := ⟨#[123, 34, 105, 100, 34, 58, 34, 97, 34, 125]⟩
def lkVA1 : JV := .mk 6 [] [[105, 100]] [.mk 4 [97] [] []]
theorem lkPA1 : parV lkTA1.data.toList = (lkVA1, 0) := par_of (by decide +kernel)
def lkTA2 : ByteArray := ⟨#[123, 34, 116, 101, 120, 116, 68, 111, 99, 117, 109, 101, 110, 116, 34, 58, 123, 34, 117, 114, 105, 34, 58, 34, 117, 34, 125, 44, 34, 120, 34, 58, 49, 125]⟩
def lkVA2 : JV := .mk 6 [] [[116, 101, 120, 116, 68, 111, 99, 117, 109, 101, 110, 116], [120]] [.mk 6 [] [[117, 114, 105]] [.mk 4 [117] [] []], .mk 3 [49] [] []]
theorem lkPA2 : parV lkTA2.data.toList = (lkVA2, 0) := par_of (by decide +kernel)
def lkTN1 : ByteArray := ⟨#[123, 34, 105, 100, 34, 58, 49, 46, 53, 125]⟩
def lkVN1 : JV := .mk 6 [] [[105, 100]] [.mk 3 [49, 46, 53] [] []]
theorem lkPN1 : parV lkTN1.data.toList = (lkVN1, 0) := par_of (by decide +kernel)
def lkTN2 : ByteArray := ⟨#[123, 125]⟩
def lkVN2 : JV := .mk 6 [] [] []
theorem lkPN2 : parV lkTN2.data.toList = (lkVN2, 0) := par_of (by decide +kernel)
def lkTN3 : ByteArray := ⟨#[91, 93]⟩
def lkVN3 : JV := .mk 5 [] [] []
theorem lkPN3 : parV lkTN3.data.toList = (lkVN3, 0) := par_of (by decide +kernel)
def lkTN7 : ByteArray := ⟨#[123, 34, 116, 101, 120, 116, 68, 111, 99, 117, 109, 101, 110, 116, 34, 58, 123, 34, 117, 114, 105, 34, 58, 34, 117, 34, 125, 44, 34, 112, 111, 115, 105, 116, 105, 111, 110, 34, 58, 123, 34, 99, 104, 97, 114, 97, 99, 116, 101, 114, 34, 58, 50, 44, 34, 108, 105, 110, 101, 34, 58, 48, 125, 125]⟩
def lkVN7 : JV := .mk 6 [] [[116, 101, 120, 116, 68, 111, 99, 117, 109, 101, 110, 116], [112, 111, 115, 105, 116, 105, 111, 110]] [.mk 6 [] [[117, 114, 105]] [.mk 4 [117] [] []], .mk 6 [] [[99, 104, 97, 114, 97, 99, 116, 101, 114], [108, 105, 110, 101]] [.mk 3 [50] [] [], .mk 3 [48] [] []]]
theorem lkPN7 : parV lkTN7.data.toList = (lkVN7, 0) := par_of (by decide +kernel)
def lkTA4 : ByteArray := ⟨#[123, 34, 116, 101, 120, 116, 68, 111, 99, 117, 109, 101, 110, 116, 34, 58, 123, 34, 117, 114, 105, 34, 58, 34, 117, 34, 44, 34, 118, 101, 114, 115, 105, 111, 110, 34, 58, 45, 51, 125, 44, 34, 99, 111, 110, 116, 101, 110, 116, 67, 104, 97, 110, 103, 101, 115, 34, 58, 91, 123, 34, 116, 101, 120, 116, 34, 58, 34, 120, 34, 125, 44, 123, 34, 114, 97, 110, 103, 101, 34, 58, 123, 34, 115, 116, 97, 114, 116, 34, 58, 123, 34, 108, 105, 110, 101, 34, 58, 48, 44, 34, 99, 104, 97, 114, 97, 99, 116, 101, 114, 34, 58, 49, 125, 44, 34, 101, 110, 100, 34, 58, 123, 34, 108, 105, 110, 101, 34, 58, 50, 44, 34, 99, 104, 97, 114, 97, 99, 116, 101, 114, 34, 58, 51, 125, 125, 44, 34, 116, 101, 120, 116, 34, 58, 34, 34, 125, 93, 125]⟩
def lkVA4 : JV := .mk 6 [] [[116, 101, 120, 116, 68, 111, 99, 117, 109, 101, 110, 116], [99, 111, 110, 116, 101, 110, 116, 67, 104, 97, 110, 103, 101, 115]] [.mk 6 [] [[117, 114, 105], [118, 101, 114, 115, 105, 111, 110]] [.mk 4 [117] [] [], .mk 3 [45, 51] [] []], .mk 5 [] [] [.mk 6 [] [[116, 101, 120, 116]] [.mk 4 [120] [] []], .mk 6 [] [[114, 97, 110, 103, 101], [116, 101, 120, 116]] [.mk 6 [] [[115, 116, 97, 114, 116], [101, 110, 100]] [.mk 6 [] [[108, 105, 110, 101], [99, 104, 97, 114, 97, 99, 116, 101, 114]] [.mk 3 [48] [] [], .mk 3 [49] [] []], .mk 6 [] [[108, 105, 110, 101], [99, 104, 97, 114, 97, 99, 116, 101, 114]] [.mk 3 [50] [] [], .mk 3 [51] [] []]], .mk 4 [] [] []]]]
theorem lkPA4 : parV lkTA4.data.toList = (lkVA4, 0) := par_of (by decide +kernel)
def lkTN8 : ByteArray := ⟨#[123, 34, 116, 101, 120, 116, 68, 111, 99, 117, 109, 101, 110, 116, 34, 58, 123, 34, 117, 114, 105, 34, 58, 34, 117, 34, 44, 34, 118, 101, 114, 115, 105, 111, 110, 34, 58, 49, 125, 44, 34, 99, 111, 110, 116, 101, 110, 116, 67, 104, 97, 110, 103, 101, 115, 34, 58, 91, 123, 34, 114, 97, 110, 103, 101, 34, 58, 110, 117, 108, 108, 44, 34, 116, 101, 120, 116, 34, 58, 34, 34, 125, 93, 125]⟩
def lkVN8 : JV := .mk 6 [] [[116, 101, 120, 116, 68, 111, 99, 117, 109, 101, 110, 116], [99, 111, 110, 116, 101, 110, 116, 67, 104, 97, 110, 103, 101, 115]] [.mk 6 [] [[117, 114, 105], [118, 101, 114, 115, 105, 111, 110]] [.mk 4 [117] [] [], .mk 3 [49] [] []], .mk 5 [] [] [.mk 6 [] [[114, 97, 110, 103, 101], [116, 101, 120, 116]] [.mk 0 [] [] [], .mk 4 [] [] []]]]
theorem lkPN8 : parV lkTN8.data.toList = (lkVN8, 0) := par_of (by decide +kernel)
def lkTN4 : ByteArray := lkH ++ ⟨#[45, 49, 125, 125]⟩
def lkVN4 : JV := .mk 6 [] [[116, 101, 120, 116, 68, 111, 99, 117, 109, 101, 110, 116], [110, 101, 119, 78, 97, 109, 101], [112, 111, 115, 105, 116, 105, 111, 110]] [.mk 6 [] [[117, 114, 105]] [.mk 4 [117] [] []], .mk 4 [110] [] [], .mk 6 [] [[99, 104, 97, 114, 97, 99, 116, 101, 114], [108, 105, 110, 101]] [.mk 3 [50] [] [], .mk 3 [45, 49] [] []]]
theorem lkEN4 : lkTN4.data.toList = [123, 34, 116, 101, 120, 116, 68, 111, 99, 117, 109, 101, 110, 116, 34, 58, 123, 34, 117, 114, 105, 34, 58, 34, 117, 34, 125, 44, 34, 110, 101, 119, 78, 97, 109, 101, 34, 58, 34, 110, 34, 44, 34, 112, 111, 115, 105, 116, 105, 111, 110, 34, 58, 123, 34, 99, 104, 97, 114, 97, 99, 116, 101, 114, 34, 58, 50, 44, 34, 108, 105, 110, 101, 34, 58, 45, 49, 125, 125] := by
  unfold lkTN4 lkH
  rw [ByteArray.data_append]
  rfl
theorem lkPN4 : parV lkTN4.data.toList = (lkVN4, 0) := by
  rw [lkEN4]
  exact par_of (by decide +kernel)
theorem lkSN4 : lkTN4.size ≤ 16777216 := by
  rw [Lib.size_eq, lkEN4]
  exact Nat.le_of_ble_eq_true rfl
def lkTN5 : ByteArray := lkH ++ ⟨#[49, 46, 48, 125, 125]⟩
def lkVN5 : JV := .mk 6 [] [[116, 101, 120, 116, 68, 111, 99, 117, 109, 101, 110, 116], [110, 101, 119, 78, 97, 109, 101], [112, 111, 115, 105, 116, 105, 111, 110]] [.mk 6 [] [[117, 114, 105]] [.mk 4 [117] [] []], .mk 4 [110] [] [], .mk 6 [] [[99, 104, 97, 114, 97, 99, 116, 101, 114], [108, 105, 110, 101]] [.mk 3 [50] [] [], .mk 3 [49, 46, 48] [] []]]
theorem lkEN5 : lkTN5.data.toList = [123, 34, 116, 101, 120, 116, 68, 111, 99, 117, 109, 101, 110, 116, 34, 58, 123, 34, 117, 114, 105, 34, 58, 34, 117, 34, 125, 44, 34, 110, 101, 119, 78, 97, 109, 101, 34, 58, 34, 110, 34, 44, 34, 112, 111, 115, 105, 116, 105, 111, 110, 34, 58, 123, 34, 99, 104, 97, 114, 97, 99, 116, 101, 114, 34, 58, 50, 44, 34, 108, 105, 110, 101, 34, 58, 49, 46, 48, 125, 125] := by
  unfold lkTN5 lkH
  rw [ByteArray.data_append]
  rfl
theorem lkPN5 : parV lkTN5.data.toList = (lkVN5, 0) := by
  rw [lkEN5]
  exact par_of (by decide +kernel)
theorem lkSN5 : lkTN5.size ≤ 16777216 := by
  rw [Lib.size_eq, lkEN5]
  exact Nat.le_of_ble_eq_true rfl
def lkTN6 : ByteArray := lkH ++ ⟨#[50, 49, 52, 55, 52, 56, 51, 54, 52, 56, 125, 125]⟩
def lkVN6 : JV := .mk 6 [] [[116, 101, 120, 116, 68, 111, 99, 117, 109, 101, 110, 116], [110, 101, 119, 78, 97, 109, 101], [112, 111, 115, 105, 116, 105, 111, 110]] [.mk 6 [] [[117, 114, 105]] [.mk 4 [117] [] []], .mk 4 [110] [] [], .mk 6 [] [[99, 104, 97, 114, 97, 99, 116, 101, 114], [108, 105, 110, 101]] [.mk 3 [50] [] [], .mk 3 [50, 49, 52, 55, 52, 56, 51, 54, 52, 56] [] []]]
theorem lkEN6 : lkTN6.data.toList = [123, 34, 116, 101, 120, 116, 68, 111, 99, 117, 109, 101, 110, 116, 34, 58, 123, 34, 117, 114, 105, 34, 58, 34, 117, 34, 125, 44, 34, 110, 101, 119, 78, 97, 109, 101, 34, 58, 34, 110, 34, 44, 34, 112, 111, 115, 105, 116, 105, 111, 110, 34, 58, 123, 34, 99, 104, 97, 114, 97, 99, 116, 101, 114, 34, 58, 50, 44, 34, 108, 105, 110, 101, 34, 58, 50, 49, 52, 55, 52, 56, 51, 54, 52, 56, 125, 125] := by
  unfold lkTN6 lkH
  rw [ByteArray.data_append]
  rfl
theorem lkPN6 : parV lkTN6.data.toList = (lkVN6, 0) := by
  rw [lkEN6]
  exact par_of (by decide +kernel)
theorem lkSN6 : lkTN6.size ≤ 16777216 := by
  rw [Lib.size_eq, lkEN6]
  exact Nat.le_of_ble_eq_true rfl
def lkTA3 : ByteArray := lkH ++ ⟨#[50, 49, 52, 55, 52, 56, 51, 54, 52, 55, 125, 125]⟩
def lkVA3 : JV := .mk 6 [] [[116, 101, 120, 116, 68, 111, 99, 117, 109, 101, 110, 116], [110, 101, 119, 78, 97, 109, 101], [112, 111, 115, 105, 116, 105, 111, 110]] [.mk 6 [] [[117, 114, 105]] [.mk 4 [117] [] []], .mk 4 [110] [] [], .mk 6 [] [[99, 104, 97, 114, 97, 99, 116, 101, 114], [108, 105, 110, 101]] [.mk 3 [50] [] [], .mk 3 [50, 49, 52, 55, 52, 56, 51, 54, 52, 55] [] []]]
theorem lkEA3 : lkTA3.data.toList = [123, 34, 116, 101, 120, 116, 68, 111, 99, 117, 109, 101, 110, 116, 34, 58, 123, 34, 117, 114, 105, 34, 58, 34, 117, 34, 125, 44, 34, 110, 101, 119, 78, 97, 109, 101, 34, 58, 34, 110, 34, 44, 34, 112, 111, 115, 105, 116, 105, 111, 110, 34, 58, 123, 34, 99, 104, 97, 114, 97, 99, 116, 101, 114, 34, 58, 50, 44, 34, 108, 105, 110, 101, 34, 58, 50, 49, 52, 55, 52, 56, 51, 54, 52, 55, 125, 125] := by
  unfold lkTA3 lkH
  rw [ByteArray.data_append]
  rfl
theorem lkPA3 : parV lkTA3.data.toList = (lkVA3, 0) := by
  rw [lkEA3]
  exact par_of (by decide +kernel)
theorem lkSA3 : lkTA3.size ≤ 16777216 := by
  rw [Lib.size_eq, lkEA3]
  exact Nat.le_of_ble_eq_true rfl
theorem lkNN1 : lkVN1.wt ≤ 1000000 ∧ (noteR [36, 47, 99, 97, 110, 99, 101, 108, 82, 101, 113, 117, 101, 115, 116] lkVN1).2 = true ∧ (askR [36, 47, 99, 97, 110, 99, 101, 108, 82, 101, 113, 117, 101, 115, 116] lkVN1).2 = true := by decide +kernel
theorem lkNN2 : lkVN2.wt ≤ 1000000 ∧ (noteR [105, 110, 105, 116, 105, 97, 108, 105, 122, 101, 100] lkVN2).2 = true ∧ (askR [105, 110, 105, 116, 105, 97, 108, 105, 122, 101, 100] lkVN2).2 = true := by decide +kernel
theorem lkNN3 : lkVN3.wt ≤ 1000000 ∧ (noteR [36, 47, 99, 97, 110, 99, 101, 108, 82, 101, 113, 117, 101, 115, 116] lkVN3).2 = true ∧ (askR [36, 47, 99, 97, 110, 99, 101, 108, 82, 101, 113, 117, 101, 115, 116] lkVN3).2 = true := by decide +kernel
theorem lkNN4 : lkVN4.wt ≤ 1000000 ∧ (noteR [116, 101, 120, 116, 68, 111, 99, 117, 109, 101, 110, 116, 47, 114, 101, 110, 97, 109, 101] lkVN4).2 = true ∧ (askR [116, 101, 120, 116, 68, 111, 99, 117, 109, 101, 110, 116, 47, 114, 101, 110, 97, 109, 101] lkVN4).2 = true := by decide +kernel
theorem lkNN5 : lkVN5.wt ≤ 1000000 ∧ (noteR [116, 101, 120, 116, 68, 111, 99, 117, 109, 101, 110, 116, 47, 114, 101, 110, 97, 109, 101] lkVN5).2 = true ∧ (askR [116, 101, 120, 116, 68, 111, 99, 117, 109, 101, 110, 116, 47, 114, 101, 110, 97, 109, 101] lkVN5).2 = true := by decide +kernel
theorem lkNN6 : lkVN6.wt ≤ 1000000 ∧ (noteR [116, 101, 120, 116, 68, 111, 99, 117, 109, 101, 110, 116, 47, 114, 101, 110, 97, 109, 101] lkVN6).2 = true ∧ (askR [116, 101, 120, 116, 68, 111, 99, 117, 109, 101, 110, 116, 47, 114, 101, 110, 97, 109, 101] lkVN6).2 = true := by decide +kernel
theorem lkNN7 : lkVN7.wt ≤ 1000000 ∧ (noteR [116, 101, 120, 116, 68, 111, 99, 117, 109, 101, 110, 116, 47, 114, 101, 110, 97, 109, 101] lkVN7).2 = true ∧ (askR [116, 101, 120, 116, 68, 111, 99, 117, 109, 101, 110, 116, 47, 114, 101, 110, 97, 109, 101] lkVN7).2 = true := by decide +kernel
theorem lkNN8 : lkVN8.wt ≤ 1000000 ∧ (noteR [116, 101, 120, 116, 68, 111, 99, 117, 109, 101, 110, 116, 47, 100, 105, 100, 67, 104, 97, 110, 103, 101] lkVN8).2 = true ∧ (askR [116, 101, 120, 116, 68, 111, 99, 117, 109, 101, 110, 116, 47, 100, 105, 100, 67, 104, 97, 110, 103, 101] lkVN8).2 = true := by decide +kernel
theorem lkW : lkVA1.wt ≤ 1000000 ∧ lkVA2.wt ≤ 1000000 ∧ lkVA3.wt ≤ 1000000 ∧ lkVA4.wt ≤ 1000000 := by decide +kernel
theorem lkO1 : noteR mCancel lkVA1 = (⟨4, [], [], 0, [], [34, 97, 34]⟩, false) := by decide +kernel
theorem lkO2 : noteR mClose lkVA2 = (⟨3, [117], [], 0, [], []⟩, false) := by decide +kernel
theorem lkQ3 : askR mRen lkVA3 = (⟨2, [117], (2147483647, 2), (2147483647, 2), [110]⟩, false) := by
  have : ((askR mRen lkVA3).1.k = 2 ∧ (askR mRen lkVA3).1.uri = [117] ∧ (askR mRen lkVA3).1.a = (2147483647, 2) ∧ (askR mRen lkVA3).1.b = (2147483647, 2) ∧ (askR mRen lkVA3).1.name = [110]) ∧ (askR mRen lkVA3).2 = false := by decide +kernel
  exact Prod.ext (qv_ext this.1) this.2
def lkC : List ChV := [⟨true, (0, 0), (0, 0), [120]⟩, ⟨false, (0, 1), (2, 3), []⟩]
theorem lkO4 : noteR mChange lkVA4 = (⟨2, [117], [], -3, lkC, []⟩, false) := by decide +kernel
def lkD : ByteArray := ⟨#[97, 10, 98]⟩
theorem lkAt : atV lkD 2 = (1, 0) ∧ atV lkD 3 = (1, 1) := by decide +kernel
def lkG : ByteArray := ⟨#[123, 34, 114, 97, 110, 103, 101, 34, 58, 123, 34, 115, 116, 97, 114, 116, 34, 58, 123, 34, 108, 105, 110, 101, 34, 58, 49, 44, 34, 99, 104, 97, 114, 97, 99, 116, 101, 114, 34, 58, 48, 125, 44, 34, 101, 110, 100, 34, 58, 123, 34, 108, 105, 110, 101, 34, 58, 49, 44, 34, 99, 104, 97, 114, 97, 99, 116, 101, 114, 34, 58, 49, 125, 125, 44, 34, 112, 108, 97, 99, 101, 104, 111, 108, 100, 101, 114, 34, 58, 34, 98, 34, 125]⟩
def lkI : ByteArray := ⟨#[91, 123, 34, 116, 105, 116, 108, 101, 34, 58, 34, 105, 110, 108, 105, 110, 101, 34, 44, 34, 107, 105, 110, 100, 34, 58, 34, 114, 101, 102, 97, 99, 116, 111, 114, 46, 105, 110, 108, 105, 110, 101, 34, 44, 34, 101, 100, 105, 116, 34, 58, 123, 34, 100, 111, 99, 117, 109, 101, 110, 116, 67, 104, 97, 110, 103, 101, 115, 34, 58, 91, 123, 34, 116, 101, 120, 116, 68, 111, 99, 117, 109, 101, 110, 116, 34, 58, 123, 34, 117, 114, 105, 34, 58, 34, 117, 34, 44, 34, 118, 101, 114, 115, 105, 111, 110, 34, 58, 52, 125, 44, 34, 101, 100, 105, 116, 115, 34, 58, 91, 123, 34, 114, 97, 110, 103, 101, 34, 58, 123, 34, 115, 116, 97, 114, 116, 34, 58, 123, 34, 108, 105, 110, 101, 34, 58, 48, 44, 34, 99, 104, 97, 114, 97, 99, 116, 101, 114, 34, 58, 48, 125, 44, 34, 101, 110, 100, 34, 58, 123, 34, 108, 105, 110, 101, 34, 58, 48, 44, 34, 99, 104, 97, 114, 97, 99, 116, 101, 114, 34, 58, 49, 125, 125, 44, 34, 110, 101, 119, 84, 101, 120, 116, 34, 58, 34, 122, 34, 125, 93, 125, 93, 125, 125, 93]⟩
def lkHello : ByteArray := ⟨#[123, 34, 99, 97, 112, 97, 98, 105, 108, 105, 116, 105, 101, 115, 34, 58, 123, 34, 112, 111, 115, 105, 116, 105, 111, 110, 69, 110, 99, 111, 100, 105, 110, 103, 34, 58, 34, 117, 116, 102, 45, 49, 54, 34, 44, 34, 116, 101, 120, 116, 68, 111, 99, 117, 109, 101, 110, 116, 83, 121, 110, 99, 34, 58, 123, 34, 111, 112, 101, 110, 67, 108, 111, 115, 101, 34, 58, 116, 114, 117, 101, 44, 34, 99, 104, 97, 110, 103, 101, 34, 58, 50, 125, 44, 34, 114, 101, 110, 97, 109, 101, 80, 114, 111, 118, 105, 100, 101, 114, 34, 58, 123, 34, 112, 114, 101, 112, 97, 114, 101, 80, 114, 111, 118, 105, 100, 101, 114, 34, 58, 116, 114, 117, 101, 125, 44, 34, 99, 111, 100, 101, 65, 99, 116, 105, 111, 110, 80, 114, 111, 118, 105, 100, 101, 114, 34, 58, 123, 34, 99, 111, 100, 101, 65, 99, 116, 105, 111, 110, 75, 105, 110, 100, 115, 34, 58, 91, 34, 114, 101, 102, 97, 99, 116, 111, 114, 46, 105, 110, 108, 105, 110, 101, 34, 44, 34, 114, 101, 102, 97, 99, 116, 111, 114, 46, 101, 120, 116, 114, 97, 99, 116, 34, 93, 125, 125, 125]⟩
def lkAct : JV := .mk 5 [] [] [actJ (atV lkD) [117] 4 [⟨0, 1, [122]⟩] [105, 110, 108, 105, 110, 101] [114, 101, 102, 97, 99, 116, 111, 114, 46, 105, 110, 108, 105, 110, 101]]
theorem lkPG : putV (prepJ (1, 0) (1, 1) [98]) = (lkG.data.toList, 0) ∧ (prepJ (1, 0) (1, 1) [98]).wt ≤ 1000000 := by decide +kernel
theorem lkPN : putV (jn 0) = ((⟨#[110, 117, 108, 108]⟩ : ByteArray).data.toList, 0) ∧ (jn 0).wt ≤ 1000000 := by decide +kernel
theorem lkPI : putV lkAct = (lkI.data.toList, 0) ∧ lkAct.wt ≤ 1000000 := by decide +kernel
theorem lkPH : putV helloJ = (lkHello.data.toList, 0) ∧ helloJ.wt ≤ 1000000 := by decide +kernel
theorem lkLast : Lib.lastIndexByte ⟨#[114, 101, 102, 97, 99, 116, 111, 114, 46, 105, 110, 108, 105, 110, 101]⟩ 46 = 8 := by decide +kernel
theorem lkCut : (⟨[105, 110, 108, 105, 110, 101].toArray⟩ : ByteArray) = (⟨#[114, 101, 102, 97, 99, 116, 111, 114, 46, 105, 110, 108, 105, 110, 101]⟩ : ByteArray).extract 9 (⟨#[114, 101, 102, 97, 99, 116, 111, 114, 46, 105, 110, 108, 105, 110, 101]⟩ : ByteArray).size := by decide +kernel
end Go.Proofs.Ls
