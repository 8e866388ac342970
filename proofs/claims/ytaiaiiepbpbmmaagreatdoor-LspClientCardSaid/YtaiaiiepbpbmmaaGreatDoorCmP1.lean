/- Messages of JSON-RPC, plain: what a text is as a message, and a message's text. No program in sight. -/
import Derived.Lib.ItoaNum
import Derived.Test.YtaiaiiepbpbmmaaGreatDoorCmI1
import Derived.Test.YtaiaiiepbpbmmaaGreatDoorCmVY
namespace Go.Proofs.Rp
open Go.Lib Go.Proofs.Jt Go.Proofs.Utf

structure IdV where
 k : Int
 n : Int
 s : List UInt8
structure MsgV where
 k : Int
 id : IdV
 m : List UInt8
 p : JV
def txtV (s : List UInt8) : JV := .mk 4 s [] []
def numJ (n : Int) : JV := .mk 3 (itoa n) [] []
def kId : List UInt8 := [105, 100]
def kMethod : List UInt8 := [109, 101, 116, 104, 111, 100]
def kVer : List UInt8 := [106, 115, 111, 110, 114, 112, 99]
def kParams : List UInt8 := [112, 97, 114, 97, 109, 115]
def v20 : List UInt8 := [50, 46, 48]
def IdV.may (i : IdV) : Bool := (decide (i.k = 0) && decide (i.n = 0) && decide (i.s = [])) || (decide (i.k = 1) && decide (i.s = [])) || (decide (i.k = 2) && decide (i.n = 0))
def IdV.val (i : IdV) : JV := if i.k = 1 then numJ i.n else if i.k = 2 then txtV i.s else jn 0
def MsgV.keys (m : MsgV) : List (List UInt8) := kVer :: ((if m.k = 1 then [kId] else []) ++ (kMethod :: (if m.p.kind = 0 then [] else [kParams])))
def MsgV.items (m : MsgV) : List JV := txtV v20 :: ((if m.k = 1 then [m.id.val] else []) ++ (txtV m.m :: (if m.p.kind = 0 then [] else [m.p])))
/-! ### numerals -/
theorem decDigits_whole (u : Nat) : (decDigits u).all isDig = true ∧ nvL 0 (decDigits u) = u ∧ decDigits u ≠ [] ∧ ((decDigits u).head? = some 48 → u = 0) := by
 induction u using Nat.strongRecOn with
 | ind u ih =>
  rw [decDigits]
  have hd : ∀ m : Nat, m < 10 → isDig (UInt8.ofNat (48 + m)) = true ∧ (UInt8.ofNat (48 + m)).toNat - 48 = m := fun m hm => by
   have : (UInt8.ofNat (48 + m)).toNat = 48 + m := by
    rw [UInt8.toNat_ofNat']
    omega
   refine ⟨?_, by omega⟩
   unfold isDig
   rw [this]
   exact decide_eq_true (by omega)
  by_cases h : u < 10
  · rw [dif_pos h]
    obtain ⟨h1, h2⟩ := hd u h
    refine ⟨by rw [List.all_cons, h1]; rfl, by rw [nvL_cons, h2, nvL_nil]; omega, by simp, fun e => ?_⟩
    have e2 : UInt8.ofNat (48 + u) = 48 := Option.some.inj e
    rw [e2] at h2
    exact h2.symm
  · rw [dif_neg h]
    obtain ⟨i1, i2, i3, i4⟩ := ih (u / 10) (by omega)
    obtain ⟨h1, h2⟩ := hd (u % 10) (Nat.mod_lt _ (by decide))
    refine ⟨by rw [List.all_append, i1, List.all_cons, h1]; rfl, by rw [nvL_snoc, i2, h2]; omega, by simp, fun e => ?_⟩
    cases hl : decDigits (u / 10) with
    | nil => exact absurd hl i3
    | cons c r =>
     rw [hl] at e i4
     have := i4 e
     omega
theorem intL_itoa {n : Int} (h0 : -9223372036854775808 ≤ n) (h1 : n ≤ 9223372036854775807) : intL (itoa n) = some n := by
 unfold itoa
 split
 · rename_i hn
   obtain ⟨d1, d2, d3, d4⟩ := decDigits_whole n.natAbs
   have hb : bodyL (45 :: decDigits n.natAbs) = decDigits n.natAbs := rfl
   unfold intL
   rw [hb, if_pos, if_pos (by rfl), d2, if_pos (by omega)]
   · congr 1; omega
   · unfold wholeD
     rw [d1, decide_eq_true d3]
     have : ¬ (decDigits n.natAbs).head? = some 48 := fun e => by have := d4 e; omega
     rw [decide_eq_false this]
     rfl
 · rename_i hn
   obtain ⟨d1, d2, d3, d4⟩ := decDigits_whole n.toNat
   have hh : (decDigits n.toNat).head? ≠ some 45 := fun e => by
    cases hd : decDigits n.toNat with
    | nil => exact d3 hd
    | cons c r =>
     rw [hd] at e d1
     obtain rfl : c = 45 := Option.some.inj e
     rw [List.all_cons, show isDig 45 = false by decide] at d1
     cases d1
   have hb : bodyL (decDigits n.toNat) = decDigits n.toNat := if_neg hh
   unfold intL
   rw [hb, if_pos, if_neg hh, d2, if_pos (by omega)]
   · congr 1; omega
   · unfold wholeD
     rw [d1, decide_eq_true d3]
     by_cases hz : n.toNat = 0
     · rw [hz, decDigits_one (by decide)]; decide
     · rw [decide_eq_false (fun e => hz (d4 e))]
       rfl
/-! ### a message's text is read as the message -/
end Go.Proofs.Rp
