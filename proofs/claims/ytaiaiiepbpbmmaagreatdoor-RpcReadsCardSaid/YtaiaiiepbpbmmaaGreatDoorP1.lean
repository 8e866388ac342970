/- Messages of JSON-RPC, plain: what a text is as a message, and a message's text. No program in sight. -/
import Derived.Lib.ItoaNum
import Derived.Test.YtaiaiiepbpbmmaaGreatDoorI1
import Derived.Test.YtaiaiiepbpbmmaaGreatDoorVY
namespace Go.Proofs.Rp
open Go.Lib Go.Proofs.Jt Go.Proofs.Utf

structure IdV where
 k : Int
 n : Int
 s : List UInt8
def id0 : IdV := ⟨0, 0, []⟩
structure MsgV where
 k : Int
 id : IdV
 m : List UInt8
 p : JV
def msg0 : MsgV := ⟨0, id0, [], jn 0⟩
def txtV (s : List UInt8) : JV := .mk 4 s [] []
def numJ (n : Int) : JV := .mk 3 (itoa n) [] []
def kId : List UInt8 := [105, 100]
def kMethod : List UInt8 := [109, 101, 116, 104, 111, 100]
def kResult : List UInt8 := [114, 101, 115, 117, 108, 116]
def kError : List UInt8 := [101, 114, 114, 111, 114]
def kVer : List UInt8 := [106, 115, 111, 110, 114, 112, 99]
def kParams : List UInt8 := [112, 97, 114, 97, 109, 115]
def kCode : List UInt8 := [99, 111, 100, 101]
def kMessage : List UInt8 := [109, 101, 115, 115, 97, 103, 101]
def kData : List UInt8 := [100, 97, 116, 97]
def v20 : List UInt8 := [50, 46, 48]
/-- what a key has, and whether it is there -/
def getV (x : JV) (k : List UInt8) : JV := (fieldV x k).getD (jn 0)
def hasV (x : JV) (k : List UInt8) : Bool := (fieldV x k).isSome
def idOfV (v : JV) : IdV :=
 match intV (getV v kId) with
 | some n => ⟨1, n, []⟩
 | none => if (getV v kId).kind = 4 then ⟨2, 0, (getV v kId).str⟩ else id0
def badV (v : JV) : Bool :=
 decide ((getV v kVer).kind ≠ 4) || decide ((getV v kVer).str ≠ v20) || decide ((getV v kMethod).kind ≠ 4) || (hasV v kParams && decide ((getV v kParams).kind ≠ 5) && decide ((getV v kParams).kind ≠ 6)) || (hasV v kId && decide ((idOfV v).k = 0))
def otherV (v : JV) : Bool := !hasV v kMethod && (hasV v kResult || hasV v kError)
def readJ (v : JV) : MsgV × IdV × Int :=
 if otherV v = true then (⟨3, idOfV v, [], jn 0⟩, idOfV v, 0)
 else if badV v = true then (msg0, idOfV v, -32600)
 else (⟨if hasV v kId = true then 1 else 2, idOfV v, (getV v kMethod).str, getV v kParams⟩, idOfV v, 0)
/-- what a text is -/
def readV (l : List UInt8) : MsgV × IdV × Int :=
 if (parV l).2 ≠ 0 then (msg0, id0, -32700) else if (parV l).1.kind ≠ 6 then (msg0, id0, -32600) else readJ (parV l).1
def IdV.may (i : IdV) : Bool := (decide (i.k = 0) && decide (i.n = 0) && decide (i.s = [])) || (decide (i.k = 1) && decide (i.s = [])) || (decide (i.k = 2) && decide (i.n = 0))
def IdV.val (i : IdV) : JV := if i.k = 1 then numJ i.n else if i.k = 2 then txtV i.s else jn 0
def MsgV.okay (m : MsgV) : Bool := (decide (m.k = 1) || decide (m.k = 2)) && m.id.may && (decide (m.k = 1) == decide (m.id.k ≠ 0)) && (decide (m.p.kind = 0) || decide (m.p.kind = 5) || decide (m.p.kind = 6))
def MsgV.keys (m : MsgV) : List (List UInt8) := kVer :: ((if m.k = 1 then [kId] else []) ++ (kMethod :: (if m.p.kind = 0 then [] else [kParams])))
def MsgV.items (m : MsgV) : List JV := txtV v20 :: ((if m.k = 1 then [m.id.val] else []) ++ (txtV m.m :: (if m.p.kind = 0 then [] else [m.p])))
def putM (m : MsgV) : List UInt8 × Nat := if m.okay = true then putV (.mk 6 [] m.keys m.items) else ([], 2)
def resO (i : IdV) (v : JV) : JV := .mk 6 [] [kVer, kId, kResult] [txtV v20, i.val, v]
def resV (i : IdV) (v : JV) : List UInt8 × Nat := if i.may = true then putV (resO i v) else ([], 2)
def wordsV (c : Int) : List UInt8 :=
 if c = -32700 then [112, 97, 114, 115, 101, 32, 101, 114, 114, 111, 114]
 else if c = -32600 then [105, 110, 118, 97, 108, 105, 100, 32, 114, 101, 113, 117, 101, 115, 116]
 else if c = -32601 then [109, 101, 116, 104, 111, 100, 32, 110, 111, 116, 32, 102, 111, 117, 110, 100]
 else if c = -32602 then [105, 110, 118, 97, 108, 105, 100, 32, 112, 97, 114, 97, 109, 115]
 else if c = -32002 then [115, 101, 114, 118, 101, 114, 32, 110, 111, 116, 32, 105, 110, 105, 116, 105, 97, 108, 105, 122, 101, 100]
 else if c = -32800 then [114, 101, 113, 117, 101, 115, 116, 32, 99, 97, 110, 99, 101, 108, 108, 101, 100]
 else if c = -32801 then [99, 111, 110, 116, 101, 110, 116, 32, 109, 111, 100, 105, 102, 105, 101, 100]
 else if c = -32803 then [114, 101, 113, 117, 101, 115, 116, 32, 102, 97, 105, 108, 101, 100]
 else if c = -32050 then [115, 101, 114, 118, 101, 114, 32, 98, 117, 115, 121]
 else []
def faultO (c : Int) (d : JV) : JV := .mk 6 [] (kCode :: kMessage :: (if d.kind = 0 then [] else [kData])) (numJ c :: txtV (wordsV c) :: (if d.kind = 0 then [] else [d]))
def failO (i : IdV) (c : Int) (d : JV) : JV := .mk 6 [] [kVer, kId, kError] [txtV v20, i.val, faultO c d]
def failV (i : IdV) (c : Int) (d : JV) : List UInt8 × Nat := if i.may = true ∧ wordsV c ≠ [] then putV (failO i c d) else ([], 2)
/-! ### numerals -/
theorem decDigits_whole (u : Nat) : (decDigits u).all isDig = true ∧ nvL 0 (decDigits u) = u ∧ decDigits u ≠ [] ∧ ((decDigits u).head? = some 48 → u = 0) := by
 induction u using Nat.strongRecOn with
 | ind u ih =>
  rw [decDigits]
  have hd : ∀ m : Nat, m < 10 → isDig (UInt8.ofNat (48 + m)) = true ∧ (UInt8.ofNat (48 + m)).toNat - 48 = m := fun m hm => by
   have : (UInt8.ofNat (48 + m)).toNat = 48 + m := by
    rw [UInt8.toNat_ofNat']
    omega
   refine ⟨?_, by omega⟩
   unfold isDig
   rw [this]
   exact decide_eq_true (by omega)
  by_cases h : u < 10
  · rw [dif_pos h]
    obtain ⟨h1, h2⟩ := hd u h
    refine ⟨by rw [List.all_cons, h1]; rfl, by rw [nvL_cons, h2, nvL_nil]; omega, by simp, fun e => ?_⟩
    have e2 : UInt8.ofNat (48 + u) = 48 := Option.some.inj e
    rw [e2] at h2
    exact h2.symm
  · rw [dif_neg h]
    obtain ⟨i1, i2, i3, i4⟩ := ih (u / 10) (by omega)
    obtain ⟨h1, h2⟩ := hd (u % 10) (Nat.mod_lt _ (by decide))
    refine ⟨by rw [List.all_append, i1, List.all_cons, h1]; rfl, by rw [nvL_snoc, i2, h2]; omega, by simp, fun e => ?_⟩
    cases hl : decDigits (u / 10) with
    | nil => exact absurd hl i3
    | cons c r =>
     rw [hl] at e i4
     have := i4 e
     omega
theorem intL_itoa {n : Int} (h0 : -9223372036854775808 ≤ n) (h1 : n ≤ 9223372036854775807) : intL (itoa n) = some n := by
 unfold itoa
 split
 · rename_i hn
   obtain ⟨d1, d2, d3, d4⟩ := decDigits_whole n.natAbs
   have hb : bodyL (45 :: decDigits n.natAbs) = decDigits n.natAbs := rfl
   unfold intL
   rw [hb, if_pos, if_pos (by rfl), d2, if_pos (by omega)]
   · congr 1; omega
   · unfold wholeD
     rw [d1, decide_eq_true d3]
     have : ¬ (decDigits n.natAbs).head? = some 48 := fun e => by have := d4 e; omega
     rw [decide_eq_false this]
     rfl
 · rename_i hn
   obtain ⟨d1, d2, d3, d4⟩ := decDigits_whole n.toNat
   have hh : (decDigits n.toNat).head? ≠ some 45 := fun e => by
    cases hd : decDigits n.toNat with
    | nil => exact d3 hd
    | cons c r =>
     rw [hd] at e d1
     obtain rfl : c = 45 := Option.some.inj e
     rw [List.all_cons, show isDig 45 = false by decide] at d1
     cases d1
   have hb : bodyL (decDigits n.toNat) = decDigits n.toNat := if_neg hh
   unfold intL
   rw [hb, if_pos, if_neg hh, d2, if_pos (by omega)]
   · congr 1; omega
   · unfold wholeD
     rw [d1, decide_eq_true d3]
     by_cases hz : n.toNat = 0
     · rw [hz, decDigits_one (by decide)]; decide
     · rw [decide_eq_false (fun e => hz (d4 e))]
       rfl
/-! ### a message's text is read as the message -/
theorem fld_none {s : List UInt8} {ks : List (List UInt8)} {it : List JV} {k : List UInt8} (h : k ∉ ks) : fieldV (.mk 6 s ks it) k = none := if_neg fun e => h e.2
theorem fld_some {s : List UInt8} {ks : List (List UInt8)} {it : List JV} {k : List UInt8} {y : JV} (i : Nat) (h : ks.idxOf k = i) (hm : k ∈ ks) (hy : it[i]? = some y := by rfl) : fieldV (.mk 6 s ks it) k = some y := by
 unfold fieldV
 rw [if_pos ⟨rfl, hm⟩, show (JV.mk 6 s ks it).keys = ks from rfl, h]
 exact hy
theorem IdV.ext' {a b : IdV} (h1 : a.k = b.k) (h2 : a.n = b.n) (h3 : a.s = b.s) : a = b := by
 cases a; cases b; cases h1; cases h2; cases h3; rfl
theorem may_cases {i : IdV} (h : i.may = true) : i = id0 ∨ (i.k = 1 ∧ i.s = []) ∨ (i.k = 2 ∧ i.n = 0) := by
 unfold IdV.may at h
 simp only [Bool.or_eq_true, Bool.and_eq_true, decide_eq_true_eq] at h
 rcases h with (⟨⟨a, b⟩, c⟩ | ⟨a, b⟩) | ⟨a, b⟩
 · exact .inl (IdV.ext' a b c)
 · exact .inr (.inl ⟨a, b⟩)
 · exact .inr (.inr ⟨a, b⟩)
/-- an object whose id is a value of an id -/
theorem idOf_val {v : JV} {i : IdV} (hm : i.may = true) (h0 : -9223372036854775808 ≤ i.n) (h1 : i.n ≤ 9223372036854775807) (hg : getV v kId = i.val) : idOfV v = i := by
 unfold idOfV
 rw [hg]
 rcases may_cases hm with rfl | ⟨hk, hs⟩ | ⟨hk, hn⟩
 · rfl
 · have e : i.val = numJ i.n := if_pos hk
   rw [e]
   have e2 : intV (numJ i.n) = some i.n := by
    show (if (3 : Int) = 3 then intL (itoa i.n) else none) = _
    rw [if_pos rfl, intL_itoa h0 h1]
   rw [e2]
   exact IdV.ext' hk.symm rfl hs.symm
 · have e : i.val = txtV i.s := by unfold IdV.val; rw [if_neg (by omega), if_pos hk]
   rw [e]
   have e2 : intV (txtV i.s) = none := if_neg (show ¬ (4 : Int) = 3 by decide)
   rw [e2]
   show (if (4 : Int) = 4 then (⟨2, 0, i.s⟩ : IdV) else id0) = i
   rw [if_pos rfl]
   exact IdV.ext' hk.symm hn.symm rfl
theorem idOf_none {v : JV} (hg : getV v kId = jn 0) : idOfV v = id0 := by
 unfold idOfV
 rw [hg]
 rfl
theorem put_ok {v : JV} {s : List UInt8} (h : putV v = (s, 0)) : parV s = (v, 0) := by
 unfold putV at h
 split at h
 · rename_i hc
   cases h
   exact par_text v hc
 · rename_i hc
   have := congrArg Prod.snd h
   exact absurd this hc
/-- what is read of a message's text -/
theorem read_put {m : MsgV} {s : List UInt8} (h0 : -9223372036854775808 ≤ m.id.n) (h1 : m.id.n ≤ 9223372036854775807) (h : putM m = (s, 0)) : readV s = (⟨m.k, m.id, m.m, if m.p.kind = 0 then jn 0 else m.p⟩, m.id, 0) := by
 unfold putM at h
 split at h
 · rename_i hok
   have hp := put_ok h
   unfold readV
   rw [hp]
   dsimp only
   rw [if_neg (by simp), if_neg (by simp [JV.kind])]
   obtain ⟨k, i, t, p⟩ := m
   unfold MsgV.okay at hok
   simp only [Bool.or_eq_true, Bool.and_eq_true, decide_eq_true_eq, beq_iff_eq] at hok
   obtain ⟨⟨⟨hk, hm⟩, hki⟩, hpk⟩ := hok
   dsimp only at *
   generalize hO : JV.mk 6 [] (MsgV.keys ⟨k, i, t, p⟩) (MsgV.items ⟨k, i, t, p⟩) = O
   have key : otherV O = false ∧ badV O = false ∧ hasV O kId = decide (k = 1) ∧ idOfV O = i ∧ getV O kMethod = txtV t ∧ getV O kParams = (if p.kind = 0 then jn 0 else p) := by
    have e3 : getV O kVer = txtV v20 ∧ getV O kMethod = txtV t ∧ hasV O kMethod = true ∧ hasV O kId = decide (k = 1) ∧ (k = 1 → getV O kId = i.val) ∧ (k ≠ 1 → getV O kId = jn 0) ∧ hasV O kParams = decide (p.kind ≠ 0) ∧ getV O kParams = (if p.kind = 0 then jn 0 else p) := by
     obtain ⟨f1, f2, f3, f4⟩ : fieldV O kVer = some (txtV v20) ∧ fieldV O kMethod = some (txtV t) ∧ fieldV O kId = (if k = 1 then some i.val else none) ∧ fieldV O kParams = (if p.kind = 0 then none else some p) := by
      subst hO
      unfold MsgV.keys MsgV.items
      by_cases hk1 : k = 1
      · by_cases hp0 : p.kind = 0
        · simp only [hk1, hp0, if_pos]
          exact ⟨fld_some 0 (by decide) (by decide), fld_some 2 (by decide) (by decide), fld_some 1 (by decide) (by decide), fld_none (by decide)⟩
        · simp only [hk1, hp0, if_pos, if_neg, not_false_eq_true]
          exact ⟨fld_some 0 (by decide) (by decide), fld_some 2 (by decide) (by decide), fld_some 1 (by decide) (by decide), fld_some 3 (by decide) (by decide)⟩
      · by_cases hp0 : p.kind = 0
        · simp only [hk1, hp0, if_pos, if_neg, not_false_eq_true]
          exact ⟨fld_some 0 (by decide) (by decide), fld_some 1 (by decide) (by decide), fld_none (by decide), fld_none (by decide)⟩
        · simp only [hk1, hp0, if_neg, not_false_eq_true]
          exact ⟨fld_some 0 (by decide) (by decide), fld_some 1 (by decide) (by decide), fld_none (by decide), fld_some 2 (by decide) (by decide)⟩
     unfold getV hasV
     rw [f1, f2, f3, f4]
     refine ⟨rfl, rfl, rfl, ?_, fun h => by rw [if_pos h]; rfl, fun h => by rw [if_neg h]; rfl, ?_, ?_⟩
     · by_cases hk1 : k = 1
       · rw [if_pos hk1, decide_eq_true hk1]; rfl
       · rw [if_neg hk1, decide_eq_false hk1]; rfl
     · by_cases hp0 : p.kind = 0
       · rw [if_pos hp0, decide_eq_false (by simpa using hp0)]; rfl
       · rw [if_neg hp0, decide_eq_true hp0]; rfl
     · by_cases hp0 : p.kind = 0
       · rw [if_pos hp0, if_pos hp0]; rfl
       · rw [if_neg hp0, if_neg hp0]; rfl
    obtain ⟨a1, a2, a3, a4, a5, a6, a7, a8⟩ := e3
    have hid : idOfV O = i := by
     by_cases hk1 : k = 1
     · exact idOf_val hm h0 h1 (a5 hk1)
     · rw [idOf_none (a6 hk1)]
       have : i.k = 0 := by
        by_cases hz : i.k = 0
        · exact hz
        · rw [decide_eq_false hk1, decide_eq_true hz] at hki
          cases hki
       rcases may_cases hm with e | ⟨e, _⟩ | ⟨e, _⟩
       · exact e.symm
       · omega
       · omega
    refine ⟨?_, ?_, a4, hid, a2, a8⟩
    · unfold otherV; rw [a3]; rfl
    · unfold badV
      rw [a1, a2, a4, a7, a8, hid]
      simp only [Bool.or_eq_false_iff]
      refine ⟨⟨⟨⟨rfl, rfl⟩, rfl⟩, ?_⟩, ?_⟩
      · by_cases hp0 : p.kind = 0
        · rw [decide_eq_false (by simpa using hp0)]; rfl
        · rw [if_neg hp0]
          rcases hpk with (h | h) | h
          · exact absurd h hp0
          · rw [h]; simp
          · rw [h]; simp
      · rw [hki]
        by_cases hz : i.k = 0
        · simp [hz]
        · rw [decide_eq_false hz, Bool.and_false]
   obtain ⟨b1, b2, b3, b4, b5, b6⟩ := key
   unfold readJ
   rw [if_neg (by rw [b1]; simp), if_neg (by rw [b2]; simp), b3, b4, b5, b6]
   have : (if decide (k = 1) = true then (1 : Int) else 2) = k := by
    rcases hk with h | h
    · rw [h]; rfl
    · rw [h]; rfl
   rw [this]
   rfl
 · have := congrArg Prod.snd h
   cases this
end Go.Proofs.Rp
