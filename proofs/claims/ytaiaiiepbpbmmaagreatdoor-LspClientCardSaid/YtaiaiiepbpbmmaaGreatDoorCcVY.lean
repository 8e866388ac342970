/- Merged texts: V12, V13, VE. -/
import Derived.Test.YtaiaiiepbpbmmaaGreatDoorCcVX
/- V12: Values of JSON in memory: the text is laid (put); Put. -/
namespace Go.Proofs.Jt
open Go.RowKit Go.Maps Go.Lib Go.Proofs.Utf Go.Proofs

theorem cell_blk {w : World} {b o : Nat} {x : Value} (h : w.cell? ⟨b, o, none⟩ = some x) : b < w.heap.size := by
 by_cases hb : b < w.heap.size
 · exact hb
 · exfalso
   have : w.heap[b]? = none := Array.getElem?_eq_none (by omega)
   simp [World.cell?, this] at h
end Go.Proofs.Jt
/- V13: Values of JSON in memory: Put; equal. -/
namespace Go.Proofs.Jt
open Go.RowKit Go.Maps Go.Lib Go.Proofs.Utf Go.Proofs

theorem str_ne {A B : ByteArray} (h : ¬ A = B) : ¬ A.toList = B.toList ∧ (A.toList == B.toList) = false ∧ (A.toList != B.toList) = true := by
 have h1 : ¬ A.toList = B.toList := fun e => h (by
  rw [ByteArray.toList_eq, ByteArray.toList_eq] at e
  exact ByteArray.ext (Array.toList_inj.1 e))
 have h2 : (A.toList == B.toList) = false := beq_eq_false_iff_ne.2 h1
 exact ⟨h1, h2, by simp [bne, h2]⟩
theorem str_same (A : ByteArray) : (A.toList == A.toList) = true ∧ (A.toList != A.toList) = false := by simp
end Go.Proofs.Jt
/- VE: Merged texts: V26, V28. -/
/- V26: Values of JSON, plain: which are the same; a key's item. No program in sight. -/
namespace Go.Proofs.Jt
open Go.Lib Go.Proofs.Utf

theorem jv_wt_pos (x : JV) : 1 ≤ x.wt := by
 cases x; rw [JV.wt]; omega
theorem wt_items {x : JV} {i : Nat} {y : JV} (h : x.items[i]? = some y) : y.wt < x.wt := by
 cases x with
 | mk k s ks it =>
  have := wt_item (show it[i]? = some y from h)
  rw [JV.wt]
  omega
end Go.Proofs.Jt
/- V28: JsonOrder, plain: an object with its keys in another order. No program in sight. -/
namespace Go.Proofs.Jt
open Go.Lib Go.Proofs.Utf

section
variable {ks : List (List UInt8)} {it : List JV} (t : Nat) (h : (JV.mk 6 [] ks it).chk = 0) (h0 : 0 < ks.length)
include h h0
end
/-- what a key has -/
def fieldV (x : JV) (key : List UInt8) : Option JV := if x.kind = 6 ∧ key ∈ x.keys then x.items[x.keys.idxOf key]? else none
section
variable {ks : List (List UInt8)} {it : List JV} (t : Nat) (h : (JV.mk 6 [] ks it).chk = 0) (h0 : 0 < ks.length)
include h h0
end
end Go.Proofs.Jt
