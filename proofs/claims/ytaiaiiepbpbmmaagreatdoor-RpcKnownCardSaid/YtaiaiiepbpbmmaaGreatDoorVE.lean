/- Merged texts: V26, V28. -/
import Derived.Test.YtaiaiiepbpbmmaaGreatDoorV13
/- V26: Values of JSON, plain: which are the same; a key's item. No program in sight. -/
namespace Go.Proofs.Jt
open Go.Lib Go.Proofs.Utf

theorem jv_wt_pos (x : JV) : 1 ≤ x.wt := by
  cases x; rw [JV.wt]; omega
theorem wt_items {x : JV} {i : Nat} {y : JV} (h : x.items[i]? = some y) : y.wt < x.wt := by
  cases x with
  | mk k s ks it =>
    have := wt_item (show it[i]? = some y from h)
    rw [JV.wt]
    omega
end Go.Proofs.Jt
/- V28: JsonOrder, plain: an object with its keys in another order. No program in sight. -/
namespace Go.Proofs.Jt
open Go.Lib Go.Proofs.Utf

section
variable {ks : List (List UInt8)} {it : List JV} (t : Nat) (h : (JV.mk 6 [] ks it).chk = 0) (h0 : 0 < ks.length)
include h h0
end
/-- what a key has -/
def fieldV (x : JV) (key : List UInt8) : Option JV := if x.kind = 6 ∧ key ∈ x.keys then x.items[x.keys.idxOf key]? else none
section
variable {ks : List (List UInt8)} {it : List JV} (t : Nat) (h : (JV.mk 6 [] ks it).chk = 0) (h0 : 0 < ks.length)
include h h0
end
end Go.Proofs.Jt
