/- Merged texts: V6, V7, V8. -/
import Derived.Test.YtaiaiiepbpbmmaaGreatDoorCcVA
import Derived.Test.YtaiaiiepbpbmmaaGreatDoorCcKJ
import Derived.RangeFuncRecord
import Derived.Test.YtaiaiiepbpbmmaaGreatDoorCcJZ
/- V6: Values of JSON in memory; how many values and bytes (Size, few); depth. -/
namespace Go.Proofs.Jt
open Go.RowKit Go.Maps Go.Lib Go.Proofs.Utf Go.Proofs

theorem kind_mk (k : Int) (s : List UInt8) (ks : List (List UInt8)) (it : List JV) : (JV.mk k s ks it).kind = k := rfl
theorem str_mk (k : Int) (s : List UInt8) (ks : List (List UInt8)) (it : List JV) : (JV.mk k s ks it).str = s := rfl
theorem keys_mk (k : Int) (s : List UInt8) (ks : List (List UInt8)) (it : List JV) : (JV.mk k s ks it).keys = ks := rfl
theorem items_mk (k : Int) (s : List UInt8) (ks : List (List UInt8)) (it : List JV) : (JV.mk k s ks it).items = it := rfl
/-- a row of strings -/
def StrsP (w : World) (p : Option Addr) (l : List (List UInt8)) : Prop := ∀ (i : Nat) (s : List UInt8), l[i]? = some s → ∃ a, p = some a ∧ w.cell? (a.add i) = some (.string ⟨s.toArray⟩) ∧ a.block < w.heap.size
/-- the cells of a value at a place -/
structure JC (w : World) (p : Addr) (y : JV) (kp : Option Addr) (kc : Nat) (ip : Option Addr) (ic : Nat) : Prop where
 c0 : w.cell? p = some (.int .i64 y.kind)
 c1 : w.cell? ⟨p.block, p.off + 1, none⟩ = some (.string ⟨y.str.toArray⟩)
 c2 : w.cell? ⟨p.block, p.off + 2, none⟩ = some (.slice kp y.keys.length kc)
 c3 : w.cell? ⟨p.block, p.off + 3, none⟩ = some (.slice ip y.items.length ic)
 blk : p.block < w.heap.size
/-- what a value's slices hold -/
inductive KI (w : World) : JV → Option Addr → Nat → Option Addr → Nat → Prop
 | mk (x : JV) (kp : Option Addr) (kc : Nat) (ip : Option Addr) (ic : Nat) (fp : Nat → Option Addr) (fc : Nat → Nat) (gp : Nat → Option Addr) (gc : Nat → Nat)
  (hk : StrsP w kp x.keys) (hz : x.items.length ≤ maxLen ∧ x.keys.length ≤ maxLen ∧ ∀ s ∈ x.keys, s.length ≤ maxLen)
  (hi : ∀ (i : Nat) (y : JV), x.items[i]? = some y → y.str.length ≤ maxLen ∧ ∃ a, ip = some a ∧ JC w (a.add (i * 4)) y (fp i) (fc i) (gp i) (gc i))
  (h : ∀ (i : Nat) (y : JV), x.items[i]? = some y → KI w y (fp i) (fc i) (gp i) (gc i)) : KI w x kp kc ip ic
def jval (x : JV) (kp : Option Addr) (kc : Nat) (ip : Option Addr) (ic : Nat) : Value := .agg #[.int .i64 x.kind, .string ⟨x.str.toArray⟩, .slice kp x.keys.length kc, .slice ip x.items.length ic]
theorem add_blk (a : Addr) (i : Nat) : (a.add i).block = a.block := by unfold Addr.add; split <;> rfl
theorem StrsP.below {w w' : World} {p : Option Addr} {l : List (List UInt8)} (h : StrsP w p l) (hb : Below w.heap.size w w') : StrsP w' p l := fun i s hs => by
 obtain ⟨a, h1, h2, h3⟩ := h i s hs
 exact ⟨a, h1, (hb.cell (p := a.add i) (by rw [add_blk]; exact h3)).trans h2, Nat.lt_of_lt_of_le h3 hb.size⟩
theorem JC.below {w w' : World} {p : Addr} {y : JV} {kp ip : Option Addr} {kc ic : Nat} (h : JC w p y kp kc ip ic) (hb : Below w.heap.size w w') : JC w' p y kp kc ip ic :=
 ⟨(hb.cell h.blk).trans h.c0, (hb.cell (by exact h.blk)).trans h.c1, (hb.cell (by exact h.blk)).trans h.c2, (hb.cell (by exact h.blk)).trans h.c3, Nat.lt_of_lt_of_le h.blk hb.size⟩
theorem KI.stay {w w' : World} {x : JV} {kp ip : Option Addr} {kc ic : Nat} (h : KI w x kp kc ip ic) (hb : Below w.heap.size w w') : KI w' x kp kc ip ic := by
 induction h with
 | mk x kp kc ip ic fp fc gp gc hk hz hi _ ih =>
  exact .mk x kp kc ip ic fp fc gp gc (hk.below hb) hz (fun i y hy => by
   obtain ⟨h1, a, h2, h3⟩ := hi i y hy
   exact ⟨h1, a, h2, h3.below hb⟩) ih
/-- an argument that is a value -/
def JArg (w : World) (v : Value) (x : JV) : Prop := ∃ kp kc ip ic, v = jval x kp kc ip ic ∧ KI w x kp kc ip ic ∧ x.str.length ≤ maxLen
theorem JArg.below {w w' : World} {v : Value} {x : JV} (h : JArg w v x) (hb : Below w.heap.size w w') : JArg w' v x := by
 obtain ⟨kp, kc, ip, ic, h1, h2, h3⟩ := h
 exact ⟨kp, kc, ip, ic, h1, h2.stay hb, h3⟩
/-- Size, by a list -/
def szK : List (List UInt8) → Int → Int
 | [], l => l
 | k :: t, l => if 0 < l then szK t (l - 1 - k.length) else l
mutual
def JV.sz : JV → Int → Int | .mk _ s ks it, l => szL it (szK ks (l - 1 - s.length))
def szL : List JV → Int → Int
 | [], l => l
 | x :: t, l => if 0 < l then szL t (x.sz l) else l
end
theorem wt_item {l : List JV} {i : Nat} {y : JV} (h : l[i]? = some y) : y.wt ≤ wtL l := by
 induction l generalizing i with
 | nil => cases h
 | cons x t ih =>
  rw [wtL]
  cases i with
  | zero => obtain rfl := Option.some.inj h; omega
  | succ i => have := ih (i := i) (by simpa using h); omega
theorem drop_cons {α : Type} {l : List α} {i : Nat} {y : α} (h : l[i]? = some y) : l.drop i = y :: l.drop (i + 1) := by
 obtain ⟨h1, h2⟩ := List.getElem?_eq_some_iff.1 h
 rw [List.drop_eq_getElem_cons h1, h2]
/-- the box of a value -/
theorem box_cells {w W : World} {x : JV} {kp ip : Option Addr} {kc ic : Nat} (hW : w.alloc (.cells #[.int .i64 x.kind, .string ⟨x.str.toArray⟩, .slice kp x.keys.length kc, .slice ip x.items.length ic] 25) = W) : ∀ W', Below W.heap.size W W' → W'.cell? ⟨w.heap.size, 0, none⟩ = some (.int .i64 x.kind) ∧ W'.cell? ⟨w.heap.size, 1, none⟩ = some (.string ⟨x.str.toArray⟩) ∧ W'.cell? ⟨w.heap.size, 2, none⟩ = some (.slice kp x.keys.length kc) ∧ W'.cell? ⟨w.heap.size, 3, none⟩ = some (.slice ip x.items.length ic) := fun W' hb => by
 have h1 : W.heap[w.heap.size]? = some (.cells #[.int .i64 x.kind, .string ⟨x.str.toArray⟩, .slice kp x.keys.length kc, .slice ip x.items.length ic] 25) := by rw [← hW]; exact World.alloc_heap_new w _
 have h2 := (hb.block _ (ltS h1)).trans h1
 refine ⟨?_, ?_, ?_, ?_⟩ <;> simp [World.cell?, h2]
end Go.Proofs.Jt
/- V7: Values of JSON in memory: Size, few. -/
namespace Go.Proofs.Jt
open Go.RowKit Go.Maps Go.Lib Go.Proofs.Utf Go.Proofs

theorem arr_size (s : List UInt8) : (⟨s.toArray⟩ : ByteArray).size = s.length := by simp [ByteArray.size]
end Go.Proofs.Jt
/- V8: Values of JSON in memory: utf, number, shaped. -/
namespace Go.Proofs.Jt
open Go.RowKit Go.Maps Go.Lib Go.Proofs.Utf Go.Proofs

theorem keys_len : ∀ ks : List (List UInt8), ks.length ≤ keysW ks
 | [] => Nat.le_refl _
 | k :: t => by have := keys_len t; rw [keysW, List.length_cons]; omega
theorem wt_pos : ∀ x : JV, 1 ≤ x.wt
 | .mk k s ks it => by rw [JV.wt]; omega
theorem items_len : ∀ l : List JV, l.length ≤ wtL l
 | [] => Nat.le_refl _
 | x :: t => by have := items_len t; have := wt_pos x; rw [wtL, List.length_cons]; omega
end Go.Proofs.Jt
