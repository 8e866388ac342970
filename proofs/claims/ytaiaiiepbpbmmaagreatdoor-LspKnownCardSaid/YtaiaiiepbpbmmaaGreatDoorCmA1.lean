/- Values of JSON among the arguments. -/
import Derived.Test.YtaiaiiepbpbmmaaGreatDoorCmVZ
import Derived.Deep.Slices
import Derived.SliceStrings
import Derived.Deep.Fields
import Derived.ChangeSame
import Derived.OpenShut
import Derived.SizedLaws
import Derived.Carry
import Derived.Deep.DeepWitnessRowRef
namespace Go.Proofs.Jt
open Go.RowKit Go.Maps Go.Proofs Go.Lib Go.ChangeShapes Go.WideShapes Go.Deep

theorem laid_out : laidOutB Tryz.prog = true := by kernel_rfl
theorem cn3 : Tryz.prog.cellsOf 3 = 1 := by kernel_rfl
theorem cn9 : Tryz.prog.cellsOf 9 = 1 := by kernel_rfl
theorem add_at (a : Addr) (i j : Nat) (hj : 0 < j) : a.add (i + j) = ⟨(a.add i).block, (a.add i).off + j, none⟩ := by
 unfold Addr.add
 rw [if_neg (by omega)]
 split
 · rename_i h
   subst h
   simp
 · simp; omega
theorem list_of {α : Type} (n : Nat) (p : Nat → α → Prop) (h : ∀ i, i < n → ∃ y, p i y) : ∃ l : List α, l.length = n ∧ ∀ i y, l[i]? = some y → p i y := by
 induction n with
 | zero => exact ⟨[], rfl, fun i y h => by simp at h⟩
 | succ n ih =>
  obtain ⟨l, hl, hp⟩ := ih fun i hi => h i (by omega)
  obtain ⟨y, hy⟩ := h n (by omega)
  refine ⟨l ++ [y], by simp [hl], fun i z hz => ?_⟩
  by_cases hi : i < n
  · rw [List.getElem?_append_left (by omega)] at hz
    exact hp i z hz
  · have hi2 : i = n := by
     have := (List.getElem?_eq_some_iff.1 hz).1
     simp [hl] at this
     omega
    subst hi2
    rw [List.getElem?_append_right (by omega), hl, Nat.sub_self] at hz
    obtain rfl := Option.some.inj hz
    exact hy
theorem arr_back (t : ByteArray) : (⟨t.data.toList.toArray⟩ : ByteArray) = t := by cases t; rfl
section
variable {H : Type} {enc : TypeId × Value → H} {w : World} {base : Nat} {spare : Nat → Bool} {held : Bool}
end
/-- a list of values: items as they lie in a row -/
def JRow (w : World) (p : Option Addr) (L : List IC) : Prop := ∀ (i : Nat) (c : IC), L[i]? = some c → (∃ a, p = some a ∧ JC w (a.add (i * 4)) c.y c.kp c.kc c.ip c.ic) ∧ KI w c.y c.kp c.kc c.ip c.ic ∧ c.y.str.length ≤ maxLen
theorem JRow.below {w w' : World} {p : Option Addr} {L : List IC} (h : JRow w p L) (hb : Below w.heap.size w w') : JRow w' p L := fun i c hc => by
 obtain ⟨⟨a, h1, h2⟩, h3, h4⟩ := h i c hc
 exact ⟨⟨a, h1, h2.below hb⟩, h3.stay hb, h4⟩
/-- a value of such rows -/
theorem KI.rows {w : World} {k : Int} {s : List UInt8} {ks : List (List UInt8)} {L : List IC} {kp ip : Option Addr} {kc ic : Nat} (hk : StrsP w kp ks) (hz : L.length ≤ maxLen ∧ ks.length ≤ maxLen ∧ ∀ s ∈ ks, s.length ≤ maxLen) (hi : JRow w ip L) : KI w (.mk k s ks (L.map (·.y))) kp kc ip ic := by
 have d0 : IC := ⟨jn 0, none, 0, none, 0⟩
 have hget : ∀ (i : Nat) (y : JV), (L.map (·.y))[i]? = some y → ∃ c, L[i]? = some c ∧ c.y = y := fun i y h => by
  rw [List.getElem?_map] at h
  cases hl : L[i]? with
  | none => rw [hl] at h; cases h
  | some c => rw [hl] at h; exact ⟨c, rfl, Option.some.inj h⟩
 refine .mk _ kp kc ip ic (fun i => (L.getD i d0).kp) (fun i => (L.getD i d0).kc) (fun i => (L.getD i d0).ip) (fun i => (L.getD i d0).ic) hk ⟨by show (L.map (·.y)).length ≤ _; rw [List.length_map]; exact hz.1, hz.2⟩ (fun i y h => ?_) (fun i y h => ?_)
 · obtain ⟨c, hc1, rfl⟩ := hget i y h
   have hd : L.getD i d0 = c := by rw [List.getD_eq_getElem?_getD, hc1]; rfl
   obtain ⟨⟨a, q1, q2⟩, _, q3⟩ := hi i c hc1
   simp only [hd]
   exact ⟨q3, a, q1, q2⟩
 · obtain ⟨c, hc1, rfl⟩ := hget i y h
   have hd : L.getD i d0 = c := by rw [List.getD_eq_getElem?_getD, hc1]; rfl
   simp only [hd]
   exact (hi i c hc1).2.1
section
variable {H : Type} {enc : TypeId × Value → H} {w : World} {base : Nat} {spare : Nat → Bool} {held : Bool}
end
end Go.Proofs.Jt
