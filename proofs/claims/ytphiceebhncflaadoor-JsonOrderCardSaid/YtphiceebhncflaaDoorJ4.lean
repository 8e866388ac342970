/- jtext's map of escapes: made, and looked into; escaped. -/
import Derived.Test.YtphiceebhncflaaDoorJq
import Derived.Maps.OwnSet
import Derived.Maps.OwnOps
namespace Go.Proofs.Jt
open Go.RowKit Go.Proofs Go.Lib Go.Proofs.Utf Go.Maps

def escPairs : List (Int × Int) := [(34, 34), (92, 92), (47, 47), (98, 8), (102, 12), (110, 10), (114, 13), (116, 9)]
def putAll : List (Int × Int) → DataW Unit → DataW Unit
  | [], D => D
  | x :: t, D => putAll t (D.put (.int .i32 x.1) (.lit (.int .i32 x.2)))
def escD : DataW Unit := putAll escPairs (.map [])
theorem law21 : Keyed Tryd.prog 21 := int_keyed Tryd.underlying21
theorem zero21 (w : World) : (zeroValue 21).run Tryd.prog w = .ok (.int .i32 0) w := by kernel_rfl
theorem insert_one {w : World} {b n : Nat} {D : DataW Unit} (h : w.ownsMap Tryd.prog 21 (plainElem (H := Unit) Tryd.prog 21) b n D) (hn : n < 100) (k v : Int) (hk : (Lit.int .i32 k).wf = true) (hv : (Lit.int .i32 v).wf = true) :
    ∃ w', (Instr.mapUpdate 62 (.map (some b)) (.int .i32 k) (.int .i32 v)).run Tryd.prog w = .ok () w' ∧ w'.ownsMap Tryd.prog 21 (plainElem (H := Unit) Tryd.prog 21) b (n + 1) (D.put (.int .i32 k) (.lit (.int .i32 v))) ∧ w.mapTurned w' b :=
  h.store law21 Tryd.underlying62 (by unfold maxLen; omega) (keyOf_int_mk Tryd.underlying21 hk) (plainElem_int Tryd.underlying21 hv)
theorem below_turned {B b : Nat} {a w w' : World} (h : Below B a w) (ht : w.mapTurned w' b) (hb : B ≤ b) : Below B a w' := by
  obtain ⟨es, clock, es', clock', he, rfl⟩ := ht
  refine h.trans ⟨rfl, rfl, rfl, by simp [ChangeMaps.setBlock], fun k hk => ?_⟩
  show (w.heap.setIfInBounds b _)[k]? = _
  rw [Array.getElem?_setIfInBounds_ne (by omega)]
set_option maxRecDepth 100000 in
theorem escapes_any (w : World) : Calls Tryd.prog 37 #[] w fun e w' => e = .returned (.map (some w.heap.size)) ∧ w'.ownsMap Tryd.prog 21 (plainElem (H := Unit) Tryd.prog 21) w.heap.size 8 escD ∧ Below w.heap.size w w' := by
  have d0 : Below w.heap.size w (w.alloc (.map #[] 0)) := (Below.refl _ _).alloc (Nat.le_refl _) _
  have o0 : (w.alloc (.map #[] 0)).ownsMap Tryd.prog 21 (plainElem (H := Unit) Tryd.prog 21) w.heap.size 0 (.map []) := World.ownsMap_made _ _ _ _
  obtain ⟨w1, r1, o1, t1⟩ := insert_one o0 (by omega) 34 34 (by decide) (by decide)
  obtain ⟨w2, r2, o2, t2⟩ := insert_one o1 (by omega) 92 92 (by decide) (by decide)
  obtain ⟨w3, r3, o3, t3⟩ := insert_one o2 (by omega) 47 47 (by decide) (by decide)
  obtain ⟨w4, r4, o4, t4⟩ := insert_one o3 (by omega) 98 8 (by decide) (by decide)
  obtain ⟨w5, r5, o5, t5⟩ := insert_one o4 (by omega) 102 12 (by decide) (by decide)
  obtain ⟨w6, r6, o6, t6⟩ := insert_one o5 (by omega) 110 10 (by decide) (by decide)
  obtain ⟨w7, r7, o7, t7⟩ := insert_one o6 (by omega) 114 13 (by decide) (by decide)
  obtain ⟨w8, r8, o8, t8⟩ := insert_one o7 (by omega) 116 9 (by decide) (by decide)
  have le := Nat.le_refl w.heap.size
  have d8 := below_turned (below_turned (below_turned (below_turned (below_turned (below_turned (below_turned (below_turned d0 t1 le) t2 le) t3 le) t4 le) t5 le) t6 le) t7 le) t8 le
  have hmm : (Instr.makeMap 62 none).run Tryd.prog w = .ok (.map (some w.heap.size)) (w.alloc (.map #[] 0)) := run_makeMap _ _
  clear o0 o1 o2 o3 o4 o5 o6 o7 t1 t2 t3 t4 t5 t6 t7 t8 d0 le
  go_enter Tryd.func37, Tryd.ntmps37
  go_wp2
  go_ret
  exact ⟨rfl, o8, d8⟩
/-- what the map holds -/
def escLook (r : Int) : Option Int := if r = 34 then some 34 else if r = 92 then some 92 else if r = 47 then some 47 else if r = 98 then some 8 else if r = 102 then some 12 else if r = 110 then some 10 else if r = 114 then some 13 else if r = 116 then some 9 else none
theorem lit_ne {a b : Int} (h : a ≠ b) : Lit.int .i32 a ≠ .int .i32 b := fun e => h (by injection e)
theorem escD_has (r : Int) : Maps.has escD (.int .i32 r) = (escLook r).isSome ∧ escD.atKey (.int .i32 r) (.lit (.int .i32 0)) = .lit (.int .i32 ((escLook r).getD 0)) := by
  by_cases h1 : r = 34
  · subst h1; exact ⟨by decide, by kernel_rfl⟩
  by_cases h2 : r = 92
  · subst h2; exact ⟨by decide, by kernel_rfl⟩
  by_cases h3 : r = 47
  · subst h3; exact ⟨by decide, by kernel_rfl⟩
  by_cases h4 : r = 98
  · subst h4; exact ⟨by decide, by kernel_rfl⟩
  by_cases h5 : r = 102
  · subst h5; exact ⟨by decide, by kernel_rfl⟩
  by_cases h6 : r = 110
  · subst h6; exact ⟨by decide, by kernel_rfl⟩
  by_cases h7 : r = 114
  · subst h7; exact ⟨by decide, by kernel_rfl⟩
  by_cases h8 : r = 116
  · subst h8; exact ⟨by decide, by kernel_rfl⟩
  have e : escLook r = none := by unfold escLook; simp [h1, h2, h3, h4, h5, h6, h7, h8]
  rw [e]
  unfold escD escPairs
  simp only [putAll]
  constructor
  · rw [has_put_other (lit_ne h8), has_put_other (lit_ne h7), has_put_other (lit_ne h6), has_put_other (lit_ne h5), has_put_other (lit_ne h4), has_put_other (lit_ne h3), has_put_other (lit_ne h2), has_put_other (lit_ne h1)]
    rfl
  · rw [atKey_put_other (lit_ne h8), atKey_put_other (lit_ne h7), atKey_put_other (lit_ne h6), atKey_put_other (lit_ne h5), atKey_put_other (lit_ne h4), atKey_put_other (lit_ne h3), atKey_put_other (lit_ne h2), atKey_put_other (lit_ne h1)]
    rfl
end Go.Proofs.Jt
