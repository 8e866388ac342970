/- Merged texts: V9, VA3. -/
import Derived.Test.YtaiaiiepbpbmmaaGreatDoorCcVA2
import Derived.Maps.OwnSet
import Derived.Deep.RegionHeld3
import Derived.StillTailTactics
/- V9: Values of JSON in memory: the keys that have been met; found; Check. -/
namespace Go.Proofs.Jt
open Go.RowKit Go.Maps Go.Lib Go.Proofs.Utf Go.Proofs

def intEl (v : Value) : Option (DataW Unit × List MemPlace) := match v with
 | .int .i64 a => some (.lit (.int .i64 a), [])
 | _ => none
theorem intEl_int {v : Value} {a : Int} {ps : List MemPlace} (h : intEl v = some (.lit (.int .i64 a), ps)) : v = .int .i64 a := by
 unfold intEl at h
 split at h
 · simp only [Option.some.injEq, Prod.mk.injEq, DataW.lit.injEq, Lit.int.injEq, true_and] at h
   rw [h.1]
 · simp at h
theorem lawS : Keyed Tryz.prog 9 := string_keyed Tryz.underlying9
theorem ownM_tight {k : TypeId} {R : Value → Option (DataW Unit × List MemPlace)} {w : World} {M n : Nat} {D : DataW Unit} (h : w.ownsMap Tryz.prog k R M n D) : w.ownsMap Tryz.prog k R M (Maps.size D) D := by
 obtain ⟨es, clock, h1, h2, _, h4⟩ := h
 refine ⟨es, clock, h1, h2, ?_, h4⟩
 rw [h4]
 simp [Maps.size, length_sorted]
/-- the keys met so far -/
def Met (w : World) (M : Nat) (l : List (List UInt8)) : Prop := ∃ D, w.ownsMap Tryz.prog 9 intEl M (Maps.size D) D ∧ Maps.size D ≤ l.length ∧ (∀ u, Maps.has D (.string u) = decide (u ∈ l)) ∧ ∀ u, u ∈ l → ∀ z, D.atKey (.string u) z = .lit (.int .i64 1)
theorem gb_below' {w w' : World} (hb : Below w.heap.size w w') : w.grownBy w' none := ⟨hb.os, hb.tape, hb.output, hb.size, fun k h _ => hb.block k h⟩
theorem Met.below {w w' : World} {M : Nat} {l : List (List UInt8)} (h : Met w M l) (hb : Below w.heap.size w w') : Met w' M l := by
 obtain ⟨D, h1, h2⟩ := h
 exact ⟨D, h1.kept (gb_below' hb) (by simp), h2⟩
theorem Met.lt {w : World} {M : Nat} {l : List (List UInt8)} (h : Met w M l) : M < w.heap.size := by
 obtain ⟨D, h1, _⟩ := h
 exact h1.lt
theorem Met.made (w : World) : Met (w.alloc (.map #[] 0)) w.heap.size [] := ⟨.map [], World.ownsMap_made w Tryz.prog 9 intEl, Nat.le_refl _, fun _ => rfl, fun u hu => by cases hu⟩
theorem Met.look {w : World} {M : Nat} {l : List (List UInt8)} (h : Met w M l) (u : ByteArray) (hu : u.size ≤ maxLen) :
 (Instr.lookup 211 (.map (some M)) (.string u) false).run Tryz.prog w = .ok (.int .i64 (if u.data.toList ∈ l then 1 else 0)) w := by
 obtain ⟨D, h1, h2, h3, h4⟩ := h
 obtain ⟨v, ps, hrun, hv⟩ := h1.lookup lawS Tryz.underlying211 (z := .int .i64 0) (by kernel_rfl) (zd := .lit (.int .i64 0)) (zp := []) rfl (Go.WideMaps.keyOf_string_mk Tryz.underlying9 hu)
 rw [hrun]
 by_cases hm : u.data.toList ∈ l
 · rw [if_pos hm]
   rw [h4 _ hm] at hv
   rw [intEl_int hv]
 · rw [if_neg hm]
   rw [atKey_of_not_has (by rw [h3]; exact decide_eq_false hm)] at hv
   rw [intEl_int hv]
theorem Met.put {w : World} {M : Nat} {l : List (List UInt8)} (h : Met w M l) (u : ByteArray) (hu : u.size ≤ maxLen) (hl : l.length < 1000000000) (c : Int) :
 ∃ w', (Instr.mapUpdate 211 (.map (some M)) (.string u) (.int .i64 c)).run Tryz.prog w = .ok () w' ∧ w.grownBy w' (some M) ∧ (Instr.lookup 211 (.map (some M)) (.string u) false).run Tryz.prog w' = .ok (.int .i64 c) w' ∧ (c = 1 → Met w' M (u.data.toList :: l)) := by
 obtain ⟨D, h1, h2, h3, h4⟩ := h
 obtain ⟨w', k1, k2, ht⟩ := h1.store lawS Tryz.underlying211 (by unfold maxLen; omega) (Go.WideMaps.keyOf_string_mk Tryz.underlying9 hu) (show intEl (.int .i64 c) = some (.lit (.int .i64 c), []) from rfl)
 have hsz := size_put (D := D) (k := .string u.data.toList) (h1.tidy lawS) (.lit (.int .i64 c))
 refine ⟨w', k1, World.mapTurned.grown ht, ?_, fun hc => ?_⟩
 · obtain ⟨v, ps, hrun, hv⟩ := k2.lookup lawS Tryz.underlying211 (z := .int .i64 0) (by kernel_rfl) (zd := .lit (.int .i64 0)) (zp := []) rfl (Go.WideMaps.keyOf_string_mk Tryz.underlying9 hu)
   rw [hrun]
   rw [atKey_put_same (h1.tidy lawS).isMap (by exact trivial)] at hv
   rw [intEl_int hv]
 · subst hc
   refine ⟨D.put (.string u.data.toList) (.lit (.int .i64 1)), ownM_tight k2, ?_, fun x => ?_, fun x hx z => ?_⟩
   · rw [hsz, List.length_cons]
     split <;> omega
   · by_cases e : x = u.data.toList
     · subst e
       rw [has_put_same (h1.tidy lawS).isMap (by exact trivial)]
       simp
     · rw [has_put_other (by intro e2; exact e (by cases e2; rfl)), h3]
       simp [e]
   · by_cases e : u.data.toList = x
     · subst e
       rw [atKey_put_same (h1.tidy lawS).isMap (by exact trivial)]
     · rw [atKey_put_other (by intro e2; exact e (by cases e2; rfl))]
       refine h4 x ?_ z
       rcases List.mem_cons.1 hx with h | h
       · exact absurd h.symm e
       · exact h
theorem keysW_mem {ks : List (List UInt8)} {u : List UInt8} (h : u ∈ ks) : u.length ≤ keysW ks := by
 induction ks with
 | nil => cases h
 | cons k t ih =>
  rw [keysW]
  rcases List.mem_cons.1 h with rfl | h
  · omega
  · have := ih h; omega
end Go.Proofs.Jt
/- VA3: Merged texts: V10, V11. -/
/- V10: Values of JSON in memory: Check; put. -/
namespace Go.Proofs.Jt
open Go.RowKit Go.Maps Go.Lib Go.Proofs.Utf Go.Proofs

end Go.Proofs.Jt
/- V11: Values of JSON in memory: the text is laid (put$1, put). -/
namespace Go.Proofs.Jt
open Go.RowKit Go.Maps Go.Lib Go.Proofs.Utf Go.Proofs

/-- a builder that holds these bytes -/
def BW (w : World) (B b : Nat) (l : List UInt8) : Prop := Lib.IsBuilderF 201 5 B b (Lib.byteCells l) w
theorem BW.below {w w' : World} {B b : Nat} {l : List UInt8} (h : BW w B b l) (hb : Below w.heap.size w w') : BW w' B b l := by
 have key : ∀ p, Lib.BuilderAtF 201 5 B b p (Lib.byteCells l) w → Lib.BuilderAtF 201 5 B b p (Lib.byteCells l) w' := fun p hh => by
  have hlt := hh.lt
  obtain ⟨h1, v, h2, h3, h4⟩ := hh
  exact ⟨h1, v, (hb.block b hlt).trans h2, h3.kept (gb_below' hb) (by cases hv : v.ownBlock <;> simp), h4⟩
 rcases h with h | h
 · exact .inl (key _ h)
 · exact .inr (key _ h)
theorem BW.lt {w : World} {B b : Nat} {l : List UInt8} (h : BW w B b l) : B ≤ b ∧ b < w.heap.size := by
 rcases h with h | h
 · exact ⟨h.1, h.lt⟩
 · exact ⟨h.1, h.lt⟩
end Go.Proofs.Jt
