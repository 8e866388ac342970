/- Values of JSON in memory: same; Same. -/
import Derived.Test.YtaiaiiepbpbmmaaGreatDoorVE
import Derived.Maps.OwnSet
namespace Go.Proofs.Jt
open Go.RowKit Go.Maps Go.Lib Go.Proofs.Utf Go.Proofs

/-- the place of each key -/
def MetI (w : World) (M : Nat) (l : List (List UInt8)) : Prop := ∃ D, w.ownsMap Tryz.prog 9 intEl M (Maps.size D) D ∧ Maps.size D ≤ l.length ∧ (∀ u, Maps.has D (.string u) = decide (u ∈ l)) ∧ ∀ u, u ∈ l → ∀ z, D.atKey (.string u) z = .lit (.int .i64 (l.idxOf u : Nat))
theorem MetI.below {w w' : World} {M : Nat} {l : List (List UInt8)} (h : MetI w M l) (hb : Below w.heap.size w w') : MetI w' M l := by
  obtain ⟨D, h1, h2⟩ := h
  exact ⟨D, h1.kept (gb_below' hb) (by simp), h2⟩
theorem MetI.lt {w : World} {M : Nat} {l : List (List UInt8)} (h : MetI w M l) : M < w.heap.size := by
  obtain ⟨D, h1, _⟩ := h
  exact h1.lt
theorem MetI.made (w : World) : MetI (w.alloc (.map #[] 0)) w.heap.size [] := ⟨.map [], World.ownsMap_made w Tryz.prog 9 intEl, Nat.le_refl _, fun _ => rfl, fun u hu => by cases hu⟩
theorem MetI.look {w : World} {M : Nat} {l : List (List UInt8)} (h : MetI w M l) (u : ByteArray) (hu : u.size ≤ maxLen) :
    (u.data.toList ∈ l → (Instr.lookup 211 (.map (some M)) (.string u) true).run Tryz.prog w = .ok (.tuple #[.int .i64 (l.idxOf u.data.toList : Nat), .bool true]) w) ∧
    (u.data.toList ∉ l → (Instr.lookup 211 (.map (some M)) (.string u) true).run Tryz.prog w = .ok (.tuple #[.int .i64 0, .bool false]) w) := by
  obtain ⟨D, h1, h2, h3, h4⟩ := h
  obtain ⟨v, ps, hrun, hv⟩ := h1.look_ok lawS Tryz.underlying211 (z := .int .i64 0) (by kernel_rfl) (zd := .lit (.int .i64 0)) (zp := []) rfl (Go.WideMaps.keyOf_string_mk Tryz.underlying9 hu)
  rw [hrun]
  refine ⟨fun hm => ?_, fun hm => ?_⟩
  · rw [h4 _ hm] at hv
    rw [intEl_int hv, h3, decide_eq_true hm]
  · rw [atKey_of_not_has (by rw [h3]; exact decide_eq_false hm)] at hv
    rw [intEl_int hv, h3, decide_eq_false hm]
theorem MetI.put {w : World} {M n : Nat} {l : List (List UInt8)} (h : MetI w M l) (u : ByteArray) (hu : u.size ≤ maxLen) (hl : l.length = n) (hn : n < 1000000000) (hm : u.data.toList ∉ l) :
    ∃ w', (Instr.mapUpdate 211 (.map (some M)) (.string u) (.int .i64 n)).run Tryz.prog w = .ok () w' ∧ w.grownBy w' (some M) ∧ MetI w' M (l ++ [u.data.toList]) := by
  obtain ⟨D, h1, h2, h3, h4⟩ := h
  obtain ⟨w', k1, k2, ht⟩ := h1.store lawS Tryz.underlying211 (by unfold maxLen; omega) (Go.WideMaps.keyOf_string_mk Tryz.underlying9 hu) (show intEl (.int .i64 n) = some (.lit (.int .i64 n), []) from rfl)
  have hsz := size_put (D := D) (k := .string u.data.toList) (h1.tidy lawS) (.lit (.int .i64 n))
  refine ⟨w', k1, World.mapTurned.grown ht, D.put (.string u.data.toList) (.lit (.int .i64 n)), ownM_tight k2, ?_, fun x => ?_, fun x hx z => ?_⟩
  · rw [hsz, List.length_append, List.length_singleton]
    split <;> omega
  · by_cases e : x = u.data.toList
    · subst e
      rw [has_put_same (h1.tidy lawS).isMap (by exact trivial)]
      simp
    · rw [has_put_other (by intro e2; exact e (by cases e2; rfl)), h3]
      simp [e]
  · by_cases e : u.data.toList = x
    · subst e
      rw [atKey_put_same (h1.tidy lawS).isMap (by exact trivial), List.idxOf_append, if_neg hm, List.idxOf_cons_self, hl, Nat.zero_add]
    · have hx2 : x ∈ l := by
        rcases List.mem_append.1 hx with h | h
        · exact h
        · exact absurd (List.mem_singleton.1 h).symm e
      rw [atKey_put_other (by intro e2; exact e (by cases e2; rfl)), List.idxOf_append, if_pos hx2]
      exact h4 x hx2 z
end Go.Proofs.Jt
