/- A new queue. -/
import Derived.Test.YtkejopmohnfpgaaW3
namespace Go.Proofs.Ytkejopmohnfpgaa
open Go.RowKit Go.Maps Go.Proofs

theorem new_is {qT jT : TypeId} {w : World} {k : Nat} (hk : k ≤ 64) :
    IsQ qT jT Try.prog w.heap.size ((w.alloc (.map #[] 0)).alloc (.cells #[.int .i64 k, .slice none 0 0, .map (some w.heap.size), .int .i64 0, .bool false] qT)) (w.heap.size + 1) w.heap.size (.slice none 0 0) ⟨k, [], 0, false⟩ := by
  have hs : (w.alloc (.map #[] 0)).heap.size = w.heap.size + 1 := by simp
  refine ⟨hk, ?_, World.ownsRow_nil _ _ _ _, ⟨.map [], ?_, MapIs.made⟩, fun j hj => (by cases hj), List.Pairwise.nil, fun j hj => (by cases hj), by show 0 ≤ _; omega, by show 0 ≤ _; omega, by omega, by omega, by simp; omega⟩
  · have := heap_alloc_new (w.alloc (.map #[] 0)) (.cells #[.int .i64 k, .slice none 0 0, .map (some w.heap.size), .int .i64 0, .bool false] qT)
    rw [hs] at this
    exact this
  · exact map_keeps (World.ownsMap_made w Try.prog 9 ptrElem) ((Keeps.refl _ _).alloc _)
set_option maxRecDepth 100000 in
theorem new_q (w : World) (k : Nat) (h1 : 1 ≤ k) (h2 : k ≤ 64) :
    Calls Try.prog 7 #[.int .i64 k] w fun e w' => ∃ qb mb, e = .returned (.pointer (some ⟨qb, 0, none⟩)) ∧ Below w.heap.size w w' ∧ Qi w.heap.size w' qb mb (.slice none 0 0) ⟨k, [], 0, false⟩ := by
  have e1 : decide ((k : Int) < 1) = false := by simp; omega
  have e2 : decide ((64 : Int) < (k : Int)) = false := by simp; omega
  have hm : (Instr.makeMap 50 none).run Try.prog w = .ok (.map (some w.heap.size)) (w.alloc (.map #[] 0)) := run_makeMap _ _
  go_enter Try.func7, Try.ntmps7
  go_wp2
  go_ret
  exact ⟨_, _, rfl, ((Below.refl _ _).alloc (Nat.le_refl _) _).alloc (by simp) _, new_is h2⟩
end Go.Proofs.Ytkejopmohnfpgaa
