/- same: two equal lists of texts. -/
import Derived.Test.YtkejopmohnfpgaaO1
namespace Go.Proofs.Ytkejopmohnfpgaa
open Go.RowKit Go.Maps Go.Proofs

theorem own_cells {w : World} {B : Nat} {v : Value} {xs : List ByteArray} (h : w.ownsRow B 9 1 v xs.length (xs.map Value.string)) (hp : 0 < xs.length) :
    ∃ g cap, v = .slice (some ⟨g, 0, none⟩) xs.length cap ∧ xs.length ≤ cap ∧ (∀ (j : Nat) (s : ByteArray), xs[j]? = some s → w.cell? ⟨g, j, none⟩ = some (.string s)) := by
  rcases h.2 with ⟨_, h2⟩ | ⟨g, cap, cur, h1, h2, h3, h4, h5, h6, h7⟩
  · omega
  · refine ⟨g, cap, h1, h4, fun j s hs => ?_⟩
    rw [cell_of_row w g j _ _ _ h3]
    have hu : (xs.map Value.string)[j]? = some (.string s) := by simp [hs]
    rw [← h7, List.getElem?_take] at hu
    split at hu
    · simpa using hu
    · cases hu
theorem cell_heap {w w' : World} (h : w'.heap = w.heap) (a : Addr) : w'.cell? a = w.cell? a := by simp [World.cell?, h]
set_option maxHeartbeats 1000000 in
set_option maxRecDepth 100000 in
theorem same_true {w : World} {B : Nat} {va vb : Value} {xs : List ByteArray} (ha : w.ownsRow B 9 1 va xs.length (xs.map Value.string)) (hb : w.ownsRow B 9 1 vb xs.length (xs.map Value.string)) (hx : xs.length ≤ 1000000) :
    Calls Try.prog 15 #[va, vb] w fun e w' => e = .returned (.bool true) ∧ w'.heap = w.heap ∧ Below w.heap.size w w' := by
  rcases Nat.eq_zero_or_pos xs.length with h0 | hp
  · obtain ⟨pa, ca, rfl⟩ := line_shape ha
    obtain ⟨pb, cb, rfl⟩ := line_shape hb
    rw [h0]
    go_enter Try.func15, Try.ntmps15
    go_wp2
    refine wp_loop_rounds 1 ?_
    rw [rounds_succ]
    go_wp2
    go_ret
    exact ⟨rfl, rfl, Below.refl _ _⟩
  · obtain ⟨ga, ca, rfl, la, cella⟩ := own_cells ha hp
    obtain ⟨gb, cb, rfl, lb, cellb⟩ := own_cells hb hp
    generalize hn : xs.length = n at *
    go_enter Try.func15, Try.ntmps15
    go_wp2
    go_loopw [5] (fun i wr => ∃ k : Nat, i = .int .i64 k ∧ k ≤ n ∧ wr.heap = w.heap ∧ Below w.heap.size w wr) (fun i _ => n - (RowKit.intOf i).toNat)
    case atStart => exact ⟨0, rfl, Nat.zero_le _, rfl, Below.refl _ _⟩
    case round =>
      obtain ⟨k, rfl, hk, hh, hB⟩ := hrel
      by_cases hkn : (k : Int) < (n : Int)
      · obtain ⟨s, hs⟩ : ∃ s, xs[k]? = some s := ⟨_, List.getElem?_eq_getElem (by omega)⟩
        have ea := (cell_heap hh ⟨ga, k, none⟩).trans (cella k s hs)
        have eb := (cell_heap hh ⟨gb, k, none⟩).trans (cellb k s hs)
        go_wp2
        go_quiet (fail)
        go_wp2
        refine ⟨⟨k + 1, by go_num, by omega, (drewN_heap _ _).trans hh, hB.trans (below_drewN _ _ _)⟩, ?_⟩
        simp [RowKit.intOf]; omega
      · go_wp2
        go_ret
        exact ⟨rfl, hh, hB⟩
end Go.Proofs.Ytkejopmohnfpgaa
