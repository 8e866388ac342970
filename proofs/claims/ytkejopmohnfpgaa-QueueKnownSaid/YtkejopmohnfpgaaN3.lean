/- The reference's Pending, Same, Push; Closed. -/
import Derived.Test.YtkejopmohnfpgaaN2
import Derived.Test.YtkejopmohnfpgaaO2
namespace Go.Proofs.Ytkejopmohnfpgaa
open Go.RowKit Go.Maps Go.Proofs

set_option maxHeartbeats 1000000 in
set_option maxRecDepth 100000 in
theorem sameR_true {w : World} {B : Nat} {va vb : Value} {xs : List ByteArray} (ha : w.ownsRow B 9 1 va xs.length (xs.map Value.string)) (hb : w.ownsRow B 9 1 vb xs.length (xs.map Value.string)) (hx : xs.length ≤ 1000000) :
    Calls Try.prog 18 #[va, vb] w fun e w' => e = .returned (.bool true) ∧ w'.heap = w.heap ∧ Below w.heap.size w w' := by
  rcases Nat.eq_zero_or_pos xs.length with h0 | hp
  · obtain ⟨pa, ca, rfl⟩ := line_shape ha
    obtain ⟨pb, cb, rfl⟩ := line_shape hb
    rw [h0]
    go_enter Try.func18, Try.ntmps18
    go_wp2
    refine wp_loop_rounds 1 ?_
    rw [rounds_succ]
    go_wp2
    go_ret
    exact ⟨rfl, rfl, Below.refl _ _⟩
  · obtain ⟨ga, ca, rfl, la, cella⟩ := own_cells ha hp
    obtain ⟨gb, cb, rfl, lb, cellb⟩ := own_cells hb hp
    generalize hn : xs.length = n at *
    go_enter Try.func18, Try.ntmps18
    go_wp2
    go_loopw [5] (fun i wr => ∃ k : Nat, i = .int .i64 k ∧ k ≤ n ∧ wr.heap = w.heap ∧ Below w.heap.size w wr) (fun i _ => n - (RowKit.intOf i).toNat)
    case atStart => exact ⟨0, rfl, Nat.zero_le _, rfl, Below.refl _ _⟩
    case round =>
      obtain ⟨k, rfl, hk, hh, hB⟩ := hrel
      by_cases hkn : (k : Int) < (n : Int)
      · obtain ⟨s, hs⟩ : ∃ s, xs[k]? = some s := ⟨_, List.getElem?_eq_getElem (by omega)⟩
        have ea := (cell_heap hh ⟨ga, k, none⟩).trans (cella k s hs)
        have eb := (cell_heap hh ⟨gb, k, none⟩).trans (cellb k s hs)
        go_wp2
        go_quiet (fail)
        go_wp2
        refine ⟨⟨k + 1, by go_num, by omega, (drewN_heap _ _).trans hh, hB.trans (below_drewN _ _ _)⟩, ?_⟩
        simp [RowKit.intOf]; omega
      · go_wp2
        go_ret
        exact ⟨rfl, hh, hB⟩
set_option maxRecDepth 100000 in
theorem closed_q {B : Nat} {w : World} {qb mb : Nat} {lv : Value} {s : QS} (h : Qi B w qb mb lv s) :
    Calls Try.prog 21 #[.pointer (some ⟨qb, 0, none⟩)] w fun e w' => e = .returned (.bool s.closed) ∧ w = w' := by
  obtain ⟨c0, c1, c2, c3, c4⟩ := h.cells
  go_enter Try.func21, Try.ntmps21
  go_wp2_with (first
    | (go_at_call 22; refine (is_yes h).mono ?_; rintro e w' ⟨rfl, hw⟩; subst hw))
  go_ret
  exact ⟨rfl, rfl⟩
theorem take_id_step {L : List J} {k : Nat} {j : J} (hk : L[k]? = some j) : (L.take (k + 1)).map (fun j => Value.string j.id) = (L.take k).map (fun j => Value.string j.id) ++ [.string j.id] := by
  rw [List.take_add_one, hk, List.map_append]
  rfl
set_option maxRecDepth 100000 in
set_option maxHeartbeats 1000000 in
theorem pendingR_any {B : Nat} {w : World} {rb : Nat} {lv : Value} {s : QS} (h : IsR B w rb lv s) :
    Calls Try.prog 20 #[.pointer (some ⟨rb, 0, none⟩)] w fun e w' => ∃ v, e = .returned v ∧ w'.ownsRow w.heap.size 9 1 v s.L.length (s.L.map (fun j => Value.string j.id)) ∧ Below w.heap.size w w' := by
  obtain ⟨i0, hi, hz0, hz1, hz2⟩ := info_parts info9
  have hfew := h.few
  obtain ⟨p, cap, hlv⟩ := row_shape h.row
  subst hlv
  go_enter Try.func20, Try.ntmps20
  go_wp2
  go_loopw [3, 4] (fun v i wr => ∃ k : Nat, i = .int .i64 k ∧ k ≤ s.L.length ∧ wr.ownsRow w.heap.size 9 1 v k ((s.L.take k).map (fun j => Value.string j.id)) ∧ Below w.heap.size w wr) (fun _ i _ => s.L.length - (RowKit.intOf i).toNat)
  case atStart => exact ⟨0, rfl, Nat.zero_le _, World.ownsRow_nil _ _ _ _, Below.refl _ _⟩
  case round =>
    obtain ⟨k, rfl, hk, hown, hB⟩ := hrel
    have h' := h.below hB
    obtain ⟨c0, c1, c2⟩ := h'.cells
    by_cases hkn : (k : Int) < (s.L.length : Int)
    · obtain ⟨j, hj⟩ : ∃ j, s.L[k]? = some j := ⟨_, List.getElem?_eq_getElem (by omega)⟩
      obtain ⟨g, cap', hlv, hc1, hc2⟩ := h'.at_ hj
      cases hlv
      obtain ⟨j0, j1, j2, j3, jf⟩ := h'.job hj
      have hst := Lib.hid (take_id_step hj)
      have hnew : ∀ (q : Nat) (u : Value), [Value.string j.id][q]? = some u → (wr.alloc (.cells #[.string j.id] 9)).cell? ((⟨wr.heap.size, 0, none⟩ : Addr).add q) = some u := cells_at_new wr [.string j.id] 9 _ rfl
      have hsz := hB.size
      go_wp2_with (first
        | (at_builtin; refine wpList_append_own _ rfl (.tmp 14) (.tmp 23) 33 rfl w.heap.size 9 i0 (.string ⟨#[]⟩) 1 16 Try.underlying33 hi hz0 hz1 hz2 rfl (by decide) _ _ _ rfl (hown.alloc _) ⟨wr.heap.size, 0, none⟩ 1 1 [.string j.id] rfl rfl hnew (by intro u hu; simp at hu; subst hu; rfl) (by unfold maxLen; omega) (by omega) (by simp; omega) ?_; intro v' w3 hown' hg3 hnil3))
      refine ⟨⟨k + 1, by go_num, by omega, ?_, ?_⟩, by simp [RowKit.intOf]; omega⟩
      · rw [show (s.L.take (k + 1)).map (fun j => Value.string j.id) = _ from hst]
        exact hown'
      · exact (hB.alloc hsz _).grown hg3 (by simp; omega) (fun q hq => (hown.lt q hq).1)
    · obtain ⟨p', cap', rfl⟩ := row_shape hown
      go_wp2
      go_ret
      have hkk : k = s.L.length := by omega
      rw [hkk, List.take_length] at hown
      exact ⟨_, by rw [hkk]; rfl, hown, hB⟩
end Go.Proofs.Ytkejopmohnfpgaa
