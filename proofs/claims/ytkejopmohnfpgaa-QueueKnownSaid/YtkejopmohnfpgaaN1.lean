/- The reference's queue in memory; at. -/
import Derived.Test.YtkejopmohnfpgaaW6
namespace Go.Proofs.Ytkejopmohnfpgaa
open Go.RowKit Go.Maps Go.Proofs

def jobCells (j : J) : List Value := [.string j.id, j.x, .bool j.taken, .bool j.marked]
def rowCells (L : List J) : List Value := L.flatMap jobCells
theorem rowCells_length (L : List J) : (rowCells L).length = L.length * 4 := by
  induction L with
  | nil => rfl
  | cons j t ih =>
    show (jobCells j ++ rowCells t).length = _
    rw [List.length_append, ih]
    simp [jobCells]; omega
theorem rowCells_at {L : List J} {k : Nat} {j : J} (h : L[k]? = some j) (f : Nat) (hf : f < 4) : (rowCells L)[k * 4 + f]? = (jobCells j)[f]? := by
  induction L generalizing k with
  | nil => simp at h
  | cons i t ih =>
    show (jobCells i ++ rowCells t)[k * 4 + f]? = _
    cases k with
    | zero =>
      simp at h
      subst h
      rw [List.getElem?_append_left (by simp [jobCells]; omega)]
      simp
    | succ k =>
      simp at h
      rw [List.getElem?_append_right (by simp [jobCells]; omega)]
      rw [show (k + 1) * 4 + f - (jobCells i).length = k * 4 + f by simp [jobCells]; omega]
      exact ih h
theorem row_shape {w : World} {B e z n : Nat} {v : Value} {xs : List Value} (h : w.ownsRow B e z v n xs) : ∃ p cap, v = .slice p n cap := by
  rcases h.2 with ⟨h1, h2⟩ | ⟨g, cap, cur, h1, h2⟩
  · exact ⟨none, 0, by rw [h1, h2]⟩
  · exact ⟨_, _, h1⟩
structure IsR (B : Nat) (w : World) (rb : Nat) (lv : Value) (s : QS) : Prop where
  blk : w.heap[rb]? = some (.cells #[.int .i64 s.most, lv, .bool s.closed] 43 (0, 0))
  row : w.ownsRow B 69 4 lv s.L.length (rowCells s.L)
  base : B ≤ rb ∧ B ≤ w.heap.size
  few : s.L.length ≤ 1000000
theorem row_keeps {w w' : World} {B e z n : Nat} {v : Value} {xs : List Value} (h : w.ownsRow B e z v n xs) (hk : Keeps w w' (OfT e)) : w'.ownsRow B e z v n xs := by
  obtain ⟨h1, h2⟩ := h
  refine ⟨h1, ?_⟩
  rcases h2 with h2 | ⟨g, cap, cur, hv, hg, hh, r⟩
  · exact .inl h2
  · exact .inr ⟨g, cap, cur, hv, hg, hk _ _ hh ⟨_, rfl⟩, r⟩
theorem IsR.kept {B : Nat} {w w' : World} {rb : Nat} {lv : Value} {s : QS} (h : IsR B w rb lv s) (hk : Keeps w w' OfR) (hz : w.heap.size ≤ w'.heap.size) : IsR B w' rb lv s :=
  ⟨hk _ _ h.blk (.inl ⟨_, rfl⟩), row_keeps h.row (hk.imp fun _ ho => .inr (.inl ho)), ⟨h.base.1, Nat.le_trans h.base.2 hz⟩, h.few⟩
theorem IsR.below {B : Nat} {w w' : World} {rb : Nat} {lv : Value} {s : QS} (h : IsR B w rb lv s) (hb : Below w.heap.size w w') : IsR B w' rb lv s :=
  h.kept ((Keeps.refl _ _).below hb) hb.size
theorem IsR.cells {B : Nat} {w : World} {rb : Nat} {lv : Value} {s : QS} (h : IsR B w rb lv s) :
    w.cell? ⟨rb, 0, none⟩ = some (.int .i64 s.most) ∧ w.cell? ⟨rb, 1, none⟩ = some lv ∧ w.cell? ⟨rb, 2, none⟩ = some (.bool s.closed) := by
  have e (i : Nat) := cell_of_row w rb i _ _ _ h.blk
  refine ⟨by rw [e]; rfl, by rw [e]; rfl, by rw [e]; rfl⟩
theorem IsR.free {B : Nat} {w : World} {rb : Nat} {lv : Value} {s : QS} (h : IsR B w rb lv s) (i : Nat) : w.frozen? ⟨rb, i, none⟩ = false := by
  simp [World.frozen?, h.blk]
/-- the row, when there is a job -/
theorem IsR.at_ {B : Nat} {w : World} {rb : Nat} {lv : Value} {s : QS} (h : IsR B w rb lv s) {k : Nat} {j : J} (hj : s.L[k]? = some j) :
    ∃ g cap, lv = .slice (some ⟨g, 0, none⟩) s.L.length cap ∧ s.L.length ≤ cap ∧ cap ≤ maxLen := by
  obtain ⟨hk, _⟩ := List.getElem?_eq_some_iff.1 hj
  rcases h.row.2 with ⟨_, h2⟩ | ⟨g, cap, cur, h1, h2, h3, h4, h5, h6, h7⟩
  · omega
  · exact ⟨g, cap, h1, h4, h5⟩
theorem IsR.job {B : Nat} {w : World} {rb g cap : Nat} {s : QS} (h : IsR B w rb (.slice (some ⟨g, 0, none⟩) s.L.length cap) s) {k : Nat} {j : J} (hj : s.L[k]? = some j) :
    w.cell? ⟨g, k * 4, none⟩ = some (.string j.id) ∧ w.cell? ⟨g, k * 4 + 1, none⟩ = some j.x ∧ w.cell? ⟨g, k * 4 + 2, none⟩ = some (.bool j.taken) ∧ w.cell? ⟨g, k * 4 + 3, none⟩ = some (.bool j.marked) ∧ ∀ i, w.frozen? ⟨g, i, none⟩ = false := by
  obtain ⟨hk, _⟩ := List.getElem?_eq_some_iff.1 hj
  have e (f : Nat) (hf : f < 4) := (h.row.cellAt (k * 4 + f) (by omega)).trans (rowCells_at hj f hf)
  exact ⟨e 0 (by omega), e 1 (by omega), e 2 (by omega), e 3 (by omega), fun i => h.row.frozenAt i⟩
theorem lists_ne {a b : ByteArray} (h : a ≠ b) : (a.toList == b.toList) = false := by
  refine beq_eq_false_iff_ne.2 fun e => h (WideShapes.bytes_inj ?_)
  rw [← ByteArray.toList_eq, ← ByteArray.toList_eq]
  exact e
def firstL (L : List J) (id : ByteArray) (k : Nat) : Prop := ∀ j ∈ L.take k, j.id ≠ id
theorem firstL.step {L : List J} {id : ByteArray} {k : Nat} (h : firstL L id k) {j : J} (hj : L[k]? = some j) (he : j.id ≠ id) : firstL L id (k + 1) := by
  intro i hi
  rw [List.take_add_one, hj] at hi
  rcases List.mem_append.1 hi with h1 | h1
  · exact h i h1
  · simp at h1
    subst h1
    exact he
theorem firstL.all {L : List J} {id : ByteArray} {k : Nat} (h : firstL L id k) (hk : L.length ≤ k) : hasL L id = false := by
  unfold hasL
  rw [List.any_eq_false]
  intro j hj hh
  refine h j ?_ (of_decide_eq_true hh)
  rw [List.take_of_length_le hk]
  exact hj
set_option maxRecDepth 100000 in
set_option maxHeartbeats 1000000 in
theorem at_any {B : Nat} {w : World} {rb : Nat} {lv : Value} {s : QS} (h : IsR B w rb lv s) (id : ByteArray) :
    Calls Try.prog 36 #[.pointer (some ⟨rb, 0, none⟩), .string id] w fun e w' => (∃ r : Int, e = .returned (.int .i64 r) ∧ ((r = -1 ∧ hasL s.L id = false) ∨ ∃ (k : Nat) (j : J), r = k ∧ s.L[k]? = some j ∧ j.id = id)) ∧ w' = w := by
  obtain ⟨c0, c1, c2⟩ := h.cells
  have hfew := h.few
  obtain ⟨p, cap, hlv⟩ := row_shape h.row
  subst hlv
  go_enter Try.func36, Try.ntmps36
  go_wp2
  go_loopw [5] (fun i wr => ∃ k : Nat, i = .int .i64 k ∧ k ≤ s.L.length ∧ wr = w ∧ firstL s.L id k) (fun i _ => s.L.length - (RowKit.intOf i).toNat)
  case atStart => exact ⟨0, rfl, Nat.zero_le _, rfl, fun j hj => by simp at hj⟩
  case round =>
    obtain ⟨k, rfl, hk, rfl, hf⟩ := hrel
    by_cases hkn : (k : Int) < (s.L.length : Int)
    · obtain ⟨j, hj⟩ : ∃ j, s.L[k]? = some j := ⟨_, List.getElem?_eq_getElem (by omega)⟩
      obtain ⟨g, cap', hlv, hc1, hc2⟩ := h.at_ hj
      cases hlv
      obtain ⟨j0, j1, j2, j3, jf⟩ := h.job hj
      by_cases he : j.id = id
      · go_wp2
        go_ret
        exact ⟨⟨k, rfl, .inr ⟨k, j, rfl, hj, he⟩⟩, rfl⟩
      · have hb := lists_ne he
        go_wp2
        exact ⟨⟨k + 1, by go_num, by omega, trivial, hf.step hj he⟩, by simp [RowKit.intOf]; omega⟩
    · go_wp2
      go_ret
      exact ⟨⟨_, rfl, .inl ⟨rfl, hf.all (by omega)⟩⟩, rfl⟩
theorem lineL_take_step {L : List J} {k : Nat} {j : J} (hj : L[k]? = some j) : lineL (L.take (k + 1)) = lineL (L.take k) ++ (if j.taken then [] else [j.id]) := by
  rw [List.take_add_one, hj]
  unfold lineL
  rw [List.filter_append, List.map_append]
  cases h : j.taken
  · simp [h]
  · simp [h]
set_option maxRecDepth 100000 in
set_option maxHeartbeats 1000000 in
theorem lenR_any {B : Nat} {w : World} {rb : Nat} {lv : Value} {s : QS} (h : IsR B w rb lv s) :
    Calls Try.prog 17 #[.pointer (some ⟨rb, 0, none⟩)] w fun e w' => e = .returned (.int .i64 (lineL s.L).length) ∧ w' = w := by
  obtain ⟨c0, c1, c2⟩ := h.cells
  have hfew := h.few
  obtain ⟨p, cap, hlv⟩ := row_shape h.row
  subst hlv
  go_enter Try.func17, Try.ntmps17
  go_wp2
  go_loopw [3, 4] (fun n i wr => ∃ k : Nat, i = .int .i64 k ∧ k ≤ s.L.length ∧ wr = w ∧ ∃ m : Nat, n = .int .i64 m ∧ RowKit.Hid ((lineL (s.L.take k)).length = m) ∧ m ≤ k) (fun _ i _ => s.L.length - (RowKit.intOf i).toNat)
  case atStart => exact ⟨0, rfl, Nat.zero_le _, rfl, 0, rfl, (rfl : (lineL (s.L.take 0)).length = 0), Nat.zero_le _⟩
  case round =>
    obtain ⟨k, rfl, hk, rfl, m, rfl, hm, hmk⟩ := hrel
    by_cases hkn : (k : Int) < (s.L.length : Int)
    · obtain ⟨j, hj⟩ : ∃ j, s.L[k]? = some j := ⟨_, List.getElem?_eq_getElem (by omega)⟩
      obtain ⟨g, cap', hlv, hc1, hc2⟩ := h.at_ hj
      cases hlv
      obtain ⟨j0, j1, j2, j3, jf⟩ := h.job hj
      have hst := lineL_take_step hj
      cases ht : j.taken
      · rw [ht] at j2 hst
        go_wp2
        exact ⟨⟨k + 1, by go_num, by omega, trivial, m + 1, by go_num, by rw [hst]; simp [hm], by omega⟩, by simp [RowKit.intOf]; omega⟩
      · rw [ht] at j2 hst
        go_wp2
        exact ⟨⟨k + 1, by go_num, by omega, trivial, m, rfl, by rw [hst]; simp [hm], by omega⟩, by simp [RowKit.intOf]; omega⟩
    · go_wp2
      go_ret
      rw [List.take_of_length_le (show s.L.length ≤ k by omega)] at hm
      rw [← hm]
      exact ⟨rfl, rfl⟩
end Go.Proofs.Ytkejopmohnfpgaa
