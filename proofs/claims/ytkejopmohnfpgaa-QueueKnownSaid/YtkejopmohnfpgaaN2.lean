/- The reference's Cancel and Pop. -/
import Derived.Test.YtkejopmohnfpgaaN1
import Derived.Deep.QuietTactic
import Derived.BigQuiet
namespace Go.Proofs.Ytkejopmohnfpgaa
open Go.RowKit Go.Maps Go.Proofs

theorem Apart.index {L : List J} (h : Apart L) {k i : Nat} {a b : J} (hk : L[k]? = some a) (hi : L[i]? = some b) (e : a.id = b.id) : k = i := by
  obtain ⟨hk1, hk2⟩ := List.getElem?_eq_some_iff.1 hk
  obtain ⟨hi1, hi2⟩ := List.getElem?_eq_some_iff.1 hi
  have hp := List.pairwise_iff_getElem.1 h
  rcases Nat.lt_trichotomy k i with hlt | heq | hlt
  · exact absurd (by rw [hk2, hi2]; exact e) (hp k i hk1 hi1 hlt).1
  · exact heq
  · exact absurd (by rw [hk2, hi2]; exact e.symm) (hp i k hi1 hk1 hlt).1
theorem turn_set {L : List J} (h : Apart L) {k : Nat} {j : J} (hk : L[k]? = some j) (f : J → J) : turn L j.id f = L.set k (f j) := by
  apply List.ext_getElem?
  intro i
  unfold turn
  rw [List.getElem?_map, List.getElem?_set]
  by_cases e : k = i
  · subst e
    obtain ⟨hk1, hk2⟩ := List.getElem?_eq_some_iff.1 hk
    simp [hk1, hk2]
  · rw [if_neg e]
    cases hi : L[i]? with
    | none => rfl
    | some b =>
      have : b.id ≠ j.id := fun e2 => e (h.index hk hi e2.symm)
      simp [this]
theorem rowCells_set {L : List J} {k : Nat} {j j' : J} (hk : L[k]? = some j) {f : Nat} {u : Value} (hf : f < 4) (hj : jobCells j' = (jobCells j).set f u) : rowCells (L.set k j') = (rowCells L).set (k * 4 + f) u := by
  induction L generalizing k with
  | nil => simp at hk
  | cons i t ih =>
    cases k with
    | zero =>
      simp at hk
      subst hk
      show jobCells j' ++ rowCells t = (jobCells i ++ rowCells t).set (0 * 4 + f) u
      rw [hj, Nat.zero_mul, Nat.zero_add, List.set_append_left _ _ (by simp [jobCells]; omega)]
    | succ k =>
      simp at hk
      show jobCells i ++ rowCells (t.set k j') = (jobCells i ++ rowCells t).set ((k + 1) * 4 + f) u
      rw [ih hk, List.set_append_right _ _ (by simp [jobCells]; omega)]
      rw [show (k + 1) * 4 + f - (jobCells i).length = k * 4 + f by simp [jobCells]; omega]
theorem notR_row (c : Array Value) : ¬ NotR (.cells c 69 (0, 0)) := fun h => h (.inr ⟨_, rfl⟩)
theorem notR_blk (c : Array Value) : ¬ NotR (.cells c 43 (0, 0)) := fun h => h (.inl ⟨_, rfl⟩)
theorem own_heap {w : World} {B e z n g cap : Nat} {xs : List Value} (h : w.ownsRow B e z (.slice (some ⟨g, 0, none⟩) n cap) n xs) : ∃ c, w.heap[g]? = some (.cells c e (0, 0)) ∧ B ≤ g := by
  rcases h.2 with ⟨h', _⟩ | ⟨g', cap', cur, h', hb, hg, _⟩
  · cases h'
  · cases h'
    exact ⟨_, hg, hb⟩
/-- a cell of a job is stored -/
theorem IsR.set {B : Nat} {w : World} {rb g cap : Nat} {s : QS} (h : IsR B w rb (.slice (some ⟨g, 0, none⟩) s.L.length cap) s) {k : Nat} {j j' : J} (hk : s.L[k]? = some j) {f : Nat} {u : Value} (hf : f < 4) (hj : jobCells j' = (jobCells j).set f u) :
    IsR B (w.setCell ⟨g, k * 4 + f, none⟩ u) rb (.slice (some ⟨g, 0, none⟩) s.L.length cap) { s with L := s.L.set k j' } ∧ Keeps w (w.setCell ⟨g, k * 4 + f, none⟩ u) NotR ∧ Below B w (w.setCell ⟨g, k * 4 + f, none⟩ u) := by
  obtain ⟨c, hc, hB⟩ := own_heap h.row
  have hne : rb ≠ g := fun e => by
    have := h.blk
    rw [e, hc] at this
    simp at this
  refine ⟨⟨?_, ?_, ⟨h.base.1, by rw [World.size_setCell]; exact h.base.2⟩, by simpa using h.few⟩, (Keeps.refl _ _).setCell hc (notR_row _) _, (Below.refl _ _).setCell hB _⟩
  · rw [heap_setCell_other _ _ _ _ hne]
    exact h.blk
  · have := (h.row.stored (k * 4 + f) u).1
    rw [← rowCells_set hk hf hj] at this
    simpa using this
theorem IsR.set_cells {B : Nat} {w : World} {rb g cap : Nat} {s : QS} (h : IsR B w rb (.slice (some ⟨g, 0, none⟩) s.L.length cap) s) {k : Nat} {j : J} (hk : s.L[k]? = some j) {f : Nat} {u : Value} (hf : 2 ≤ f) :
    (w.setCell ⟨g, k * 4 + f, none⟩ u).cell? ⟨rb, 1, none⟩ = some (.slice (some ⟨g, 0, none⟩) s.L.length cap) ∧ (w.setCell ⟨g, k * 4 + f, none⟩ u).cell? ⟨g, k * 4, none⟩ = some (.string j.id) ∧ (w.setCell ⟨g, k * 4 + f, none⟩ u).cell? ⟨g, k * 4 + 1, none⟩ = some j.x := by
  obtain ⟨c, hc, hB⟩ := own_heap h.row
  have hne : rb ≠ g := fun e => by
    have := h.blk
    rw [e, hc] at this
    simp at this
  obtain ⟨hk1, _⟩ := List.getElem?_eq_some_iff.1 hk
  have hst := (h.row.stored (k * 4 + f) u).1
  have hb : (w.setCell ⟨g, k * 4 + f, none⟩ u).heap[rb]? = _ := (heap_setCell_other _ _ _ _ hne).trans h.blk
  refine ⟨?_, ?_, ?_⟩
  · rw [cell_of_row _ rb 1 _ _ _ hb]; rfl
  · rw [hst.cellAt _ (by omega), List.getElem?_set_ne (by omega)]
    exact rowCells_at hk 0 (by omega)
  · rw [hst.cellAt _ (by omega), List.getElem?_set_ne (by omega)]
    exact rowCells_at hk 1 (by omega)
theorem at_no {B : Nat} {w : World} {rb : Nat} {lv : Value} {s : QS} (h : IsR B w rb lv s) {id : ByteArray} (hn : hasL s.L id = false) :
    Calls Try.prog 36 #[.pointer (some ⟨rb, 0, none⟩), .string id] w fun e w' => e = .returned (.int .i64 (-1)) ∧ w = w' := by
  refine (at_any h id).mono ?_
  rintro e w' ⟨⟨r, rfl, hr⟩, rfl⟩
  rcases hr with ⟨rfl, _⟩ | ⟨k, j, _, hj, he⟩
  · exact ⟨rfl, rfl⟩
  · exact absurd he (hasL_false hn j (List.mem_of_getElem? hj))
theorem at_yes {B : Nat} {w : World} {rb : Nat} {lv : Value} {s : QS} (h : IsR B w rb lv s) (ha : Apart s.L) {k : Nat} {j : J} (hk : s.L[k]? = some j) :
    Calls Try.prog 36 #[.pointer (some ⟨rb, 0, none⟩), .string j.id] w fun e w' => e = .returned (.int .i64 k) ∧ w = w' := by
  refine (at_any h j.id).mono ?_
  rintro e w' ⟨⟨r, rfl, hr⟩, rfl⟩
  rcases hr with ⟨_, hn⟩ | ⟨i, b, rfl, hb, he⟩
  · exact absurd rfl (hasL_false hn j (List.mem_of_getElem? hk))
  · rw [ha.index hb hk he]
    exact ⟨rfl, rfl⟩
set_option maxRecDepth 100000 in
theorem cancelR_no {B : Nat} {w : World} {rb : Nat} {lv : Value} {s : QS} (h : IsR B w rb lv s) {id : ByteArray} (hn : hasL s.L id = false) :
    Calls Try.prog 30 #[.pointer (some ⟨rb, 0, none⟩), .string id] w fun e w' => e = .returned (.bool false) ∧ w = w' := by
  have ha := at_no h hn
  clear hn
  go_enter Try.func30, Try.ntmps30
  go_wp2_with (first | (go_at_call 36; refine ha.mono ?_; rintro e w' ⟨rfl, hw⟩; subst hw))
  go_ret
  exact ⟨rfl, rfl⟩
set_option maxRecDepth 100000 in
theorem cancelR_yes {B : Nat} {w : World} {rb : Nat} {lv : Value} {s : QS} (h : IsR B w rb lv s) (hA : Apart s.L) {id : ByteArray} (hn : hasL s.L id = true) :
    Calls Try.prog 30 #[.pointer (some ⟨rb, 0, none⟩), .string id] w fun e w' => e = .returned (.bool true) ∧ IsR B w' rb lv { s with L := turn s.L id fun j => { j with marked := true } } ∧ Keeps w w' NotR ∧ Below B w w' := by
  obtain ⟨j, hm, rfl⟩ := hasL_true hn
  obtain ⟨k, hk1, hk2⟩ := List.mem_iff_getElem.1 hm
  have hk : s.L[k]? = some j := by rw [List.getElem?_eq_getElem hk1, hk2]
  have ha := at_yes h hA hk
  obtain ⟨g, cap, rfl, hc1, hc2⟩ := h.at_ hk
  obtain ⟨c0, c1, c2⟩ := h.cells
  obtain ⟨j0, j1, j2, j3, jf⟩ := h.job hk
  have hset := h.set hk (f := 3) (u := .bool true) (j' := { j with marked := true }) (by omega) rfl
  rw [turn_set hA hk]
  have hfew := h.few
  clear hk2 hn
  go_enter Try.func30, Try.ntmps30
  go_wp2_with (first | (go_at_call 36; refine ha.mono ?_; rintro e w' ⟨rfl, hw⟩; subst hw))
  go_ret
  exact ⟨rfl, hset⟩
theorem lineL_split {L : List J} {k : Nat} {j : J} (hk : L[k]? = some j) (hj : j.taken = false) (ht : ∀ i ∈ L.take k, i.taken = true) : ∃ rest, lineL L = j.id :: rest := by
  obtain ⟨h1, h2⟩ := List.getElem?_eq_some_iff.1 hk
  have e : L = L.take k ++ j :: L.drop (k + 1) := by
    rw [← h2, List.getElem_cons_drop, List.take_append_drop]
  rw [e]
  unfold lineL
  rw [List.filter_append, List.map_append, List.filter_cons]
  simp only [hj, Bool.not_false, if_true, List.map_cons]
  have : (L.take k).filter (fun j => !j.taken) = [] := List.filter_eq_nil_iff.2 fun i hi => by simp [ht i hi]
  rw [this]
  exact ⟨_, rfl⟩
theorem lineL_none {L : List J} {k : Nat} (hk : L.length ≤ k) (ht : ∀ i ∈ L.take k, i.taken = true) : lineL L = [] := by
  rw [List.take_of_length_le hk] at ht
  unfold lineL
  rw [List.filter_eq_nil_iff.2 fun i hi => by simp [ht i hi]]
  rfl
def Taken (L : List J) (k : Nat) : Prop := ∀ i ∈ L.take k, i.taken = true
theorem Taken.step {L : List J} {k : Nat} {j : J} (h : Taken L k) (hk : L[k]? = some j) (hj : j.taken = true) : Taken L (k + 1) := by
  intro i hi
  rw [List.take_add_one, hk] at hi
  rcases List.mem_append.1 hi with h1 | h1
  · exact h i h1
  · simp at h1
    subst h1
    exact hj
def tupR (a : ByteArray) (x y : Int) : Value := .tuple #[.string a, .int .i64 x, .int .i64 y]
set_option maxRecDepth 100000 in
set_option maxHeartbeats 1000000 in
theorem popR_none {B : Nat} {w : World} {rb : Nat} {lv : Value} {s : QS} (h : IsR B w rb lv s) (hl : lineL s.L = []) :
    Calls Try.prog 29 #[.pointer (some ⟨rb, 0, none⟩)] w fun e w' => e = .returned (tupR ⟨#[]⟩ 0 (if s.closed then 19 else 5)) ∧ w = w' := by
  obtain ⟨c0, c1, c2⟩ := h.cells
  have hfew := h.few
  have hall : ∀ i ∈ s.L, i.taken = true := fun i hi => by
    cases ht : i.taken
    · have : i.id ∈ lineL s.L := List.mem_map.2 ⟨i, List.mem_filter.2 ⟨hi, by simp [ht]⟩, rfl⟩
      rw [hl] at this
      cases this
    · rfl
  obtain ⟨p, cap, hlv⟩ := row_shape h.row
  subst hlv
  clear hl
  go_enter Try.func29, Try.ntmps29
  go_wp2
  go_loopw [5] (fun i wr => ∃ k : Nat, i = .int .i64 k ∧ k ≤ s.L.length ∧ wr = w) (fun i _ => s.L.length - (RowKit.intOf i).toNat)
  case atStart => exact ⟨0, rfl, Nat.zero_le _, rfl⟩
  case round =>
    obtain ⟨k, rfl, hk, rfl⟩ := hrel
    by_cases hkn : (k : Int) < (s.L.length : Int)
    · obtain ⟨j, hj⟩ : ∃ j, s.L[k]? = some j := ⟨_, List.getElem?_eq_getElem (by omega)⟩
      obtain ⟨g, cap', hlv, hc1, hc2⟩ := h.at_ hj
      cases hlv
      obtain ⟨j0, j1, j2, j3, jf⟩ := h.job hj
      rw [hall j (List.mem_of_getElem? hj)] at j2
      go_wp2
      exact ⟨⟨k + 1, by go_num, by omega, trivial⟩, by simp [RowKit.intOf]; omega⟩
    · cases hc : s.closed
      · rw [hc] at c2
        go_wp2
        go_ret3
        exact ⟨rfl, rfl⟩
      · rw [hc] at c2
        go_wp2
        go_ret3
        exact ⟨rfl, rfl⟩
set_option maxRecDepth 100000 in
set_option maxHeartbeats 1000000 in
theorem popR_some {B : Nat} {w : World} {rb : Nat} {lv : Value} {s : QS} (h : IsR B w rb lv s) (hA : Apart s.L) {id : ByteArray} {rest : List ByteArray} (hl : lineL s.L = id :: rest) {j : J} (hm : j ∈ s.L) (he : j.id = id) {x : Int} (hx : j.x = .int .i64 x) :
    Calls Try.prog 29 #[.pointer (some ⟨rb, 0, none⟩)] w fun e w' => e = .returned (tupR id x 0) ∧ IsR B w' rb lv { s with L := turn s.L id fun j => { j with taken := true } } ∧ Keeps w w' NotR ∧ Below B w w' := by
  obtain ⟨c0, c1, c2⟩ := h.cells
  have hfew := h.few
  obtain ⟨p, cap, hlv⟩ := row_shape h.row
  subst hlv
  have hL := Lib.hid hl
  clear hl
  go_enter Try.func29, Try.ntmps29
  go_wp2
  go_loopw [5] (fun i wr => ∃ k : Nat, i = .int .i64 k ∧ k ≤ s.L.length ∧ wr = w ∧ Taken s.L k) (fun i _ => s.L.length - (RowKit.intOf i).toNat)
  case atStart => exact ⟨0, rfl, Nat.zero_le _, rfl, fun i hi => by simp at hi⟩
  case round =>
    obtain ⟨k, rfl, hk, rfl, hT⟩ := hrel
    by_cases hkn : (k : Int) < (s.L.length : Int)
    · obtain ⟨i, hi⟩ : ∃ j, s.L[k]? = some j := ⟨_, List.getElem?_eq_getElem (by omega)⟩
      obtain ⟨g, cap', hlv, hc1, hc2⟩ := h.at_ hi
      cases hlv
      obtain ⟨j0, j1, j2, j3, jf⟩ := h.job hi
      cases ht : i.taken
      · obtain ⟨r2, hr2⟩ := lineL_split hi ht hT
        have hid : i.id = id := by
          have : id :: rest = i.id :: r2 := (show lineL s.L = id :: rest from hL).symm.trans hr2
          injection this with h1 h2
          exact h1.symm
        obtain rfl : i = j := hA.uniq (List.mem_of_getElem? hi) hm (hid.trans he.symm)
        have hset := h.set hi (f := 2) (u := .bool true) (j' := { i with taken := true }) (by omega) rfl
        obtain ⟨d1, d2, d3⟩ := h.set_cells hi (f := 2) (u := .bool true) (by omega)
        rw [hx] at d3
        have hS := Lib.hid (turn_set hA hi (fun j => { j with taken := true }))
        go_wp2
        go_quiet (fail)
        go_wp2
        go_ret3
        obtain ⟨hR, hK, hB⟩ := hset
        refine ⟨rfl, ?_, hK.drewN _, hB.trans (below_drewN _ _ _)⟩
        rw [← hid, show turn s.L i.id (fun j => { j with taken := true }) = _ from hS]
        exact hR.kept ((Keeps.refl _ _).drewN _) (by rw [drewN_heap]; exact Nat.le_refl _)
      · rw [ht] at j2
        go_wp2
        exact ⟨⟨k + 1, by go_num, by omega, trivial, hT.step hi ht⟩, by simp [RowKit.intOf]; omega⟩
    · have hz := lineL_none (k := k) (by omega) hT
      rw [show lineL s.L = id :: rest from hL] at hz
      cases hz
end Go.Proofs.Ytkejopmohnfpgaa
