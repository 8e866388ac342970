/- The reference's Done. -/
import Derived.Test.YtkejopmohnfpgaaN4
namespace Go.Proofs.Ytkejopmohnfpgaa
open Go.RowKit Go.Maps Go.Proofs

theorem rowCells_append (a b : List J) : rowCells (a ++ b) = rowCells a ++ rowCells b := by simp [rowCells]
theorem rowCells_one (u : Value) (L : List J) (hu : u ∈ rowCells L) (hx : ∀ j ∈ L, j.x.oneCell' = true) : u.oneCell' = true := by
  unfold rowCells at hu
  obtain ⟨j, hj, hm⟩ := List.mem_flatMap.1 hu
  simp only [jobCells, List.mem_cons, List.not_mem_nil, or_false] at hm
  rcases hm with rfl | rfl | rfl | rfl
  · rfl
  · exact hx j hj
  · rfl
  · rfl
theorem filter_split {L1 L2 : List J} {j : J} (h : Apart (L1 ++ j :: L2)) : (L1 ++ j :: L2).filter (fun i => decide (i.id ≠ j.id)) = L1 ++ L2 := by
  unfold Apart at h
  obtain ⟨h1, h2, h3⟩ := List.pairwise_append.1 h
  obtain ⟨h4, h5⟩ := List.pairwise_cons.1 h2
  rw [List.filter_append, List.filter_cons_of_neg (by simp)]
  rw [List.filter_eq_self.2 fun a ha => decide_eq_true (h3 a ha j (List.mem_cons_self ..)).1]
  rw [List.filter_eq_self.2 (show ∀ a ∈ L2, decide (a.id ≠ j.id) = true from fun a ha => decide_eq_true (fun e => (h4 a ha).1 e.symm))]
theorem sizeOf69 (w : World) : (Go.sizeOf 69).run Try.prog w = .ok 4 w := by kernel_rfl
theorem run_tail (g n cap l : Nat) (h1 : l ≤ n) (h2 : n ≤ cap) :
    ∃ o c, (o = l * 4 ∨ n - l = 0) ∧ ∀ W, (Instr.slice 41 (.slice (some ⟨g, 0, none⟩) n cap) (some (.int .i64 (l : Int))) none none).run Try.prog W = .ok (.slice (some ⟨g, o, none⟩) (n - l) c) W := by
  have he : Try.prog.elem 41 = 69 := by simp [Program.elem, Try.underlying41]
  have ht : Try.prog.underlying 41 = some (.slice (Try.prog.elem 41)) := by rw [he]; exact Try.underlying41
  by_cases h0 : cap = l
  · refine ⟨0, cap - l, .inr (by omega), fun W => ?_⟩
    rw [run_slice_l W 41 _ _ _ ht .i64 _ (by omega) (by omega), he, sizeOf69]
    simp [Result.andThen, sliced, h0]
  · refine ⟨l * 4, cap - l, .inl rfl, fun W => ?_⟩
    rw [run_slice_l W 41 _ _ _ ht .i64 _ (by omega) (by omega), he, sizeOf69]
    by_cases h1 : l = 0
    · subst h1; simp [Result.andThen, sliced, Addr.add, h0]
    · have h4 : ¬ l * 4 = 0 := by omega
      simp [Result.andThen, sliced, Addr.add, h0, h4]
set_option maxRecDepth 100000 in
theorem doneR_no {B : Nat} {w : World} {rb : Nat} {lv : Value} {s : QS} (h : IsR B w rb lv s) {id : ByteArray} (hn : hasL s.L id = false) :
    Calls Try.prog 31 #[.pointer (some ⟨rb, 0, none⟩), .string id] w fun e w' => e = .returned (.tuple #[.bool false, .int .i64 5]) ∧ w = w' := by
  have ha := at_no h hn
  clear hn
  go_enter Try.func31, Try.ntmps31
  go_wp2_with (first | (go_at_call 36; refine ha.mono ?_; rintro e w' ⟨rfl, hw⟩; subst hw))
  go_ret2
  exact ⟨rfl, rfl⟩
set_option maxRecDepth 100000 in
theorem doneR_wait {B : Nat} {w : World} {rb : Nat} {lv : Value} {s : QS} (h : IsR B w rb lv s) (hA : Apart s.L) {k : Nat} {j : J} (hk : s.L[k]? = some j) (ht : j.taken = false) :
    Calls Try.prog 31 #[.pointer (some ⟨rb, 0, none⟩), .string j.id] w fun e w' => e = .returned (.tuple #[.bool false, .int .i64 5]) ∧ w = w' := by
  have ha := at_yes h hA hk
  obtain ⟨g, cap, rfl, hc1, hc2⟩ := h.at_ hk
  obtain ⟨c0, c1, c2⟩ := h.cells
  obtain ⟨j0, j1, j2, j3, jf⟩ := h.job hk
  obtain ⟨hk1, hk2⟩ := List.getElem?_eq_some_iff.1 hk
  rw [ht] at j2
  have hfew := h.few
  have hlt : decide ((k : Int) < 0) = false := by simp
  clear hk2
  go_enter Try.func31, Try.ntmps31
  go_wp2_with (first | (go_at_call 36; refine ha.mono ?_; rintro e w' ⟨rfl, hw⟩; subst hw))
  go_ret2
  exact ⟨rfl, rfl⟩
set_option maxRecDepth 100000 in
set_option maxHeartbeats 1000000 in
theorem doneR_yes {B : Nat} {w : World} {rb : Nat} {lv : Value} {s : QS} (h : IsR B w rb lv s) (hA : Apart s.L) (hx : ∀ j ∈ s.L, j.x.oneCell' = true) {k : Nat} {j : J} (hk : s.L[k]? = some j) (ht : j.taken = true) :
    Calls Try.prog 31 #[.pointer (some ⟨rb, 0, none⟩), .string j.id] w fun e w' => e = .returned (.tuple #[.bool j.marked, .int .i64 0]) ∧ ∃ lv', IsR B w' rb lv' { s with L := s.L.filter fun i => decide (i.id ≠ j.id) } ∧ Keeps w w' NotR ∧ Below B w w' := by
  have ha := at_yes h hA hk
  obtain ⟨i0, hi, hz0, hz1, hz2⟩ := info_parts info69
  obtain ⟨g, cap, rfl, hc1, hc2⟩ := h.at_ hk
  obtain ⟨c0, c1, c2⟩ := h.cells
  obtain ⟨j0, j1, j2, j3, jf⟩ := h.job hk
  obtain ⟨hk1, hk2⟩ := List.getElem?_eq_some_iff.1 hk
  rw [ht] at j2
  have hfew := h.few
  have hB := h.base
  obtain ⟨m, hm⟩ : ∃ m, s.L.length = k + 1 + m := ⟨s.L.length - (k + 1), by omega⟩
  have e0 : s.L = s.L.take k ++ j :: s.L.drop (k + 1) := by
    rw [← hk2, List.getElem_cons_drop, List.take_append_drop]
  obtain ⟨L1, hL1⟩ : ∃ L1, s.L.take k = L1 := ⟨_, rfl⟩
  obtain ⟨L2, hL2⟩ : ∃ L2, s.L.drop (k + 1) = L2 := ⟨_, rfl⟩
  rw [hL1, hL2] at e0
  have n1 : L1.length = k := by rw [← hL1, List.length_take]; omega
  have n2 : L2.length = m := by rw [← hL2, List.length_drop]; omega
  have hf : s.L.filter (fun i => decide (i.id ≠ j.id)) = L1 ++ L2 := by
    rw [e0] at hA ⊢
    exact filter_split hA
  have r1 : (rowCells L1).length = k * 4 := by rw [rowCells_length, n1]
  have r2 : (rowCells L2).length = m * 4 := by rw [rowCells_length, n2]
  have hxs : rowCells s.L = rowCells L1 ++ (jobCells j ++ rowCells L2) := by rw [e0, rowCells_append]; rfl
  have s1 : ∀ (q : Nat) (u : Value), (rowCells L1)[q]? = some u → w.cell? ((⟨g, 0, none⟩ : Addr).add q) = some u := fun q u hq => by
    have hlt := (List.getElem?_eq_some_iff.1 hq).1
    rw [show (Addr.add ⟨g, 0, none⟩ q) = ⟨g, q, none⟩ by unfold Addr.add; split <;> simp_all, h.row.cellAt q (by omega), hxs, List.getElem?_append_left hlt]
    exact hq
  have s2 : ∀ (q : Nat) (u : Value), (rowCells L2)[q]? = some u → w.cell? ⟨g, (k + 1) * 4 + q, none⟩ = some u := fun q u hq => by
    have hlt := (List.getElem?_eq_some_iff.1 hq).1
    rw [h.row.cellAt _ (by omega), hxs, List.getElem?_append_right (by omega), List.getElem?_append_right (by simp [jobCells]; omega)]
    rw [show (k + 1) * 4 + q - (rowCells L1).length - (jobCells j).length = q by simp [jobCells]; omega]
    exact hq
  have o1 : ∀ u ∈ rowCells L1, u.oneCell' = true := fun u hu => rowCells_one u L1 hu fun i hi' => hx i (by rw [e0]; simp [hi'])
  have o2 : ∀ u ∈ rowCells L2, u.oneCell' = true := fun u hu => rowCells_one u L2 hu fun i hi' => hx i (by rw [e0]; simp [hi'])
  have hR : ∀ {w' : World} {v' : Value}, w'.heap[rb]? = some (.cells #[.int .i64 s.most, v', .bool s.closed] 43 (0, 0)) → w'.ownsRow w.heap.size 69 4 v' (k + m) (rowCells L1 ++ rowCells L2) → w.heap.size ≤ w'.heap.size → IsR B w' rb v' { s with L := s.L.filter fun i => decide (i.id ≠ j.id) } := fun hb ho hz => by
    refine ⟨hb, ?_, ⟨hB.1, Nat.le_trans hB.2 hz⟩, ?_⟩
    · simp only [hf, List.length_append, n1, n2, rowCells_append]
      exact own_base ho hB.2
    · simp only [hf, List.length_append, n1, n2]
      omega
  have hblk := h.blk
  have hrb : rb < w.heap.size := (Array.getElem?_eq_some_iff.1 hblk).1
  have hgl : g < w.heap.size := by
    obtain ⟨c, hc, _⟩ := own_heap h.row
    exact (Array.getElem?_eq_some_iff.1 hc).1
  have hlt : decide ((k : Int) < 0) = false := by simp
  simp only [hm] at *
  have hmark : ∀ mk, mk = j.marked → (Value.tuple #[.bool mk, .int .i64 0]) = .tuple #[.bool j.marked, .int .i64 0] := fun _ e => by rw [e]
  clear hk2 hf n1 n2 hxs hL1 hL2 e0 hm hA hx h
  have hcapk : ((k : Int) + 1).toNat = k + 1 := by omega
  have hbelow : ∀ {w1 : World} {n : Nat} {xs : List Value} {v1 : Value}, w1.ownsRow w.heap.size 69 4 v1 n xs → w.grownBy w1 (Value.slice none 0 0).ownBlock → Below w.heap.size w w1 := fun _ hg => (Below.refl _ _).grown hg (Nat.le_refl _) (fun q hq => by cases hq)
  have hend : ∀ {w2 : World} {v2 : Value}, Below w.heap.size w w2 → w2.ownsRow w.heap.size 69 4 v2 (k + m) (rowCells L1 ++ rowCells L2) →
      ∃ lv', IsR B (w2.setCell ⟨rb, 1, none⟩ v2) rb lv' { s with L := s.L.filter fun i => decide (i.id ≠ j.id) } ∧ Keeps w (w2.setCell ⟨rb, 1, none⟩ v2) NotR ∧ Below B w (w2.setCell ⟨rb, 1, none⟩ v2) := fun {w2 v2} hb ho => by
    have b2 := (hb.block rb hrb).trans hblk
    have hs := cells_set b2 v2 (i := 1)
    exact ⟨v2, hR hs (row_keeps ho ((Keeps.refl w2 (OfT 69)).setCell b2 (ofT_ne (by decide) _) (i := 1) v2)) (by rw [World.size_setCell]; exact hb.size), ((Keeps.refl _ _).below hb).setCell b2 (notR_blk _) _, (hb.mono hB.2).setCell hB.1 _⟩
  have hsrc : ∀ {w1 : World}, Below w.heap.size w w1 → ∀ o, (o = (k + 1) * 4 ∨ m = 0) → ∀ (q : Nat) (u : Value), (rowCells L2)[q]? = some u → w1.cell? ((⟨g, o, none⟩ : Addr).add q) = some u := fun {w1} hb o ho q u hq => by
    have hlt := (List.getElem?_eq_some_iff.1 hq).1
    rw [show (Addr.add ⟨g, o, none⟩ q) = ⟨g, o + q, none⟩ by unfold Addr.add; split <;> simp_all]
    rcases ho with rfl | ho
    · exact (hb.cell (p := ⟨g, (k + 1) * 4 + q, none⟩) hgl).trans (s2 q u hq)
    · omega
  clear s2
  obtain ⟨o, c, ho, hsl⟩ := run_tail g (k + 1 + m) cap (k + 1) (by omega) (by omega)
  rw [show k + 1 + m - (k + 1) = m by omega] at ho hsl
  simp only [Int.natCast_add, Int.natCast_one] at hsl
  go_enter Try.func31, Try.ntmps31
  go_wp2_with (first
    | (go_at_call 36; refine ha.mono ?_; rintro e w' ⟨rfl, hw⟩; subst hw)
    | (at_builtin; refine wpList_append_own _ rfl (.tmp 33) (.tmp 39) 41 rfl w.heap.size 69 i0 _ 4 32 Try.underlying41 hi hz0 hz1 hz2 rfl (by decide) _ _ _ rfl (World.ownsRow_nil _ _ _ _) ⟨g, 0, none⟩ k _ (rowCells L1) rfl r1 s1 o1 (by unfold maxLen; omega) (by omega) (Nat.le_refl _) ?_; intro v1 w1 hown1 hg1 hnil1
       have hb1 := hbelow hown1 hg1
       have q1 := (hb1.cell (p := ⟨rb, 1, none⟩) hrb).trans c1
       simp only [Nat.zero_add, List.nil_append] at hown1
       obtain ⟨p1, cap1, rfl⟩ := row_shape hown1
       clear hnil1)
    | (at_builtin; refine wpList_append_own _ rfl (.tmp 42) (.tmp 49) 41 rfl w.heap.size 69 i0 _ 4 32 Try.underlying41 hi hz0 hz1 hz2 rfl (by decide) _ _ _ rfl hown1 ⟨g, o, none⟩ m c (rowCells L2) rfl r2 (hsrc hb1 _ ho) o2 (by unfold maxLen; omega) (by omega) hb1.size ?_
       intro v2 w2 hown2 hg2 hnil2
       have hb2 := hb1.grown hg2 hb1.size (fun q hq => (hown1.lt q hq).1)
       have z2 := qfree ((hb2.block rb hrb).trans hblk) (Keeps.refl _ _) 1
       have q2 := qcell ((hb2.block rb hrb).trans hblk) (Keeps.refl _ _) 1 rfl
       obtain ⟨p2, cap2, rfl⟩ := row_shape hown2
       clear hnil2))
  go_ret2
  exact ⟨rfl, hend hb2 hown2⟩
end Go.Proofs.Ytkejopmohnfpgaa
