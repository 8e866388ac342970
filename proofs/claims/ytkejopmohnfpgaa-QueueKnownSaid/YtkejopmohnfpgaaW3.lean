/- The walks of Pop, New and the ways on which Push refuses. -/
import Derived.Test.YtkejopmohnfpgaaW2
namespace Go.Proofs.Ytkejopmohnfpgaa
open Go.RowKit Go.Maps Go.Proofs

set_option maxRecDepth 100000 in
theorem push_closed {B : Nat} {w : World} {qb mb : Nat} {lv : Value} {s : QS} (h : Qi B w qb mb lv s) (id : ByteArray) (x : Int) (hid : id.size ≤ maxLen) (hc : s.closed = true) :
    Calls Try.prog 8 #[.pointer (some ⟨qb, 0, none⟩), .string id, .int .i64 x] w fun e w' => e = .returned (.int .i64 19) ∧ w = w' := by
  obtain ⟨c0, c1, c2, c3, c4⟩ := h.cells
  obtain ⟨D, hown, hD⟩ := h.map
  have hkey : keyOf Try.prog 9 (.string id) = some (key id) := WideMaps.keyOf_string_mk Try.underlying9 hid
  rw [hc] at c4
  go_enter Try.func8, Try.ntmps8
  go_wp2_with (first
    | (go_at_call 22; refine (is_yes h).mono ?_; rintro e w' ⟨rfl, hw⟩; subst hw)
    | (at_lookup; refine wpList_lookup_own_ok _ rfl _ _ 50 rfl 9 53 law9 Try.underlying50 ptrElem (zero53 _) .nil [] rfl mb s.pushed D rfl hown _ (key id) rfl hkey ?_; intro v ps hv))
  go_ret
  exact ⟨rfl, rfl⟩
set_option maxRecDepth 100000 in
theorem push_there {B : Nat} {w : World} {qb mb : Nat} {lv : Value} {s : QS} (h : Qi B w qb mb lv s) (id : ByteArray) (x : Int) (hid : id.size ≤ maxLen) (hc : s.closed = false) (hn : hasL s.L id = true) :
    Calls Try.prog 8 #[.pointer (some ⟨qb, 0, none⟩), .string id, .int .i64 x] w fun e w' => e = .returned (.int .i64 6) ∧ w = w' := by
  obtain ⟨c0, c1, c2, c3, c4⟩ := h.cells
  obtain ⟨D, hown, hD⟩ := h.map
  have hhas := hD.has id
  rw [hn] at hhas
  have hkey : keyOf Try.prog 9 (.string id) = some (key id) := WideMaps.keyOf_string_mk Try.underlying9 hid
  rw [hc] at c4
  go_enter Try.func8, Try.ntmps8
  go_wp2_with (first
    | (go_at_call 22; refine (is_yes h).mono ?_; rintro e w' ⟨rfl, hw⟩; subst hw)
    | (at_lookup; refine wpList_lookup_own_ok _ rfl _ _ 50 rfl 9 53 law9 Try.underlying50 ptrElem (zero53 _) .nil [] rfl mb s.pushed D rfl hown _ (key id) rfl hkey ?_; rw [hhas]; intro v ps hv))
  go_ret
  exact ⟨rfl, rfl⟩
set_option maxRecDepth 100000 in
theorem push_full {B : Nat} {w : World} {qb mb : Nat} {lv : Value} {s : QS} (h : Qi B w qb mb lv s) (id : ByteArray) (x : Int) (hid : id.size ≤ maxLen) (hc : s.closed = false) (hn : hasL s.L id = false) (hr : s.most ≤ (lineL s.L).length) :
    Calls Try.prog 8 #[.pointer (some ⟨qb, 0, none⟩), .string id, .int .i64 x] w fun e w' => e = .returned (.int .i64 7) ∧ Below B w w' ∧ Qi B w' qb mb lv s := by
  obtain ⟨c0, c1, c2, c3, c4⟩ := h.cells
  obtain ⟨p, cap, rfl⟩ := line_shape h.line
  obtain ⟨D, hown, hD⟩ := h.map
  have hhas := hD.has id
  rw [hn] at hhas
  have hkey : keyOf Try.prog 9 (.string id) = some (key id) := WideMaps.keyOf_string_mk Try.underlying9 hid
  rw [hc] at c4
  have hlt : decide ((s.most : Int) ≤ ((lineL s.L).length : Int)) = true := by simp; omega
  go_enter Try.func8, Try.ntmps8
  go_wp2_with (first
    | (go_at_call 22; refine (is_yes h).mono ?_; rintro e w' ⟨rfl, hw⟩; subst hw)
    | (at_lookup; refine wpList_lookup_own_ok _ rfl _ _ 50 rfl 9 53 law9 Try.underlying50 ptrElem (zero53 _) .nil [] rfl mb s.pushed D rfl hown _ (key id) rfl hkey ?_; rw [hhas]; intro v ps hv))
  go_quiet (fail)
  go_wp2
  go_ret
  exact ⟨rfl, below_drewN _ _ _, h.drewN _⟩
set_option maxRecDepth 100000 in
theorem pop_none {B : Nat} {w : World} {qb mb : Nat} {lv : Value} {s : QS} (h : Qi B w qb mb lv s) (hl : lineL s.L = []) :
    Calls Try.prog 10 #[.pointer (some ⟨qb, 0, none⟩)] w fun e w' => e = .returned (.tuple #[.string ⟨#[]⟩, .int .i64 0, .int .i64 (if s.closed then 19 else 5)]) ∧ w = w' := by
  obtain ⟨c0, c1, c2, c3, c4⟩ := h.cells
  obtain ⟨p, cap, rfl⟩ := line_shape h.line
  rw [hl] at c1
  simp only [List.length_nil] at c1
  cases hc : s.closed <;> (rw [hc] at c4)
  · go_enter Try.func10, Try.ntmps10
    go_wp2_with (first
      | (go_at_call 22; refine (is_yes h).mono ?_; rintro e w' ⟨rfl, hw⟩; subst hw))
    go_ret3
    exact ⟨rfl, rfl⟩
  · go_enter Try.func10, Try.ntmps10
    go_wp2_with (first
      | (go_at_call 22; refine (is_yes h).mono ?_; rintro e w' ⟨rfl, hw⟩; subst hw))
    go_ret3
    exact ⟨rfl, rfl⟩
theorem line_head {w : World} {B : Nat} {v : Value} {id : ByteArray} {rest : List ByteArray} (h : w.ownsRow B 9 1 v (id :: rest).length ((id :: rest).map Value.string)) :
    ∃ g cap, v = .slice (some ⟨g, 0, none⟩) (rest.length + 1) cap ∧ rest.length + 1 ≤ cap ∧ cap ≤ maxLen ∧ (∀ (j : Nat) (u : Value), ((id :: rest).map Value.string)[j]? = some u → w.cell? ⟨g, j, none⟩ = some u) := by
  rcases h.2 with ⟨_, h2⟩ | ⟨g, cap, cur, h1, h2, h3, h4, h5, h6, h7⟩
  · cases h2
  · refine ⟨g, cap, h1, h4, h5, fun j u hu => ?_⟩
    rw [cell_of_row w g j _ _ _ h3]
    rw [← h7, List.getElem?_take] at hu
    split at hu
    · simpa using hu
    · cases hu
set_option maxRecDepth 100000 in
theorem pop_some {B : Nat} {w : World} {qb mb : Nat} {lv : Value} {s : QS} (h : Qi B w qb mb lv s) {id : ByteArray} {rest : List ByteArray} (hl : lineL s.L = id :: rest) (j : J) (hj : j ∈ s.L) (he : j.id = id) (x : Int) (hx : j.x = .int .i64 x) :
    Calls Try.prog 10 #[.pointer (some ⟨qb, 0, none⟩)] w fun e w' => e = .returned (.tuple #[.string id, .int .i64 x, .int .i64 0]) ∧ Below B w w' ∧ ∃ lv', Qi B w' qb mb lv' { s with L := turn s.L id fun j => { j with taken := true } } := by
  obtain ⟨c0, c1, c2, c3, c4⟩ := h.cells
  subst he
  have hline := h.line
  have hlines := h.lines
  have hfew := h.few
  rw [hl] at hline hlines
  obtain ⟨g, cap, rfl, hcap, hmax, hcells⟩ := line_head hline
  obtain ⟨D, hown, hD⟩ := h.map
  have hhas := hD.has j.id
  obtain ⟨b1, b2, b3⟩ := h.jobs j hj
  have hid := h.ids j hj
  have hB := h.base.2.2
  have hkey : keyOf Try.prog 9 (.string j.id) = some (key j.id) := WideMaps.keyOf_string_mk Try.underlying9 hid
  have e0 := hcells 0 _ rfl
  have hz : ((rest.length + 1 : Nat) : Int) = (rest.length : Int) + 1 := by omega
  obtain ⟨i0, hi, hz0, hz1, hz2⟩ := info_parts info9
  simp only [List.length_cons] at hlines
  have hns : (rest.map Value.string).length = rest.length * 1 := by simp
  have hcl : ∀ (j : Nat) (u : Value), (rest.map Value.string)[j]? = some u → w.cell? ⟨g, 1 + j, none⟩ = some u := fun j u hu => by rw [Nat.add_comm]; exact hcells (j + 1) u (by simpa using hu)
  have hone : ∀ u ∈ rest.map Value.string, u.oneCell' = true := by intro u hu; obtain ⟨a, _, rfl⟩ := List.mem_map.1 hu; rfl
  have hq : rest.length ≤ maxLen := by unfold maxLen; omega
  have hbig : rest.length * 16 ≤ 140737488355328 := by omega
  have clone : ∀ off c, (off = 1 ∨ rest.length = 0) → _ := fun off c ho => Try.slices_Clone i0 _ 1 16 hi hz0 hz1 hz2 rfl (by decide) (fun w => Try.sizeOf9 w) g off rest.length c (rest.map Value.string) w hns hq hbig (fun j u hu => by
    rcases ho with ho | ho
    · rw [ho]; exact hcl j u hu
    · rw [List.length_eq_zero_iff.1 ho] at hu; simp at hu) hone
  generalize hk : rest.length = k at *
  have hne : (((k : Int) + 1) == 0) = false := by simp; omega
  have hblk := h.blk
  have hbase := h.base
  have K1 : ∀ {w1 v' : _} (q : Obj → Prop), Below w.heap.size w w1 → (¬ q (.cells #[.int .i64 s.most, .slice (some ⟨g, 0, none⟩) (k + 1) cap, .map (some mb), .int .i64 s.pushed, .bool s.closed] 52 (0, 0))) → Keeps w (w1.setCell ⟨qb, 1, none⟩ v') q := fun q hb hq => ((Keeps.refl _ _).below hb).setCell (cells_keeps h.blk ((Keeps.refl _ _).below hb)) hq _
  have TAIL := fun (lv' : Value) (w' : World) h1 h2 hl h3 h4 h5 hz => h.turned (w' := w') (lv' := lv') (j := j) (f := fun j => { j with taken := true }) hj rfl (fun _ => rfl) (fun _ => rfl) (fun _ => rfl) h1 h2 hl h3 h4 h5 hz
  have hAp := h.apart
  have hjobs := h.jobs
  go_enter Try.func10, Try.ntmps10
  go_wp2_with (first
    | (go_at_call 22; refine (is_yes h).mono ?_; rintro e w' ⟨rfl, hw⟩; subst hw))
  all_goals (
    refine (clone _ _ (by omega)).mono ?_
    rintro e w1 ⟨v', rfl, hown1, _, hw1⟩
    obtain ⟨p1, cap1, rfl⟩ := line_shape hown1
    have z1 := qfree hblk ((Keeps.refl _ _).below hw1) 1
    have q1 := qcell hblk ((Keeps.refl _ _).below hw1) 1 rfl
    have hm1 : (w1.setCell ⟨qb, 1, none⟩ (.slice p1 k cap1)).ownsMap Try.prog 9 ptrElem mb s.pushed D := map_keeps hown (K1 _ hw1 (ofMap_cells _ _ _))
    have jb := cells_keeps b1 (K1 (v' := .slice p1 k cap1) _ hw1 (ofT_ne (by decide) _))
    have q2 : (w1.setCell ⟨qb, 1, none⟩ (.slice p1 k cap1)).cell? ⟨qb, 2, none⟩ = some (.map (some mb)) := qcell (cells_set (cells_keeps hblk ((Keeps.refl _ _).below hw1)) (.slice p1 k cap1)) (Keeps.refl _ _) 2 rfl
    have z2 := qfree jb (Keeps.refl _ _) 2
    have j2 := qcell jb (Keeps.refl _ _) 2 rfl
    have j0 : ((w1.setCell ⟨qb, 1, none⟩ (.slice p1 k cap1)).setCell ⟨j.blk, 2, none⟩ (.bool true)).cell? ⟨j.blk, 0, none⟩ = some (.int .i64 x) := qcell (cells_set jb (.bool true)) (Keeps.refl _ _) 0 (by rw [hx]; rfl)
    obtain ⟨v, ps, hrun, hv⟩ := hm1.lookup (t := 50) law9 Try.underlying50 (zero53 _) (zd := .nil) (zp := []) rfl hkey
    obtain rfl := at_job hD hj hv)
  all_goals (
    go_wp2
    go_quiet (fail)
    go_wp2
    go_ret3
    have d1 : Below B w (w1.setCell ⟨qb, 1, none⟩ (.slice p1 k cap1)) := (hw1.mono hB).setCell hbase.1 _
    have d2 : Below B w (((w1.setCell ⟨qb, 1, none⟩ (.slice p1 k cap1)).setCell ⟨j.blk, 2, none⟩ (.bool true)).drewN nq) := (d1.setCell b3 _).trans (below_drewN _ _ _)
    have K2 : ∀ {q : Obj → Prop}, (∀ c, ¬ q (.cells c 56 (0, 0))) → Keeps (w1.setCell ⟨qb, 1, none⟩ (.slice p1 k cap1)) (((w1.setCell ⟨qb, 1, none⟩ (.slice p1 k cap1)).setCell ⟨j.blk, 2, none⟩ (.bool true)).drewN nq) q := fun hq => ((Keeps.refl _ _).setCell jb (hq _) _).drewN nq
    have hrest : lineL (turn s.L j.id fun j => { j with taken := true }) = rest := lineL_take hAp hl
    refine ⟨rfl, d2, .slice p1 k cap1, TAIL _ _ (cells_keeps (cells_set (cells_keeps hblk ((Keeps.refl _ _).below hw1)) _) (K2 (ofT_ne (by decide)))) ?_ (by rw [hrest, hl]; simp) ((K1 _ hw1 (ofMap_cells _ _ _)).trans (K2 (fun c => ofMap_cells _ _ _))) ?_ ?_ (Nat.le_trans hB d2.size)⟩
    · rw [hrest, hk]
      exact line_keeps (own_base hown1 hB) ((((Keeps.refl _ _).setCell (cells_keeps hblk ((Keeps.refl _ _).below hw1)) (ofT_ne (by decide) _) _)).trans (K2 (ofT_ne (by decide))))
    · intro i hi hne
      obtain ⟨i1, i2, i3⟩ := hjobs i hi
      have i4 := cells_keeps i1 (K1 (v' := .slice p1 k cap1) _ hw1 (ofT_ne (by decide) _))
      rw [i1, drewN_heap, heap_setCell_other _ _ _ _ (hAp.blk hi hj hne)]
      exact i4
    · rw [drewN_heap]
      exact cells_set jb _)
end Go.Proofs.Ytkejopmohnfpgaa
