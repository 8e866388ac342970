/- The walks of the queue of strings (printed by q_gen_s.py out of those of the queue of ints). -/
import Derived.Test.YtkejopmohnfpgaaW4
namespace Go.Proofs.Ytkejopmohnfpgaa
open Go.RowKit Go.Maps Go.Proofs

theorem zero76 (w : World) : (zeroValue 76).run Try.prog w = .ok (.pointer none) w := by kernel_rfl
abbrev Qs := IsQ 75 79 Try.prog
@[go_sem] theorem neqMap73 (m : Option Nat) (w : World) : (binOp .neq 73 (.map m) (.map none)).run Try.prog w = .ok (.bool (!m.isNone)) w := run_neq_map_nil w 73 9 76 m Try.underlying73
set_option maxRecDepth 8000 in
theorem is_yesS {B : Nat} {w : World} {qb mb : Nat} {lv : Value} {s : QS} (h : Qs B w qb mb lv s) :
    Calls Try.prog 35 #[.pointer (some ⟨qb, 0, none⟩)] w fun e w' => e = .returned (.bool true) ∧ w = w' := by
  obtain ⟨c0, c1, c2, c3, c4⟩ := h.cells
  go_enter Try.func35, Try.ntmps35
  go_wp2
  go_ret
  exact ⟨rfl, rfl⟩
set_option maxRecDepth 100000 in
theorem push_newS {B : Nat} {w : World} {qb mb : Nat} {lv : Value} {s : QS} (h : Qs B w qb mb lv s) (id : ByteArray) (x : ByteArray) (hid : id.size ≤ maxLen)
    (hc : s.closed = false) (hn : hasL s.L id = false) (hr : (lineL s.L).length < s.most) (hf : s.pushed < 1000000) :
    Calls Try.prog 25 #[.pointer (some ⟨qb, 0, none⟩), .string id, .string x] w fun e w' => e = .returned (.int .i64 0) ∧ Below B w w' ∧ ∃ lv' b, Qs B w' qb mb lv' { s with L := s.L ++ [⟨id, .string x, s.pushed + 1, false, false, b⟩], pushed := s.pushed + 1 } := by
  obtain ⟨c0, c1, c2, c3, c4⟩ := h.cells
  have f3 := h.free 3
  obtain ⟨p, cap, rfl⟩ := line_shape h.line
  obtain ⟨D, hown, hD⟩ := h.map
  have hhas := hD.has id
  rw [hn] at hhas
  rw [hc] at c4
  have hkey : keyOf Try.prog 9 (.string id) = some (key id) := WideMaps.keyOf_string_mk Try.underlying9 hid
  have hlt : decide ((s.most : Int) ≤ ((lineL s.L).length : Int)) = false := by simp; omega
  have hw := Int.natCast_add s.pushed 1
  go_enter Try.func25, Try.ntmps25
  go_wp2_with (first
    | (go_at_call 35; refine (is_yesS h).mono ?_; rintro e w' ⟨rfl, hw⟩; subst hw)
    | (at_lookup; refine wpList_lookup_own_ok _ rfl _ _ 73 rfl 9 76 law9 Try.underlying73 ptrElem (zero76 _) .nil [] rfl mb s.pushed D rfl hown _ (key id) rfl hkey ?_; rw [hhas]; intro v ps hv))
  go_quiet (fail)
  go_wp2
  have b0 : (w.drewN nq).heap[qb]? = some (.cells #[.int .i64 s.most, .slice p (lineL s.L).length cap, .map (some mb), .int .i64 s.pushed, .bool s.closed] 75 (0, 0)) := by rw [drewN_heap]; exact h.blk
  have K1 : ∀ {q : Obj → Prop}, (¬ q (.cells #[.int .i64 s.most, .slice p (lineL s.L).length cap, .map (some mb), .int .i64 s.pushed, .bool s.closed] 75 (0, 0))) → Keeps w ((w.drewN nq).setCell ⟨qb, 3, none⟩ (.int .i64 (s.pushed + 1))) q := fun hq => ((Keeps.refl _ _).drewN nq).setCell b0 hq _
  have b1 : ((w.drewN nq).setCell ⟨qb, 3, none⟩ (.int .i64 (s.pushed + 1))).heap[qb]? = some (.cells #[.int .i64 s.most, .slice p (lineL s.L).length cap, .map (some mb), .int .i64 (s.pushed + 1), .bool s.closed] 75 (0, 0)) := cells_set b0 _
  have d1 : Below B w ((w.drewN nq).setCell ⟨qb, 3, none⟩ (.int .i64 (s.pushed + 1))) := (below_drewN _ _ _).setCell h.base.1 _
  generalize ((w.drewN nq).setCell ⟨qb, 3, none⟩ (.int .i64 (s.pushed + 1))) = w1 at K1 b1 d1 ⊢
  have keep1 : ∀ {w' : World}, Keeps w1 w' NoMap → (w'.cell? ⟨qb, 2, none⟩ = some (.map (some mb)) ∧ w'.cell? ⟨qb, 3, none⟩ = some (.int .i64 (s.pushed + 1)) ∧ Keeps w1 w' NoMap) := fun hk => ⟨qcell b1 (hk.imp ofT_noMap) 2 rfl, qcell b1 (hk.imp ofT_noMap) 3 rfl, hk⟩
  have hown1 := map_keeps hown (K1 (ofMap_cells _ _ _))
  obtain ⟨w2, hrun2, hown2, hturn2⟩ := (map_keeps hown1 (w' := (w1.alloc (.cells #[.string x, .int .i64 (s.pushed + 1), .bool false, .bool false] 79)).drew) ((Keeps.refl _ _).alloc _).drew).store (t := 73) law9 Try.underlying73 (show s.pushed < maxLen by unfold maxLen; omega) hkey (val := .pointer (some ⟨w1.heap.size, 0, none⟩)) (d := .lit (.int .i64 w1.heap.size)) (ps := []) rfl
  have K2 : Keeps w1 w2 NoMap := (((Keeps.refl _ _).alloc _).drew).turned hturn2 noMap_map
  have j2 : w2.heap[w1.heap.size]? = some (.cells #[.string x, .int .i64 (s.pushed + 1), .bool false, .bool false] 79 (0, 0)) := (((Keeps.refl _ _).turned hturn2 noMap_map).imp ofT_noMap) _ _ (heap_alloc_new w1 _) ⟨_, rfl⟩
  have hB := h.base.2.2
  have d2 : Below B w w2 := below_turned ((d1.alloc (Nat.le_trans hB d1.size) _).drew) hturn2 h.base.2.1
  go_region_held3 (fun w' => w'.cell? ⟨qb, 2, none⟩ = some (.map (some mb)) ∧ w'.cell? ⟨qb, 3, none⟩ = some (.int .i64 (s.pushed + 1)) ∧ Keeps w1 w' NoMap)
    (first | exact keep1 (Keeps.refl _ _) | exact keep1 ((Keeps.refl _ _).alloc _).drew | exact keep1 K2)
    (fail)
  have g1 : w2.cell? ⟨qb, 1, none⟩ = some (.slice p (lineL s.L).length cap) := qcell b1 (K2.imp ofT_noMap) 1 rfl
  have hline2 : w2.ownsRow B 9 1 (.slice p (lineL s.L).length cap) (lineL s.L).length ((lineL s.L).map Value.string) := line_keeps h.line ((K1 (ofT_ne (by decide) _)).trans (K2.imp ofT_noMap))
  obtain ⟨i0, hi, hz0, hz1, hz2⟩ := info_parts info9
  have hlen := h.lines
  have hsz : w.heap.size ≤ w2.heap.size := d2.size
  have b2 := cells_keeps b1 (K2.imp ofT_noMap)
  have hnew : ∀ (j : Nat) (u : Value), [Value.string id][j]? = some u → (w2.alloc (.cells #[.string id] 9)).cell? ((⟨w2.heap.size, 0, none⟩ : Addr).add j) = some u := cells_at_new w2 [.string id] 9 _ rfl
  go_wp2_with (first
    | (at_builtin; refine wpList_append_own _ rfl (.tmp 62) (.tmp 64) 33 rfl B 9 i0 (.string ⟨#[]⟩) 1 16 Try.underlying33 hi hz0 hz1 hz2 rfl (by decide) _ _ _ rfl (line_keeps hline2 ((Keeps.refl _ _).alloc _)) ⟨w2.heap.size, 0, none⟩ 1 1 [.string id] rfl rfl hnew (by intro u hu; simp at hu; subst hu; rfl) (by unfold maxLen; omega) (by omega) (by simp; omega) ?_; intro v' w3 hown3 hgrow3 _
       obtain ⟨p', cap', rfl⟩ := line_shape hown3
       have K3 : ∀ {q : Obj → Prop}, (∀ c, ¬ q (.cells c 9 (0, 0))) → Keeps w2 w3 q := fun hq => ((Keeps.refl _ _).alloc _).grown (line_keeps hline2 ((Keeps.refl _ _).alloc _)) hgrow3 hq
       have g3 := qcell b2 (K3 (ofT_ne (by decide))) 1 rfl
       have z3 := qfree b2 (K3 (ofT_ne (by decide))) 1))
  go_ret
  have K3 : ∀ {q : Obj → Prop}, (∀ c, ¬ q (.cells c 9 (0, 0))) → Keeps w2 w3 q := fun hq => ((Keeps.refl _ _).alloc _).grown (line_keeps hline2 ((Keeps.refl _ _).alloc _)) hgrow3 hq
  have b3 := cells_keeps b2 (K3 (ofT_ne (by decide)))
  have d3 : Below B w w3 := below_grown (d2.alloc (Nat.le_trans hB d2.size) _) (line_keeps hline2 ((Keeps.refl _ _).alloc _)) hgrow3 (by simp; omega)
  have d4 : Below B w (w3.setCell ⟨qb, 1, none⟩ (.slice p' ((lineL s.L).length + 1) cap')) := d3.setCell h.base.1 _
  have K4 : ∀ {q : Obj → Prop}, (¬ q (.cells #[.int .i64 s.most, .slice p (lineL s.L).length cap, .map (some mb), .int .i64 (s.pushed + 1), .bool s.closed] 75 (0, 0))) → Keeps w3 (w3.setCell ⟨qb, 1, none⟩ (.slice p' ((lineL s.L).length + 1) cap')) q := fun hq => (Keeps.refl _ _).setCell b3 hq _
  refine ⟨rfl, d4, _, w1.heap.size, h.push hid hn hf rfl (cells_set b3 _) (line_keeps hown3 (K4 (ofT_ne (by decide) _))) hD (map_keeps hown2 ((K3 (fun c => ofMap_cells _ _ _)).trans (K4 (ofMap_cells _ _ _)))) ?_ ?_ d1.size (Nat.le_trans hB d4.size)⟩
  · exact (K1 (ofT_ne (by decide) _)).trans ((K2.imp ofT_noMap).trans ((K3 (ofT_ne (by decide))).trans (K4 (ofT_ne (by decide) _))))
  · exact cells_keeps j2 ((K3 (ofT_ne (by decide))).trans (K4 (ofT_ne (by decide) _)))
set_option maxRecDepth 100000 in
theorem push_thereS {B : Nat} {w : World} {qb mb : Nat} {lv : Value} {s : QS} (h : Qs B w qb mb lv s) (id : ByteArray) (x : ByteArray) (hid : id.size ≤ maxLen) (hc : s.closed = false) (hn : hasL s.L id = true) :
    Calls Try.prog 25 #[.pointer (some ⟨qb, 0, none⟩), .string id, .string x] w fun e w' => e = .returned (.int .i64 6) ∧ w = w' := by
  obtain ⟨c0, c1, c2, c3, c4⟩ := h.cells
  obtain ⟨D, hown, hD⟩ := h.map
  have hhas := hD.has id
  rw [hn] at hhas
  have hkey : keyOf Try.prog 9 (.string id) = some (key id) := WideMaps.keyOf_string_mk Try.underlying9 hid
  rw [hc] at c4
  go_enter Try.func25, Try.ntmps25
  go_wp2_with (first
    | (go_at_call 35; refine (is_yesS h).mono ?_; rintro e w' ⟨rfl, hw⟩; subst hw)
    | (at_lookup; refine wpList_lookup_own_ok _ rfl _ _ 73 rfl 9 76 law9 Try.underlying73 ptrElem (zero76 _) .nil [] rfl mb s.pushed D rfl hown _ (key id) rfl hkey ?_; rw [hhas]; intro v ps hv))
  go_ret
  exact ⟨rfl, rfl⟩
set_option maxRecDepth 100000 in
theorem len_qS {B : Nat} {w : World} {qb mb : Nat} {lv : Value} {s : QS} (h : Qs B w qb mb lv s) :
    Calls Try.prog 27 #[.pointer (some ⟨qb, 0, none⟩)] w fun e w' => e = .returned (.int .i64 (lineL s.L).length) ∧ w = w' := by
  obtain ⟨c0, c1, c2, c3, c4⟩ := h.cells
  obtain ⟨p, cap, rfl⟩ := line_shape h.line
  go_enter Try.func27, Try.ntmps27
  go_wp2_with (first
    | (go_at_call 35; refine (is_yesS h).mono ?_; rintro e w' ⟨rfl, hw⟩; subst hw))
  go_ret
  exact ⟨rfl, rfl⟩
set_option maxRecDepth 100000 in
theorem pop_someS {B : Nat} {w : World} {qb mb : Nat} {lv : Value} {s : QS} (h : Qs B w qb mb lv s) {id : ByteArray} {rest : List ByteArray} (hl : lineL s.L = id :: rest) (j : J) (hj : j ∈ s.L) (he : j.id = id) (x : ByteArray) (hx : j.x = .string x) :
    Calls Try.prog 26 #[.pointer (some ⟨qb, 0, none⟩)] w fun e w' => e = .returned (.tuple #[.string id, .string x, .int .i64 0]) ∧ Below B w w' ∧ ∃ lv', Qs B w' qb mb lv' { s with L := turn s.L id fun j => { j with taken := true } } := by
  obtain ⟨c0, c1, c2, c3, c4⟩ := h.cells
  subst he
  have hline := h.line
  have hlines := h.lines
  have hfew := h.few
  rw [hl] at hline hlines
  obtain ⟨g, cap, rfl, hcap, hmax, hcells⟩ := line_head hline
  obtain ⟨D, hown, hD⟩ := h.map
  have hhas := hD.has j.id
  obtain ⟨b1, b2, b3⟩ := h.jobs j hj
  have hid := h.ids j hj
  have hB := h.base.2.2
  have hkey : keyOf Try.prog 9 (.string j.id) = some (key j.id) := WideMaps.keyOf_string_mk Try.underlying9 hid
  have e0 := hcells 0 _ rfl
  have hz : ((rest.length + 1 : Nat) : Int) = (rest.length : Int) + 1 := by omega
  obtain ⟨i0, hi, hz0, hz1, hz2⟩ := info_parts info9
  simp only [List.length_cons] at hlines
  have hns : (rest.map Value.string).length = rest.length * 1 := by simp
  have hcl : ∀ (j : Nat) (u : Value), (rest.map Value.string)[j]? = some u → w.cell? ⟨g, 1 + j, none⟩ = some u := fun j u hu => by rw [Nat.add_comm]; exact hcells (j + 1) u (by simpa using hu)
  have hone : ∀ u ∈ rest.map Value.string, u.oneCell' = true := by intro u hu; obtain ⟨a, _, rfl⟩ := List.mem_map.1 hu; rfl
  have hq : rest.length ≤ maxLen := by unfold maxLen; omega
  have hbig : rest.length * 16 ≤ 140737488355328 := by omega
  have clone : ∀ off c, (off = 1 ∨ rest.length = 0) → _ := fun off c ho => Try.slices_Clone i0 _ 1 16 hi hz0 hz1 hz2 rfl (by decide) (fun w => Try.sizeOf9 w) g off rest.length c (rest.map Value.string) w hns hq hbig (fun j u hu => by
    rcases ho with ho | ho
    · rw [ho]; exact hcl j u hu
    · rw [List.length_eq_zero_iff.1 ho] at hu; simp at hu) hone
  generalize hk : rest.length = k at *
  have hne : (((k : Int) + 1) == 0) = false := by simp; omega
  have hblk := h.blk
  have hbase := h.base
  have K1 : ∀ {w1 v' : _} (q : Obj → Prop), Below w.heap.size w w1 → (¬ q (.cells #[.int .i64 s.most, .slice (some ⟨g, 0, none⟩) (k + 1) cap, .map (some mb), .int .i64 s.pushed, .bool s.closed] 75 (0, 0))) → Keeps w (w1.setCell ⟨qb, 1, none⟩ v') q := fun q hb hq => ((Keeps.refl _ _).below hb).setCell (cells_keeps h.blk ((Keeps.refl _ _).below hb)) hq _
  have TAIL := fun (lv' : Value) (w' : World) h1 h2 hl h3 h4 h5 hz => h.turned (w' := w') (lv' := lv') (j := j) (f := fun j => { j with taken := true }) hj rfl (fun _ => rfl) (fun _ => rfl) (fun _ => rfl) h1 h2 hl h3 h4 h5 hz
  have hAp := h.apart
  have hjobs := h.jobs
  go_enter Try.func26, Try.ntmps26
  go_wp2_with (first
    | (go_at_call 35; refine (is_yesS h).mono ?_; rintro e w' ⟨rfl, hw⟩; subst hw))
  all_goals (
    refine (clone _ _ (by omega)).mono ?_
    rintro e w1 ⟨v', rfl, hown1, _, hw1⟩
    obtain ⟨p1, cap1, rfl⟩ := line_shape hown1
    have z1 := qfree hblk ((Keeps.refl _ _).below hw1) 1
    have q1 := qcell hblk ((Keeps.refl _ _).below hw1) 1 rfl
    have hm1 : (w1.setCell ⟨qb, 1, none⟩ (.slice p1 k cap1)).ownsMap Try.prog 9 ptrElem mb s.pushed D := map_keeps hown (K1 _ hw1 (ofMap_cells _ _ _))
    have jb := cells_keeps b1 (K1 (v' := .slice p1 k cap1) _ hw1 (ofT_ne (by decide) _))
    have q2 : (w1.setCell ⟨qb, 1, none⟩ (.slice p1 k cap1)).cell? ⟨qb, 2, none⟩ = some (.map (some mb)) := qcell (cells_set (cells_keeps hblk ((Keeps.refl _ _).below hw1)) (.slice p1 k cap1)) (Keeps.refl _ _) 2 rfl
    have z2 := qfree jb (Keeps.refl _ _) 2
    have j2 := qcell jb (Keeps.refl _ _) 2 rfl
    have j0 : ((w1.setCell ⟨qb, 1, none⟩ (.slice p1 k cap1)).setCell ⟨j.blk, 2, none⟩ (.bool true)).cell? ⟨j.blk, 0, none⟩ = some (.string x) := qcell (cells_set jb (.bool true)) (Keeps.refl _ _) 0 (by rw [hx]; rfl)
    obtain ⟨v, ps, hrun, hv⟩ := hm1.lookup (t := 73) law9 Try.underlying73 (zero76 _) (zd := .nil) (zp := []) rfl hkey
    obtain rfl := at_job hD hj hv)
  all_goals (
    go_wp2
    go_quiet (fail)
    go_wp2
    go_ret3
    have d1 : Below B w (w1.setCell ⟨qb, 1, none⟩ (.slice p1 k cap1)) := (hw1.mono hB).setCell hbase.1 _
    have d2 : Below B w (((w1.setCell ⟨qb, 1, none⟩ (.slice p1 k cap1)).setCell ⟨j.blk, 2, none⟩ (.bool true)).drewN nq) := (d1.setCell b3 _).trans (below_drewN _ _ _)
    have K2 : ∀ {q : Obj → Prop}, (∀ c, ¬ q (.cells c 79 (0, 0))) → Keeps (w1.setCell ⟨qb, 1, none⟩ (.slice p1 k cap1)) (((w1.setCell ⟨qb, 1, none⟩ (.slice p1 k cap1)).setCell ⟨j.blk, 2, none⟩ (.bool true)).drewN nq) q := fun hq => ((Keeps.refl _ _).setCell jb (hq _) _).drewN nq
    have hrest : lineL (turn s.L j.id fun j => { j with taken := true }) = rest := lineL_take hAp hl
    refine ⟨rfl, d2, .slice p1 k cap1, TAIL _ _ (cells_keeps (cells_set (cells_keeps hblk ((Keeps.refl _ _).below hw1)) _) (K2 (ofT_ne (by decide)))) ?_ (by rw [hrest, hl]; simp) ((K1 _ hw1 (ofMap_cells _ _ _)).trans (K2 (fun c => ofMap_cells _ _ _))) ?_ ?_ (Nat.le_trans hB d2.size)⟩
    · rw [hrest, hk]
      exact line_keeps (own_base hown1 hB) ((((Keeps.refl _ _).setCell (cells_keeps hblk ((Keeps.refl _ _).below hw1)) (ofT_ne (by decide) _) _)).trans (K2 (ofT_ne (by decide))))
    · intro i hi hne
      obtain ⟨i1, i2, i3⟩ := hjobs i hi
      have i4 := cells_keeps i1 (K1 (v' := .slice p1 k cap1) _ hw1 (ofT_ne (by decide) _))
      rw [i1, drewN_heap, heap_setCell_other _ _ _ _ (hAp.blk hi hj hne)]
      exact i4
    · rw [drewN_heap]
      exact cells_set jb _)
set_option maxRecDepth 100000 in
theorem new_qS (w : World) (k : Nat) (h1 : 1 ≤ k) (h2 : k ≤ 64) :
    Calls Try.prog 24 #[.int .i64 k] w fun e w' => ∃ qb mb, e = .returned (.pointer (some ⟨qb, 0, none⟩)) ∧ Below w.heap.size w w' ∧ Qs w.heap.size w' qb mb (.slice none 0 0) ⟨k, [], 0, false⟩ := by
  have e1 : decide ((k : Int) < 1) = false := by simp; omega
  have e2 : decide ((64 : Int) < (k : Int)) = false := by simp; omega
  have hm : (Instr.makeMap 73 none).run Try.prog w = .ok (.map (some w.heap.size)) (w.alloc (.map #[] 0)) := run_makeMap _ _
  go_enter Try.func24, Try.ntmps24
  go_wp2
  go_ret
  exact ⟨_, _, rfl, ((Below.refl _ _).alloc (Nat.le_refl _) _).alloc (by simp) _, new_is h2⟩
end Go.Proofs.Ytkejopmohnfpgaa
