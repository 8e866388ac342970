/- The walks of the queue's methods. -/
import Derived.Test.YtkejopmohnfpgaaParts2
import Derived.Test.YtkejopmohnfpgaaShelf
import Derived.Deep.QuietTactic
import Derived.BigQuiet
import Derived.StillTailTactics
import Derived.Deep.RegionHeld3
namespace Go.Proofs.Ytkejopmohnfpgaa
open Go.RowKit Go.Maps Go.Proofs

theorem law9 : Keyed Try.prog 9 := string_keyed Try.underlying9
theorem zero53 (w : World) : (zeroValue 53).run Try.prog w = .ok (.pointer none) w := by kernel_rfl
theorem info9 : (Try.prog.info? 9).map (fun i => (i.zero, i.size, i.bytes)) = some (some (.string ⟨#[]⟩), 1, 16) := by kernel_rfl
abbrev Qi := IsQ 52 56 Try.prog
@[go_sem] theorem neqMap50 (m : Option Nat) (w : World) : (binOp .neq 50 (.map m) (.map none)).run Try.prog w = .ok (.bool (!m.isNone)) w := run_neq_map_nil w 50 9 53 m Try.underlying50
set_option maxRecDepth 8000 in
theorem is_yes {B : Nat} {w : World} {qb mb : Nat} {lv : Value} {s : QS} (h : Qi B w qb mb lv s) :
    Calls Try.prog 22 #[.pointer (some ⟨qb, 0, none⟩)] w fun e w' => e = .returned (.bool true) ∧ w = w' := by
  obtain ⟨c0, c1, c2, c3, c4⟩ := h.cells
  go_enter Try.func22, Try.ntmps22
  go_wp2
  go_ret
  exact ⟨rfl, rfl⟩
theorem info_parts {t : TypeId} {z : Option Value} {n m : Nat} (h : (Try.prog.info? t).map (fun i => (i.zero, i.size, i.bytes)) = some (z, n, m)) : ∃ i, Try.prog.info? t = some i ∧ i.zero = z ∧ i.size = n ∧ i.bytes = m := by
  cases e : Try.prog.info? t with
  | none => rw [e] at h; cases h
  | some i =>
    rw [e] at h
    simp only [Option.map_some, Option.some.injEq, Prod.mk.injEq] at h
    exact ⟨i, rfl, h⟩
theorem cells_at_new (w : World) (C : List Value) (t : TypeId) (b : Nat) (hb : b = w.heap.size) : ∀ (j : Nat) (u : Value), C[j]? = some u → (w.alloc (.cells C.toArray t)).cell? ((⟨b, 0, none⟩ : Addr).add j) = some u := by
  subst hb
  intro j u h
  have e : (w.alloc (.cells C.toArray t)).cell? ⟨w.heap.size, j, none⟩ = C.toArray[j]? := World.cell?_alloc_mark w C.toArray t (0, 0) j
  rw [show (Addr.add ⟨w.heap.size, 0, none⟩ j) = ⟨w.heap.size, j, none⟩ by unfold Addr.add; split <;> simp_all, e]
  simpa using h
set_option maxRecDepth 100000 in
theorem push_new {B : Nat} {w : World} {qb mb : Nat} {lv : Value} {s : QS} (h : Qi B w qb mb lv s) (id : ByteArray) (x : Int) (hid : id.size ≤ maxLen)
    (hc : s.closed = false) (hn : hasL s.L id = false) (hr : (lineL s.L).length < s.most) (hf : s.pushed < 1000000) :
    Calls Try.prog 8 #[.pointer (some ⟨qb, 0, none⟩), .string id, .int .i64 x] w fun e w' => e = .returned (.int .i64 0) ∧ Below B w w' ∧ ∃ lv' b, Qi B w' qb mb lv' { s with L := s.L ++ [⟨id, .int .i64 x, s.pushed + 1, false, false, b⟩], pushed := s.pushed + 1 } := by
  obtain ⟨c0, c1, c2, c3, c4⟩ := h.cells
  have f3 := h.free 3
  obtain ⟨p, cap, rfl⟩ := line_shape h.line
  obtain ⟨D, hown, hD⟩ := h.map
  have hhas := hD.has id
  rw [hn] at hhas
  rw [hc] at c4
  have hkey : keyOf Try.prog 9 (.string id) = some (key id) := WideMaps.keyOf_string_mk Try.underlying9 hid
  have hlt : decide ((s.most : Int) ≤ ((lineL s.L).length : Int)) = false := by simp; omega
  have hw := Int.natCast_add s.pushed 1
  go_enter Try.func8, Try.ntmps8
  go_wp2_with (first
    | (go_at_call 22; refine (is_yes h).mono ?_; rintro e w' ⟨rfl, hw⟩; subst hw)
    | (at_lookup; refine wpList_lookup_own_ok _ rfl _ _ 50 rfl 9 53 law9 Try.underlying50 ptrElem (zero53 _) .nil [] rfl mb s.pushed D rfl hown _ (key id) rfl hkey ?_; rw [hhas]; intro v ps hv))
  go_quiet (fail)
  go_wp2
  have b0 : (w.drewN nq).heap[qb]? = some (.cells #[.int .i64 s.most, .slice p (lineL s.L).length cap, .map (some mb), .int .i64 s.pushed, .bool s.closed] 52 (0, 0)) := by rw [drewN_heap]; exact h.blk
  have K1 : ∀ {q : Obj → Prop}, (¬ q (.cells #[.int .i64 s.most, .slice p (lineL s.L).length cap, .map (some mb), .int .i64 s.pushed, .bool s.closed] 52 (0, 0))) → Keeps w ((w.drewN nq).setCell ⟨qb, 3, none⟩ (.int .i64 (s.pushed + 1))) q := fun hq => ((Keeps.refl _ _).drewN nq).setCell b0 hq _
  have b1 : ((w.drewN nq).setCell ⟨qb, 3, none⟩ (.int .i64 (s.pushed + 1))).heap[qb]? = some (.cells #[.int .i64 s.most, .slice p (lineL s.L).length cap, .map (some mb), .int .i64 (s.pushed + 1), .bool s.closed] 52 (0, 0)) := cells_set b0 _
  have d1 : Below B w ((w.drewN nq).setCell ⟨qb, 3, none⟩ (.int .i64 (s.pushed + 1))) := (below_drewN _ _ _).setCell h.base.1 _
  generalize ((w.drewN nq).setCell ⟨qb, 3, none⟩ (.int .i64 (s.pushed + 1))) = w1 at K1 b1 d1 ⊢
  have keep1 : ∀ {w' : World}, Keeps w1 w' NoMap → (w'.cell? ⟨qb, 2, none⟩ = some (.map (some mb)) ∧ w'.cell? ⟨qb, 3, none⟩ = some (.int .i64 (s.pushed + 1)) ∧ Keeps w1 w' NoMap) := fun hk => ⟨qcell b1 (hk.imp ofT_noMap) 2 rfl, qcell b1 (hk.imp ofT_noMap) 3 rfl, hk⟩
  have hown1 := map_keeps hown (K1 (ofMap_cells _ _ _))
  obtain ⟨w2, hrun2, hown2, hturn2⟩ := (map_keeps hown1 (w' := (w1.alloc (.cells #[.int .i64 x, .int .i64 (s.pushed + 1), .bool false, .bool false] 56)).drew) ((Keeps.refl _ _).alloc _).drew).store (t := 50) law9 Try.underlying50 (show s.pushed < maxLen by unfold maxLen; omega) hkey (val := .pointer (some ⟨w1.heap.size, 0, none⟩)) (d := .lit (.int .i64 w1.heap.size)) (ps := []) rfl
  have K2 : Keeps w1 w2 NoMap := (((Keeps.refl _ _).alloc _).drew).turned hturn2 noMap_map
  have j2 : w2.heap[w1.heap.size]? = some (.cells #[.int .i64 x, .int .i64 (s.pushed + 1), .bool false, .bool false] 56 (0, 0)) := (((Keeps.refl _ _).turned hturn2 noMap_map).imp ofT_noMap) _ _ (heap_alloc_new w1 _) ⟨_, rfl⟩
  have hB := h.base.2.2
  have d2 : Below B w w2 := below_turned ((d1.alloc (Nat.le_trans hB d1.size) _).drew) hturn2 h.base.2.1
  go_region_held3 (fun w' => w'.cell? ⟨qb, 2, none⟩ = some (.map (some mb)) ∧ w'.cell? ⟨qb, 3, none⟩ = some (.int .i64 (s.pushed + 1)) ∧ Keeps w1 w' NoMap)
    (first | exact keep1 (Keeps.refl _ _) | exact keep1 ((Keeps.refl _ _).alloc _).drew | exact keep1 K2)
    (fail)
  have g1 : w2.cell? ⟨qb, 1, none⟩ = some (.slice p (lineL s.L).length cap) := qcell b1 (K2.imp ofT_noMap) 1 rfl
  have hline2 : w2.ownsRow B 9 1 (.slice p (lineL s.L).length cap) (lineL s.L).length ((lineL s.L).map Value.string) := line_keeps h.line ((K1 (ofT_ne (by decide) _)).trans (K2.imp ofT_noMap))
  obtain ⟨i0, hi, hz0, hz1, hz2⟩ := info_parts info9
  have hlen := h.lines
  have hsz : w.heap.size ≤ w2.heap.size := d2.size
  have b2 := cells_keeps b1 (K2.imp ofT_noMap)
  have hnew : ∀ (j : Nat) (u : Value), [Value.string id][j]? = some u → (w2.alloc (.cells #[.string id] 9)).cell? ((⟨w2.heap.size, 0, none⟩ : Addr).add j) = some u := cells_at_new w2 [.string id] 9 _ rfl
  go_wp2_with (first
    | (at_builtin; refine wpList_append_own _ rfl (.tmp 62) (.tmp 64) 33 rfl B 9 i0 (.string ⟨#[]⟩) 1 16 Try.underlying33 hi hz0 hz1 hz2 rfl (by decide) _ _ _ rfl (line_keeps hline2 ((Keeps.refl _ _).alloc _)) ⟨w2.heap.size, 0, none⟩ 1 1 [.string id] rfl rfl hnew (by intro u hu; simp at hu; subst hu; rfl) (by unfold maxLen; omega) (by omega) (by simp; omega) ?_; intro v' w3 hown3 hgrow3 _
       obtain ⟨p', cap', rfl⟩ := line_shape hown3
       have K3 : ∀ {q : Obj → Prop}, (∀ c, ¬ q (.cells c 9 (0, 0))) → Keeps w2 w3 q := fun hq => ((Keeps.refl _ _).alloc _).grown (line_keeps hline2 ((Keeps.refl _ _).alloc _)) hgrow3 hq
       have g3 := qcell b2 (K3 (ofT_ne (by decide))) 1 rfl
       have z3 := qfree b2 (K3 (ofT_ne (by decide))) 1))
  go_ret
  have K3 : ∀ {q : Obj → Prop}, (∀ c, ¬ q (.cells c 9 (0, 0))) → Keeps w2 w3 q := fun hq => ((Keeps.refl _ _).alloc _).grown (line_keeps hline2 ((Keeps.refl _ _).alloc _)) hgrow3 hq
  have b3 := cells_keeps b2 (K3 (ofT_ne (by decide)))
  have d3 : Below B w w3 := below_grown (d2.alloc (Nat.le_trans hB d2.size) _) (line_keeps hline2 ((Keeps.refl _ _).alloc _)) hgrow3 (by simp; omega)
  have d4 : Below B w (w3.setCell ⟨qb, 1, none⟩ (.slice p' ((lineL s.L).length + 1) cap')) := d3.setCell h.base.1 _
  have K4 : ∀ {q : Obj → Prop}, (¬ q (.cells #[.int .i64 s.most, .slice p (lineL s.L).length cap, .map (some mb), .int .i64 (s.pushed + 1), .bool s.closed] 52 (0, 0))) → Keeps w3 (w3.setCell ⟨qb, 1, none⟩ (.slice p' ((lineL s.L).length + 1) cap')) q := fun hq => (Keeps.refl _ _).setCell b3 hq _
  refine ⟨rfl, d4, _, w1.heap.size, h.push hid hn hf rfl (cells_set b3 _) (line_keeps hown3 (K4 (ofT_ne (by decide) _))) hD (map_keeps hown2 ((K3 (fun c => ofMap_cells _ _ _)).trans (K4 (ofMap_cells _ _ _)))) ?_ ?_ d1.size (Nat.le_trans hB d4.size)⟩
  · exact (K1 (ofT_ne (by decide) _)).trans ((K2.imp ofT_noMap).trans ((K3 (ofT_ne (by decide))).trans (K4 (ofT_ne (by decide) _))))
  · exact cells_keeps j2 ((K3 (ofT_ne (by decide))).trans (K4 (ofT_ne (by decide) _)))
end Go.Proofs.Ytkejopmohnfpgaa
