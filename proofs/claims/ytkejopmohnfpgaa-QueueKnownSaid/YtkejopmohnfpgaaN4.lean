/- The reference's Push. -/
import Derived.Test.YtkejopmohnfpgaaN3
namespace Go.Proofs.Ytkejopmohnfpgaa
open Go.RowKit Go.Maps Go.Proofs

theorem info69 : (Try.prog.info? 69).map (fun i => (i.zero, i.size, i.bytes)) = some (some (.agg #[.string ⟨#[]⟩, .int .i64 0, .bool false, .bool false]), 4, 32) := by kernel_rfl
theorem keeps_grown {w0 w w' : World} {p : Obj → Prop} (h : Keeps w0 w p) {v : Value} {B e z n : Nat} {xs : List Value} (ho : w.ownsRow B e z v n xs) (hg : w.grownBy w' v.ownBlock) (hp : ∀ c, ¬ p (.cells c e (0, 0))) : Keeps w0 w' p := by
  intro k o ek hk
  have e1 := h k o ek hk
  rw [hg.block k (Array.getElem?_eq_some_iff.1 e1).1 ?_]
  · exact e1
  · intro hv
    rcases ho.2 with ⟨hn, _⟩ | ⟨g, cap, cur, rfl, _, hh, _⟩
    · rw [hn] at hv; simp [Value.ownBlock] at hv
    · have : g = k := by simpa [Value.ownBlock] using hv.symm
      subst this
      rw [hh] at e1
      cases e1
      exact hp _ hk
set_option maxRecDepth 100000 in
theorem pushR_closed {B : Nat} {w : World} {rb : Nat} {lv : Value} {s : QS} (h : IsR B w rb lv s) (id : ByteArray) (x : Int) (hc : s.closed = true) :
    Calls Try.prog 28 #[.pointer (some ⟨rb, 0, none⟩), .string id, .int .i64 x] w fun e w' => e = .returned (.int .i64 19) ∧ w = w' := by
  obtain ⟨c0, c1, c2⟩ := h.cells
  rw [hc] at c2
  go_enter Try.func28, Try.ntmps28
  go_wp2
  go_ret
  exact ⟨rfl, rfl⟩
set_option maxRecDepth 100000 in
theorem pushR_there {B : Nat} {w : World} {rb : Nat} {lv : Value} {s : QS} (h : IsR B w rb lv s) (hA : Apart s.L) {id : ByteArray} (x : Int) (hc : s.closed = false) (hn : hasL s.L id = true) :
    Calls Try.prog 28 #[.pointer (some ⟨rb, 0, none⟩), .string id, .int .i64 x] w fun e w' => e = .returned (.int .i64 6) ∧ w = w' := by
  obtain ⟨c0, c1, c2⟩ := h.cells
  rw [hc] at c2
  obtain ⟨j, hm, rfl⟩ := hasL_true hn
  obtain ⟨k, hk1, hk2⟩ := List.mem_iff_getElem.1 hm
  have hk : s.L[k]? = some j := by rw [List.getElem?_eq_getElem hk1, hk2]
  have ha := at_yes h hA hk
  have hge : decide ((0 : Int) ≤ (k : Int)) = true := by simp
  clear hk2 hn
  go_enter Try.func28, Try.ntmps28
  go_wp2_with (first | (go_at_call 36; refine ha.mono ?_; rintro e w' ⟨rfl, hw⟩; subst hw))
  go_ret
  exact ⟨rfl, rfl⟩
set_option maxRecDepth 100000 in
theorem pushR_full {B : Nat} {w : World} {rb : Nat} {lv : Value} {s : QS} (h : IsR B w rb lv s) {id : ByteArray} (x : Int) (hc : s.closed = false) (hn : hasL s.L id = false) (hf : (lineL s.L).length = s.most) :
    Calls Try.prog 28 #[.pointer (some ⟨rb, 0, none⟩), .string id, .int .i64 x] w fun e w' => e = .returned (.int .i64 7) ∧ ∃ nq, w' = w.drewN nq := by
  obtain ⟨c0, c1, c2⟩ := h.cells
  rw [hc] at c2
  have ha := at_no h hn
  have hfew := h.few
  have hlen : ∀ n, Calls Try.prog 17 #[.pointer (some ⟨rb, 0, none⟩)] (w.drewN n) fun e w' => e = .returned (.int .i64 s.most) ∧ w' = w.drewN n := fun n => by
    rw [← hf]
    exact lenR_any (h.kept ((Keeps.refl _ _).drewN n) (by rw [drewN_heap]; exact Nat.le_refl _))
  clear hn hf
  go_enter Try.func28, Try.ntmps28
  go_wp2_with (first | (go_at_call 36; refine ha.mono ?_; rintro e w' ⟨rfl, hw⟩; subst hw))
  go_quiet ((go_at_call 17; exact Calls.quiet_of_same (hlen _)))
  go_wp2
  go_ret
  exact ⟨rfl, _, rfl⟩
set_option maxRecDepth 100000 in
set_option maxHeartbeats 1000000 in
theorem pushR_new {B : Nat} {w : World} {rb : Nat} {lv : Value} {s : QS} (h : IsR B w rb lv s) {id : ByteArray} (x : Int) (hc : s.closed = false) (hn : hasL s.L id = false) (hf : (lineL s.L).length ≠ s.most) (hfew : s.L.length < 1000000) :
    Calls Try.prog 28 #[.pointer (some ⟨rb, 0, none⟩), .string id, .int .i64 x] w fun e w' => e = .returned (.int .i64 0) ∧ ∃ lv', (∀ n b p, IsR B w' rb lv' { s with L := s.L ++ [⟨id, .int .i64 x, n, false, false, b⟩], pushed := p }) ∧ Keeps w w' NotR ∧ Below B w w' := by
  obtain ⟨c0, c1, c2⟩ := h.cells
  rw [hc] at c2
  obtain ⟨i0, hi, hz0, hz1, hz2⟩ := info_parts info69
  have ha := at_no h hn
  obtain ⟨p, cap, hlv⟩ := row_shape h.row
  subst hlv
  have hlen : ∀ n, Calls Try.prog 17 #[.pointer (some ⟨rb, 0, none⟩)] (w.drewN n) fun e w' => e = .returned (.int .i64 (lineL s.L).length) ∧ w' = w.drewN n := fun n =>
    lenR_any (h.kept ((Keeps.refl _ _).drewN n) (by rw [drewN_heap]; exact Nat.le_refl _))
  have hne : (((lineL s.L).length : Int) == (s.most : Int)) = false := beq_eq_false_iff_ne.2 fun e => hf (by omega)
  clear hn hf
  go_enter Try.func28, Try.ntmps28
  go_wp2_with (first | (go_at_call 36; refine ha.mono ?_; rintro e w' ⟨rfl, hw⟩; subst hw))
  go_quiet ((go_at_call 17; exact Calls.quiet_of_same (hlen _)))
  obtain ⟨w1, hw1⟩ : ∃ w1, w.drewN nq = w1 := ⟨_, rfl⟩
  have h1 : IsR B w1 rb (.slice p s.L.length cap) s := by rw [← hw1]; exact h.kept ((Keeps.refl _ _).drewN _) (by rw [drewN_heap]; exact Nat.le_refl _)
  have K1 : Keeps w w1 NotR := by rw [← hw1]; exact (Keeps.refl _ _).drewN _
  have B1 : Below B w w1 := by rw [← hw1]; exact below_drewN _ _ _
  rw [hw1]
  clear hw1
  obtain ⟨d0, d1, d2⟩ := h1.cells
  have hB := h1.base
  have hnew : ∀ (q : Nat) (u : Value), [Value.string id, .int .i64 x, .bool false, .bool false][q]? = some u → (w1.alloc (.cells #[.string id, .int .i64 x, .bool false, .bool false] 69)).cell? ((⟨w1.heap.size, 0, none⟩ : Addr).add q) = some u := cells_at_new w1 [.string id, .int .i64 x, .bool false, .bool false] 69 _ rfl
  go_wp2_with (first
    | (at_builtin; refine wpList_append_own _ rfl (.tmp 26) (.tmp 30) 41 rfl B 69 i0 _ 4 32 Try.underlying41 hi hz0 hz1 hz2 rfl (by decide) _ _ _ rfl (h1.row.alloc _) ⟨w1.heap.size, 0, none⟩ 1 1 [.string id, .int .i64 x, .bool false, .bool false] rfl rfl hnew (by intro u hu; simp at hu; rcases hu with rfl | rfl | rfl <;> rfl) (by unfold maxLen; omega) (by omega) (by simp; omega) ?_; intro v' w3 hown' hg3 hnil3
       obtain ⟨p', cap', rfl⟩ := row_shape hown'
       have b3 := ((Keeps.refl w1 (OfT 43)).alloc _ |> fun k => keeps_grown k (h1.row.alloc _) hg3 (ofT_ne (by decide))) _ _ h1.blk ⟨_, rfl⟩
       have g3 := qcell b3 (Keeps.refl w3 _) 1 rfl
       have z3 := qfree b3 (Keeps.refl w3 _) 1))
  go_ret
  have b3 := (keeps_grown ((Keeps.refl w1 (OfT 43)).alloc _) (h1.row.alloc _) hg3 (ofT_ne (by decide))) _ _ h1.blk ⟨_, rfl⟩
  have K3 : Keeps w1 w3 NotR := keeps_grown ((Keeps.refl w1 NotR).alloc _) (h1.row.alloc _) hg3 notR_row
  have B3 : Below B w w3 := (B1.alloc hB.2 _).grown hg3 (by simp; omega) (fun q hq => (h1.row.lt q hq).1)
  have hz := hg3.size
  refine ⟨rfl, .slice p' (s.L.length + 1) cap', fun n b q => ⟨cells_set b3 _, ?_, ⟨hB.1, ?_⟩, ?_⟩, (K1.trans K3).trans ((Keeps.refl _ _).setCell b3 (notR_blk _) _), B3.setCell hB.1 _⟩
  · have := row_keeps hown' ((Keeps.refl w3 (OfT 69)).setCell b3 (ofT_ne (by decide) _) (i := 1) (.slice p' (s.L.length + 1) cap'))
    simpa [rowCells, jobCells] using this
  · rw [World.size_setCell]
    simp at hz
    omega
  · simp
    omega
end Go.Proofs.Ytkejopmohnfpgaa
