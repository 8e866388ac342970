/- The law's own call of both queues. -/
import Derived.Test.YtkejopmohnfpgaaN6
import Derived.Deep.RegionHeld3
namespace Go.Proofs.Ytkejopmohnfpgaa
open Go.RowKit Go.Maps Go.Proofs

/-- both queues in memory, of one state -/
structure Both (B : Nat) (w : World) (qb mb rb : Nat) (lv lr : Value) (s : QS) : Prop where
  q : Qi B w qb mb lv s
  r : IsR B w rb lr s
  good : Good s
/-- the act's own box -/
def Box (w : World) (n : Nat) (what : Int) (id : ByteArray) (x : Int) : Prop := w.heap[n]? = some (.cells #[.int .i64 what, .string id, .int .i64 x] 47 (0, 0))
theorem Box.c0 {w : World} {n : Nat} {what : Int} {id : ByteArray} {x : Int} (h : Box w n what id x) : w.cell? ⟨n, 0, none⟩ = some (.int .i64 what) := qcell h (Keeps.refl _ _) 0 rfl
theorem Box.c1 {w : World} {n : Nat} {what : Int} {id : ByteArray} {x : Int} (h : Box w n what id x) : w.cell? ⟨n, 1, none⟩ = some (.string id) := qcell h (Keeps.refl _ _) 1 rfl
theorem Box.c2 {w : World} {n : Nat} {what : Int} {id : ByteArray} {x : Int} (h : Box w n what id x) : w.cell? ⟨n, 2, none⟩ = some (.int .i64 x) := qcell h (Keeps.refl _ _) 2 rfl
theorem Box.free {w : World} {n : Nat} {what : Int} {id : ByteArray} {x : Int} (h : Box w n what id x) (i : Nat) : w.frozen? ⟨n, i, none⟩ = false := qfree h (Keeps.refl _ _) i
theorem Box.keep {w w' : World} {n : Nat} {what : Int} {id : ByteArray} {x : Int} (h : Box w n what id x) (hk : Keeps w w' (OfT 47)) : Box w' n what id x := cells_keeps h hk
def One (B : Nat) (W : World) (qb mb rb : Nat) (s : QS) (e : Ending) (w' : World) : Prop :=
  ∃ (last' : ByteArray) (lv lr : Value) (s' : QS), e = .returned (.tuple #[.bool true, .string last']) ∧ Below B W w' ∧ Both B w' qb mb rb lv lr s' ∧ last'.size ≤ maxLen ∧ s'.pushed ≤ s.pushed + 1
set_option maxRecDepth 100000 in
set_option maxHeartbeats 1000000 in
theorem one_push {B : Nat} {w : World} {qb mb rb : Nat} {lv lr : Value} {s : QS} (h : Both B w qb mb rb lv lr s) (what : Int) (id last : ByteArray) (x : Int) (hid : id.size ≤ maxLen) (hla : last.size ≤ maxLen) (hf : s.pushed < 1000000) (hm : (what.tmod 6 == 0) = true) :
    Calls Try.prog 16 #[.pointer (some ⟨qb, 0, none⟩), .pointer (some ⟨rb, 0, none⟩), .agg #[.int .i64 what, .string id, .int .i64 x], .string last] w (One B w qb mb rb s) := by
  obtain ⟨w0, hw0⟩ : ∃ w0, w.alloc (.cells #[.int .i64 what, .string id, .int .i64 x] 47) = w0 := ⟨_, rfl⟩
  have d0 : Below w.heap.size w w0 := by rw [← hw0]; exact (Below.refl _ w).alloc (Nat.le_refl _) _
  have b0 : Box w0 w.heap.size what id x := by rw [← hw0]; exact Array.getElem?_push_size
  have hB := h.q.base.2.2
  have hA := h.q.apart
  have hG := h.good
  have HQ := (h.q.below d0).drewN 1
  have HR := (h.r.below d0).kept ((Keeps.refl _ _).drewN 1) (by rw [drewN_heap]; exact Nat.le_refl _)
  have bx : Box (w0.drewN 1) w.heap.size what id x := b0.keep ((Keeps.refl _ _).drewN 1)
  have e0 := b0.c0
  have f1 := bx.c1
  have f2 := bx.c2
  have hc := push_cQ HQ HR id x hid hf
  obtain ⟨E, hE⟩ : ∃ E, pushE s id = E := ⟨_, rfl⟩
  have hcR : ∀ {w1 : World} {lv1 : Value} {b : Nat}, Qi B w1 qb mb lv1 (pushS s id x b) → IsR B w1 rb lr s → Calls Try.prog 28 #[.pointer (some ⟨rb, 0, none⟩), .string id, .int .i64 x] w1 _ := fun {w1 lv1 b} hq hr => push_cR hq hr hA hG id x b hf
  rw [hE] at hc
  simp only [hE] at hcR
  clear h HQ HR
  go_enter Try.func16, Try.ntmps16
  go_wp2
  go_region_held3 (fun v => v.cell? ⟨w.heap.size, 1, none⟩ = some (.string id) ∧ v.cell? ⟨w.heap.size, 2, none⟩ = some (.int .i64 x)) (first | exact ⟨f1, f2⟩ | exact ⟨bx1.c1, bx1.c2⟩ | exact ⟨bx2.c1, bx2.c2⟩)
    (first
      | (go_at_call 8; refine hc.mono ?_; rintro e w1 ⟨rfl, d1, K1, lv1, b, HQ1, HR1⟩; have bx1 := bx.keep K1)
      | (go_at_call 28; refine (hcR HQ1 HR1).mono ?_; rintro e w2 ⟨rfl, d2, K2, lr2, HQ2, HR2⟩; have bx2 := bx1.keep K2))
  go_wp2
  go_ret2
  exact ⟨last, lv1, lr2, pushS s id x b, by simp, ((d0.mono hB).drew.trans d1).trans d2, ⟨HQ2, HR2, hG.push id x b⟩, hla, (pushS_few s id x b).1⟩
set_option maxRecDepth 100000 in
set_option maxHeartbeats 1000000 in
theorem one_pop_open {B : Nat} {w : World} {qb mb rb : Nat} {lv lr : Value} {s : QS} (h : Both B w qb mb rb lv lr s) (what : Int) (id last : ByteArray) (x : Int) (hid : id.size ≤ maxLen) (hla : last.size ≤ maxLen) (hm : what.tmod 6 = 1) (hl : lineL s.L = []) (hc : s.closed = false) :
    Calls Try.prog 16 #[.pointer (some ⟨qb, 0, none⟩), .pointer (some ⟨rb, 0, none⟩), .agg #[.int .i64 what, .string id, .int .i64 x], .string last] w (One B w qb mb rb s) := by
  obtain ⟨w0, hw0⟩ : ∃ w0, w.alloc (.cells #[.int .i64 what, .string id, .int .i64 x] 47) = w0 := ⟨_, rfl⟩
  have d0 : Below w.heap.size w w0 := by rw [← hw0]; exact (Below.refl _ w).alloc (Nat.le_refl _) _
  have b0 : Box w0 w.heap.size what id x := by rw [← hw0]; exact Array.getElem?_push_size
  have hB := h.q.base.2.2
  have hA := h.q.apart
  have hG := h.good
  have HQ := h.q.below d0
  have HR := h.r.below d0
  have e0 := b0.c0
  have hq : Calls Try.prog 10 #[.pointer (some ⟨qb, 0, none⟩)] w0 fun e w' => e = .returned (.tuple #[.string ⟨#[]⟩, .int .i64 0, .int .i64 5]) ∧ w0 = w' := by
    have := pop_none HQ hl
    rw [hc] at this
    exact this
  have hr : Calls Try.prog 29 #[.pointer (some ⟨rb, 0, none⟩)] w0 fun e w' => e = .returned (.tuple #[.string ⟨#[]⟩, .int .i64 0, .int .i64 5]) ∧ w0 = w' := by
    have := popR_none HR hl
    rw [hc] at this
    exact this
  clear h hc hl
  go_enter Try.func16, Try.ntmps16
  go_wp2_with (first
    | (go_at_call 10; refine hq.mono ?_; rintro e w1 ⟨rfl, hw⟩; subst hw)
    | (go_at_call 29; refine hr.mono ?_; rintro e w1 ⟨rfl, hw⟩; subst hw))
  go_ret2
  exact ⟨last, lv, lr, s, by simp, d0.mono hB, ⟨HQ, HR, hG⟩, hla, Nat.le_succ _⟩
set_option maxRecDepth 100000 in
set_option maxHeartbeats 1000000 in
theorem one_pop_shut {B : Nat} {w : World} {qb mb rb : Nat} {lv lr : Value} {s : QS} (h : Both B w qb mb rb lv lr s) (what : Int) (id last : ByteArray) (x : Int) (hid : id.size ≤ maxLen) (hla : last.size ≤ maxLen) (hm : what.tmod 6 = 1) (hl : lineL s.L = []) (hc : s.closed = true) :
    Calls Try.prog 16 #[.pointer (some ⟨qb, 0, none⟩), .pointer (some ⟨rb, 0, none⟩), .agg #[.int .i64 what, .string id, .int .i64 x], .string last] w (One B w qb mb rb s) := by
  obtain ⟨w0, hw0⟩ : ∃ w0, w.alloc (.cells #[.int .i64 what, .string id, .int .i64 x] 47) = w0 := ⟨_, rfl⟩
  have d0 : Below w.heap.size w w0 := by rw [← hw0]; exact (Below.refl _ w).alloc (Nat.le_refl _) _
  have b0 : Box w0 w.heap.size what id x := by rw [← hw0]; exact Array.getElem?_push_size
  have hB := h.q.base.2.2
  have hA := h.q.apart
  have hG := h.good
  have HQ := h.q.below d0
  have HR := h.r.below d0
  have e0 := b0.c0
  have hq : Calls Try.prog 10 #[.pointer (some ⟨qb, 0, none⟩)] w0 fun e w' => e = .returned (.tuple #[.string ⟨#[]⟩, .int .i64 0, .int .i64 19]) ∧ w0 = w' := by
    have := pop_none HQ hl
    rw [hc] at this
    exact this
  have hr : Calls Try.prog 29 #[.pointer (some ⟨rb, 0, none⟩)] w0 fun e w' => e = .returned (.tuple #[.string ⟨#[]⟩, .int .i64 0, .int .i64 19]) ∧ w0 = w' := by
    have := popR_none HR hl
    rw [hc] at this
    exact this
  clear h hc hl
  go_enter Try.func16, Try.ntmps16
  go_wp2_with (first
    | (go_at_call 10; refine hq.mono ?_; rintro e w1 ⟨rfl, hw⟩; subst hw)
    | (go_at_call 29; refine hr.mono ?_; rintro e w1 ⟨rfl, hw⟩; subst hw))
  go_ret2
  exact ⟨last, lv, lr, s, by simp, d0.mono hB, ⟨HQ, HR, hG⟩, hla, Nat.le_succ _⟩
set_option maxRecDepth 100000 in
set_option maxHeartbeats 1000000 in
theorem one_pop {B : Nat} {w : World} {qb mb rb : Nat} {lv lr : Value} {s : QS} (h : Both B w qb mb rb lv lr s) (what : Int) (id last : ByteArray) (x : Int) (hid : id.size ≤ maxLen) (hla : last.size ≤ maxLen) (hm : what.tmod 6 = 1) {hd : ByteArray} {rest : List ByteArray} (hl : lineL s.L = hd :: rest) :
    Calls Try.prog 16 #[.pointer (some ⟨qb, 0, none⟩), .pointer (some ⟨rb, 0, none⟩), .agg #[.int .i64 what, .string id, .int .i64 x], .string last] w (One B w qb mb rb s) := by
  obtain ⟨w0, hw0⟩ : ∃ w0, w.alloc (.cells #[.int .i64 what, .string id, .int .i64 x] 47) = w0 := ⟨_, rfl⟩
  have d0 : Below w.heap.size w w0 := by rw [← hw0]; exact (Below.refl _ w).alloc (Nat.le_refl _) _
  have b0 : Box w0 w.heap.size what id x := by rw [← hw0]; exact Array.getElem?_push_size
  have hB := h.q.base.2.2
  have hA := h.q.apart
  have hG := h.good
  have HQ := h.q.below d0
  have HR := h.r.below d0
  have e0 := b0.c0
  obtain ⟨j, hj, he, ht⟩ := lineL_mem hl
  obtain ⟨y, hy⟩ := hG.ints j hj
  have hsz : hd.size ≤ maxLen := by rw [← he]; exact h.q.ids j hj
  have hq := pop_cQ HQ HR hl j hj he y hy
  have hr : ∀ {w1 : World} {lv1 : Value}, Qi B w1 qb mb lv1 (takeS s hd) → IsR B w1 rb lr s → Calls Try.prog 29 #[.pointer (some ⟨rb, 0, none⟩)] w1 _ := fun {w1 lv1} h1 h2 => pop_cR h1 h2 hA hl j hj he y hy
  have hT := hG.take hA hl
  clear h hl he ht hy
  go_enter Try.func16, Try.ntmps16
  go_wp2_with (first
    | (go_at_call 10; refine hq.mono ?_; rintro e w1 ⟨rfl, d1, K1, lv1, HQ1, HR1⟩)
    | (go_at_call 29; refine (hr HQ1 HR1).mono ?_; rintro e w2 ⟨rfl, d2, K2, HQ2, HR2⟩))
  go_ret2
  exact ⟨hd, lv1, lr, takeS s hd, by simp, ((d0.mono hB).trans d1).trans d2, ⟨HQ2, HR2, hT⟩, hsz, Nat.le_succ _⟩
set_option maxRecDepth 100000 in
set_option maxHeartbeats 1000000 in
theorem one_cancel {B : Nat} {w : World} {qb mb rb : Nat} {lv lr : Value} {s : QS} (h : Both B w qb mb rb lv lr s) (what : Int) (id last : ByteArray) (x : Int) (hid : id.size ≤ maxLen) (hla : last.size ≤ maxLen) (hm : what.tmod 6 = 2) :
    Calls Try.prog 16 #[.pointer (some ⟨qb, 0, none⟩), .pointer (some ⟨rb, 0, none⟩), .agg #[.int .i64 what, .string id, .int .i64 x], .string last] w (One B w qb mb rb s) := by
  obtain ⟨w0, hw0⟩ : ∃ w0, w.alloc (.cells #[.int .i64 what, .string id, .int .i64 x] 47) = w0 := ⟨_, rfl⟩
  have d0 : Below w.heap.size w w0 := by rw [← hw0]; exact (Below.refl _ w).alloc (Nat.le_refl _) _
  have b0 : Box w0 w.heap.size what id x := by rw [← hw0]; exact Array.getElem?_push_size
  have hB := h.q.base.2.2
  have hA := h.q.apart
  have hG := h.good
  have HQ := (h.q.below d0).drewN 1
  have HR := (h.r.below d0).kept ((Keeps.refl _ _).drewN 1) (by rw [drewN_heap]; exact Nat.le_refl _)
  have bx : Box (w0.drewN 1) w.heap.size what id x := b0.keep ((Keeps.refl _ _).drewN 1)
  have e0 := b0.c0
  have f1 := bx.c1
  have hc := cancel_cQ HQ HR id hid
  obtain ⟨E, hE⟩ : ∃ E, hasL s.L id = E := ⟨_, rfl⟩
  have hcR : ∀ {w1 : World} {lv1 : Value}, Qi B w1 qb mb lv1 (markS s id) → IsR B w1 rb lr s → Calls Try.prog 30 #[.pointer (some ⟨rb, 0, none⟩), .string id] w1 _ := fun {w1 lv1} hq hr => cancel_cR hq hr hA id
  rw [hE] at hc
  simp only [hE] at hcR
  clear h HQ HR
  go_enter Try.func16, Try.ntmps16
  go_wp2
  go_region_held3 (fun v => v.cell? ⟨w.heap.size, 1, none⟩ = some (.string id)) (first | exact f1 | exact bx1.c1 | exact bx2.c1)
    (first
      | (go_at_call 9; refine hc.mono ?_; rintro e w1 ⟨rfl, d1, K1, HQ1, HR1⟩; have bx1 := bx.keep K1)
      | (go_at_call 30; refine (hcR HQ1 HR1).mono ?_; rintro e w2 ⟨rfl, d2, K2, HQ2, HR2⟩; have bx2 := bx1.keep K2))
  go_wp2
  go_ret2
  exact ⟨last, lv, lr, markS s id, by simp, ((d0.mono hB).drew.trans d1).trans d2, ⟨HQ2, HR2, hG.mark id⟩, hla, Nat.le_succ _⟩
theorem IsR.shut {B : Nat} {w : World} {rb : Nat} {lr : Value} {s : QS} (h : IsR B w rb lr s) :
    IsR B (w.setCell ⟨rb, 2, none⟩ (.bool true)) rb lr { s with closed := true } ∧ Keeps w (w.setCell ⟨rb, 2, none⟩ (.bool true)) NotR ∧ Below B w (w.setCell ⟨rb, 2, none⟩ (.bool true)) :=
  ⟨⟨cells_set h.blk _, row_keeps h.row ((Keeps.refl _ _).setCell h.blk (ofT_ne (by decide) _) _), ⟨h.base.1, by rw [World.size_setCell]; exact h.base.2⟩, h.few⟩, (Keeps.refl _ _).setCell h.blk (notR_blk _) _, (Below.refl _ _).setCell h.base.1 _⟩
theorem Good.shut {s : QS} (h : Good s) : Good { s with closed := true } := ⟨h.ints, h.rise, h.nums, h.cnt, h.room⟩
set_option maxRecDepth 100000 in
set_option maxHeartbeats 1000000 in
theorem one_close {B : Nat} {w : World} {qb mb rb : Nat} {lv lr : Value} {s : QS} (h : Both B w qb mb rb lv lr s) (what : Int) (id last : ByteArray) (x : Int) (hid : id.size ≤ maxLen) (hla : last.size ≤ maxLen) (hm : what.tmod 6 = 4) :
    Calls Try.prog 16 #[.pointer (some ⟨qb, 0, none⟩), .pointer (some ⟨rb, 0, none⟩), .agg #[.int .i64 what, .string id, .int .i64 x], .string last] w (One B w qb mb rb s) := by
  obtain ⟨w0, hw0⟩ : ∃ w0, w.alloc (.cells #[.int .i64 what, .string id, .int .i64 x] 47) = w0 := ⟨_, rfl⟩
  have d0 : Below w.heap.size w w0 := by rw [← hw0]; exact (Below.refl _ w).alloc (Nat.le_refl _) _
  have b0 : Box w0 w.heap.size what id x := by rw [← hw0]; exact Array.getElem?_push_size
  have hB := h.q.base.2.2
  have hA := h.q.apart
  have hG := h.good
  have HQ := h.q.below d0
  have HR := h.r.below d0
  have e0 := b0.c0
  have z2 := HR.free 2
  obtain ⟨c0, c1, c2⟩ := HR.cells
  obtain ⟨S1, S2, S3⟩ := HR.shut
  have hq := close_cQ (HQ.keptR S2 S3.size) S1
  clear h c0 c1
  go_enter Try.func16, Try.ntmps16
  go_wp2_with (first
    | (go_at_call 14; refine hq.mono ?_; rintro e w1 ⟨rfl, d1, K1, HQ1, HR1⟩))
  go_ret2
  exact ⟨last, lv, lr, { s with closed := true }, by simp, ((d0.mono hB).trans S3).trans d1, ⟨HQ1, HR1, hG.shut⟩, hla, Nat.le_succ _⟩
set_option maxRecDepth 100000 in
set_option maxHeartbeats 1000000 in
theorem one_done {B : Nat} {w : World} {qb mb rb : Nat} {lv lr : Value} {s : QS} (h : Both B w qb mb rb lv lr s) (what : Int) (id last : ByteArray) (x : Int) (hid : id.size ≤ maxLen) (hla : last.size ≤ maxLen) (h0 : (what.tmod 6 == 0) = false) (h1 : (what.tmod 6 == 1) = false) (h2 : (what.tmod 6 == 2) = false) (h4 : (what.tmod 6 == 4) = false) (h5 : (what.tmod 6 == 5) = false) :
    Calls Try.prog 16 #[.pointer (some ⟨qb, 0, none⟩), .pointer (some ⟨rb, 0, none⟩), .agg #[.int .i64 what, .string id, .int .i64 x], .string last] w (One B w qb mb rb s) := by
  obtain ⟨w0, hw0⟩ : ∃ w0, w.alloc (.cells #[.int .i64 what, .string id, .int .i64 x] 47) = w0 := ⟨_, rfl⟩
  have d0 : Below w.heap.size w w0 := by rw [← hw0]; exact (Below.refl _ w).alloc (Nat.le_refl _) _
  have b0 : Box w0 w.heap.size what id x := by rw [← hw0]; exact Array.getElem?_push_size
  have hB := h.q.base.2.2
  have hA := h.q.apart
  have hG := h.good
  have HQ := h.q.below d0
  have HR := h.r.below d0
  have e0 := b0.c0
  have bx : Box w0 w.heap.size what id x := b0
  have e1 := bx.c1
  have hc := done_cQ HQ HR id hid
  obtain ⟨M, hM⟩ : ∃ M, doneM s.L id = M := ⟨_, rfl⟩
  obtain ⟨E, hE⟩ : ∃ E, doneE s.L id = E := ⟨_, rfl⟩
  have hcR : ∀ {w1 : World} {lv1 : Value}, Qi B w1 qb mb lv1 (doneS s id) → IsR B w1 rb lr s → Calls Try.prog 31 #[.pointer (some ⟨rb, 0, none⟩), .string id] w1 _ := fun {w1 lv1} hq hr => done_cR hq hr hA hG id
  rw [hM, hE] at hc
  simp only [hM, hE] at hcR
  clear h hM hE
  go_enter Try.func16, Try.ntmps16
  go_wp2_with (first
    | (go_at_call 11; refine hc.mono ?_; rintro e w1 ⟨rfl, d1, K1, HQ1, HR1⟩; have bx1 := bx.keep K1; have f1 := bx1.c1)
    | (go_at_call 31; refine (hcR HQ1 HR1).mono ?_; rintro e w2 ⟨rfl, d2, K2, lr2, HQ2, HR2⟩))
  go_ret2
  exact ⟨last, lv, lr2, doneS s id, by simp, ((d0.mono hB).trans d1).trans d2, ⟨HQ2, HR2, hG.done id⟩, hla, Nat.le_succ _⟩
set_option maxRecDepth 100000 in
set_option maxHeartbeats 1000000 in
theorem one_last {B : Nat} {w : World} {qb mb rb : Nat} {lv lr : Value} {s : QS} (h : Both B w qb mb rb lv lr s) (what : Int) (id last : ByteArray) (x : Int) (hid : id.size ≤ maxLen) (hla : last.size ≤ maxLen) (hm : what.tmod 6 = 5) :
    Calls Try.prog 16 #[.pointer (some ⟨qb, 0, none⟩), .pointer (some ⟨rb, 0, none⟩), .agg #[.int .i64 what, .string id, .int .i64 x], .string last] w (One B w qb mb rb s) := by
  obtain ⟨w0, hw0⟩ : ∃ w0, w.alloc (.cells #[.int .i64 what, .string id, .int .i64 x] 47) = w0 := ⟨_, rfl⟩
  have d0 : Below w.heap.size w w0 := by rw [← hw0]; exact (Below.refl _ w).alloc (Nat.le_refl _) _
  have b0 : Box w0 w.heap.size what id x := by rw [← hw0]; exact Array.getElem?_push_size
  have hB := h.q.base.2.2
  have hA := h.q.apart
  have hG := h.good
  have e0 := b0.c0
  have z0 := b0.free 1
  have z1 := b0.c1
  have hlt : w.heap.size < w0.heap.size := (Array.getElem?_eq_some_iff.1 b0).1
  obtain ⟨w1, hw1⟩ : ∃ w1, w0.setCell ⟨w.heap.size, 1, none⟩ (.string last) = w1 := ⟨_, rfl⟩
  have d1 : Below w.heap.size w w1 := by rw [← hw1]; exact d0.setCell (Nat.le_refl _) _
  have HQ := h.q.below d1
  have HR := h.r.below d1
  have bx : Box w1 w.heap.size what last x := by rw [← hw1]; exact cells_set b0 _
  have e1 := bx.c1
  have hc := done_cQ HQ HR last hla
  obtain ⟨M, hM⟩ : ∃ M, doneM s.L last = M := ⟨_, rfl⟩
  obtain ⟨E, hE⟩ : ∃ E, doneE s.L last = E := ⟨_, rfl⟩
  have hcR : ∀ {w1 : World} {lv1 : Value}, Qi B w1 qb mb lv1 (doneS s last) → IsR B w1 rb lr s → Calls Try.prog 31 #[.pointer (some ⟨rb, 0, none⟩), .string last] w1 _ := fun {w1 lv1} hq hr => done_cR hq hr hA hG last
  rw [hM, hE] at hc
  simp only [hM, hE] at hcR
  clear h hM hE
  go_enter Try.func16, Try.ntmps16
  go_wp2_with (first
    | (go_at_call 11; refine hc.mono ?_; rintro e w2 ⟨rfl, d2, K1, HQ1, HR1⟩; have bx1 := bx.keep K1; have f1 := bx1.c1)
    | (go_at_call 31; refine (hcR HQ1 HR1).mono ?_; rintro e w3 ⟨rfl, d3, K2, lr2, HQ2, HR2⟩))
  go_ret2
  exact ⟨last, lv, lr2, doneS s last, by simp, ((d1.mono hB).trans d2).trans d3, ⟨HQ2, HR2, hG.done last⟩, hla, Nat.le_succ _⟩
theorem one_any {B : Nat} {w : World} {qb mb rb : Nat} {lv lr : Value} {s : QS} (h : Both B w qb mb rb lv lr s) (what : Int) (id last : ByteArray) (x : Int) (hid : id.size ≤ maxLen) (hla : last.size ≤ maxLen) (hf : s.pushed < 1000000) :
    Calls Try.prog 16 #[.pointer (some ⟨qb, 0, none⟩), .pointer (some ⟨rb, 0, none⟩), .agg #[.int .i64 what, .string id, .int .i64 x], .string last] w (One B w qb mb rb s) := by
  by_cases m0 : what.tmod 6 = 0
  · exact one_push h what id last x hid hla hf (by simp [m0])
  by_cases m1 : what.tmod 6 = 1
  · cases hl : lineL s.L with
    | nil =>
      cases hc : s.closed
      · exact one_pop_open h what id last x hid hla m1 hl hc
      · exact one_pop_shut h what id last x hid hla m1 hl hc
    | cons hd rest => exact one_pop h what id last x hid hla m1 hl
  by_cases m2 : what.tmod 6 = 2
  · exact one_cancel h what id last x hid hla m2
  by_cases m4 : what.tmod 6 = 4
  · exact one_close h what id last x hid hla m4
  by_cases m5 : what.tmod 6 = 5
  · exact one_last h what id last x hid hla m5
  · exact one_done h what id last x hid hla (beq_eq_false_iff_ne.2 m0) (beq_eq_false_iff_ne.2 m1) (beq_eq_false_iff_ne.2 m2) (beq_eq_false_iff_ne.2 m4) (beq_eq_false_iff_ne.2 m5)
end Go.Proofs.Ytkejopmohnfpgaa
