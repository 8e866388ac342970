/- emend/lines.Line: the line of a number, or none. -/
import Derived.Test.YtcenfckjkboabaaDoorX4
namespace Go.Proofs.YtcenfckjkboabaaDoor
open Go.RowKit Go.Shelf Go.Proofs.Utf Go.Lib

attribute [local go_sem] Oper.semAt_some

theorem Bx.ok {W W' : World} {row : Option Nat} {B : Nat} {t : TypeId} {v : Value} (h : Boxed W B t v) (hg : W.grownBy W' row) (hr : ∀ r, row = some r → ∃ o : Obj, W.heap[r]? = some o ∧ o.isCells = false) : Boxed W' B t v :=
  h.kept hg (fun e => by obtain ⟨o, ho, hc⟩ := hr B e.symm; rw [show W.heap[B]? = _ from h] at ho; cases ho; cases hc)
theorem Bx.at {w : World} {B : Nat} (t : TypeId) (v : Value) (h : B = w.heap.size) : Boxed (w.alloc (.cells #[v] t)) B t v := by subst h; exact Boxed.new _ _ _
/-- the line of a number -/
def lineAt (l : List (Nat × Nat)) (n : Int) : Option (Nat × Nat) := if 0 ≤ n then l[n.toNat]? else none
def lineV : Option (Nat × Nat) → Value
  | some p => .tuple #[.int .i64 (p.1 : Int), .int .i64 (p.2 : Int), .bool true]
  | none => .tuple #[.int .i64 0, .int .i64 0, .bool false]

set_option maxRecDepth 100000 in
set_option maxHeartbeats 4000000 in
theorem line_any (s : ByteArray) (n : Int) (w : World) (hs : s.size < 4294967281) :
    Calls Tryd.prog 71 #[.string s, .int .i64 n] w fun e w' => e = .returned (lineV (lineAt (linesL s.data.toList) n)) ∧ Below w.heap.size w w' := by
  refine (callsIn_wide (n := 5)).1 ?_
  refine callsIn_of_wp_marks Tryd.func71 rfl trivial ?_ rfl
  simp only [Tryd.ntmps71, List.size_toArray, List.length_cons, List.length_nil, Nat.reduceAdd, Nat.reduceSub, Array.replicate_succ, Array.replicate_zero, List.push_toArray, List.append_toArray, List.nil_append, List.cons_append]
  gi_wp2_with (refine ⟨trivial, ?_⟩; gi_at_call 87; refine (callsIn_wide.2 (each_any _ _)).mono ?_; rintro e w' ⟨rfl, rfl⟩)
  obtain ⟨W0, hW0⟩ : ∃ W0, (((((w.alloc (.cells #[.int .i64 n] 3)).alloc (.cells #[.int .i64 0] 3)).alloc (.cells #[.int .i64 0] 3)).alloc (.cells #[.bool false] 4)).alloc (.cells #[.int .i64 0] 3)).alloc (.cells #[.string s] 9) = W0 := ⟨_, rfl⟩
  have hB0 : Below w.heap.size w W0 := by
    rw [← hW0]
    exact ((((((Below.refl _ w).alloc (Nat.le_refl _) _).alloc (by simp) _).alloc (by simp; omega) _).alloc (by simp; omega) _).alloc (by simp; omega) _).alloc (by simp; omega) _
  have b0 : Boxed W0 w.heap.size 3 (.int .i64 n) := by rw [← hW0]; exact (((((Bx.at 3 _ (by simp)).alloc _).alloc _).alloc _).alloc _).alloc _
  have b1 : Boxed W0 (w.heap.size + 1) 3 (.int .i64 0) := by rw [← hW0]; exact ((((Bx.at 3 _ (by simp)).alloc _).alloc _).alloc _).alloc _
  have b2 : Boxed W0 (w.heap.size + 2) 3 (.int .i64 0) := by rw [← hW0]; exact (((Bx.at 3 _ (by simp)).alloc _).alloc _).alloc _
  have b3 : Boxed W0 (w.heap.size + 3) 4 (.bool false) := by rw [← hW0]; exact ((Bx.at 4 _ (by simp)).alloc _).alloc _
  have b4 : Boxed W0 (w.heap.size + 4) 3 (.int .i64 0) := by rw [← hW0]; exact (Bx.at 3 _ (by simp)).alloc _
  have b5 : Boxed W0 (w.heap.size + 5) 9 (.string s) := by rw [← hW0]; exact Bx.at 9 _ (by simp)
  have hsz : W0.heap.size = w.heap.size + 6 := by rw [← hW0]; simp
  rw [hW0, show w.heap.size + 1 + 1 = w.heap.size + 2 from rfl, show w.heap.size + 2 + 1 = w.heap.size + 3 from rfl, show w.heap.size + 3 + 1 = w.heap.size + 4 from rfl, show w.heap.size + 4 + 1 = w.heap.size + 5 from rfl]
  clear hW0
  have hlen : (lns s).length = (linesL s.data.toList).length := by rw [← lns_val s, List.length_map]
  have hmax := lns_length s
  refine wpIn_rangeFunc_ownF rfl (by omega) (gf := 94) (lb := #[.pointer (some ⟨w.heap.size + 5, 0, none⟩)]) rfl trivial (enters_of Tryd.func94 (by kernel_rfl) rfl)
    (each_stops s hs _ (by omega) (w.heap.size + 5) _ b5) Kp.trans (fun W l o o' _ hl ho _ => kp_b W l o o' hl ho) (Below.refl _ _) (fun _ => rfl)
    (fun pre W => (¬ (0 ≤ n ∧ n < pre.length) ∧ Boxed W w.heap.size 3 (.int .i64 n) ∧ Boxed W (w.heap.size + 1) 3 (.int .i64 0) ∧ Boxed W (w.heap.size + 2) 3 (.int .i64 0) ∧ Boxed W (w.heap.size + 3) 4 (.bool false) ∧ Boxed W (w.heap.size + 4) 3 (.int .i64 (pre.length : Int))) ∧ Below w.heap.size w W)
    (fun c pre W => (c = .ret ∧ ∃ (q : List (Ln s.size)) (x : Ln s.size), pre = q ++ [x] ∧ n = q.length ∧ Boxed W (w.heap.size + 1) 3 (.int .i64 (x.1.1 : Int)) ∧ Boxed W (w.heap.size + 2) 3 (.int .i64 (x.1.2 : Int)) ∧ Boxed W (w.heap.size + 3) 4 (.bool true)) ∧ Below w.heap.size w W)
    (OwnFrom.and (Own.from (fun pre A B row hs hg hr => ⟨hs.1, Bx.ok hs.2.1 hg hr, Bx.ok hs.2.2.1 hg hr, Bx.ok hs.2.2.2.1 hg hr, Bx.ok hs.2.2.2.2.1 hg hr, Bx.ok hs.2.2.2.2.2 hg hr⟩) _) (ownFrom_below (Nat.le_refl _) (by omega)))
    (fun c => OwnFrom.and (Own.from (fun pre A B row hs hg hr => by obtain ⟨hc, q, x, h1, h2, h3, h4, h5⟩ := hs; exact ⟨hc, q, x, h1, h2, Bx.ok h3 hg hr, Bx.ok h4 hg hr, Bx.ok h5 hg hr⟩) _) (ownFrom_below (Nat.le_refl _) (by omega)))
    ⟨⟨by simp, b0, b1, b2, b3, b4⟩, hB0⟩
    (fun x => { tmps := #[.string s, .int .i64 n, undef, .pointer (some ⟨w.heap.size, 0, none⟩), .pointer (some ⟨w.heap.size + 1, 0, none⟩), .pointer (some ⟨w.heap.size + 2, 0, none⟩), .pointer (some ⟨w.heap.size + 3, 0, none⟩), .pointer (some ⟨w.heap.size + 4, 0, none⟩), .int .i64 (x.1.1 : Int), .int .i64 (x.1.2 : Int), .string s, .func (.func 94) #[] #[.pointer (some ⟨w.heap.size + 5, 0, none⟩)], .int .i64 (x.1.1 : Int), .int .i64 (x.1.2 : Int), undef, undef, undef, undef, undef, undef, undef], defers := [] }) ?assign ?body ?done ?stop
  case assign =>
    intro l x W K hK
    gi_wp2
    exact hK
  case body =>
    rintro l pre x W ⟨⟨hn, h0, h1, h2, h3, h4⟩, hB⟩ hlt
    have c0 := h0.cell; have c4 := h4.cell; have f4 := h4.frozen; have f1 := h1.frozen; have c1 := h1.cell; have f2 := h2.frozen; have c2 := h2.cell; have f3 := h3.frozen; have c3 := h3.cell
    by_cases hkn : (pre.length : Int) = n
    · have hbq : ((pre.length : Int) == n) = true := beq_iff_eq.2 hkn
      gi_wp2
      exact ⟨((KeepsOthers.setCell _ _ _).trans (KeepsOthers.setCell _ _ _)).trans (KeepsOthers.setCell _ _ _),
        ⟨rfl, pre, x, rfl, hkn.symm, ((h1.set _).other (by omega) _).other (by omega) _, ((h2.other (by omega) _).set _).other (by omega) _, ((h3.other (by omega) _).other (by omega) _).set _⟩,
        ((hB.setCell (p := ⟨w.heap.size + 1, 0, none⟩) (by simp) _).setCell (p := ⟨w.heap.size + 2, 0, none⟩) (by simp) _).setCell (p := ⟨w.heap.size + 3, 0, none⟩) (by simp) _⟩
    · have hbq : ((pre.length : Int) == n) = false := beq_eq_false_iff_ne.2 hkn
      gi_wp2
      refine ⟨KeepsOthers.setCell _ _ _, fun v hv => hv.other (by omega) _, ⟨?_, h0.other (by omega) _, h1.other (by omega) _, h2.other (by omega) _, h3.other (by omega) _, ?_⟩, hB.setCell (p := ⟨w.heap.size + 4, 0, none⟩) (by simp) _⟩
      · rw [List.length_append, List.length_singleton]
        omega
      · rw [List.length_append, List.length_singleton]
        exact h4.set _
  case done =>
    rintro D ys W hD rfl ⟨⟨hn, h0, h1, h2, h3, h4⟩, hB⟩ hK
    have f1 := h1.frozen; have c1 := h1.cell; have f2 := h2.frozen; have c2 := h2.cell; have f3 := h3.frozen; have c3 := h3.cell
    gi_wp2
    have hnone : lineAt (linesL s.data.toList) n = none := by
      unfold lineAt
      split
      · exact List.getElem?_eq_none (by omega)
      · rfl
    rw [hnone]
    have k3 := ((KeepsOthers.setCell W ⟨w.heap.size + 1, 0, none⟩ (.int .i64 0)).trans (KeepsOthers.setCell _ ⟨w.heap.size + 2, 0, none⟩ (.int .i64 0))).trans (KeepsOthers.setCell _ ⟨w.heap.size + 3, 0, none⟩ (.bool false))
    have hK' := k3.same D _ hK rfl
    refine ⟨by simp, .inl ⟨_, _, rfl, run_takeDeferred hK', ?_⟩⟩
    have r1 := cell_kept ((((h1.set (.int .i64 0)).other (B' := w.heap.size + 2) (by omega) (.int .i64 0)).other (B' := w.heap.size + 3) (by omega) (.bool false))).cell (grownBy_putObj' _ D (.deferred none)) (fun r e => by cases e; exact ⟨_, hK', rfl⟩)
    have r2 := cell_kept ((((h2.other (B' := w.heap.size + 1) (by omega) (.int .i64 0)).set (.int .i64 0)).other (B' := w.heap.size + 3) (by omega) (.bool false))).cell (grownBy_putObj' _ D (.deferred none)) (fun r e => by cases e; exact ⟨_, hK', rfl⟩)
    have r3 := cell_kept ((((h3.other (B' := w.heap.size + 1) (by omega) (.int .i64 0)).other (B' := w.heap.size + 2) (by omega) (.int .i64 0)).set (.bool false))).cell (grownBy_putObj' _ D (.deferred none)) (fun r e => by cases e; exact ⟨_, hK', rfl⟩)
    have hB3 := ((hB.setCell (p := ⟨w.heap.size + 1, 0, none⟩) (by simp) (.int .i64 0)).setCell (p := ⟨w.heap.size + 2, 0, none⟩) (by simp) (.int .i64 0)).setCell (p := ⟨w.heap.size + 3, 0, none⟩) (by simp) (.bool false)
    refine ⟨_, ?_, rfl, hB3.trans (belowK_b (w := w) (Nat.le_refl _) _ D _ _ (by omega) hK' rfl rfl)⟩
    simp [results, Tryd.f71, go_sem, r1, r2, r3]
    rfl
  case stop =>
    rintro D c pre W hD hpre ⟨⟨rfl, q, x, rfl, hn, h1, h2, h3⟩, hB⟩ hK
    gi_wp2
    have hsome : lineAt (linesL s.data.toList) n = some x.1 := by
      obtain ⟨r, hr⟩ := hpre
      unfold lineAt
      rw [if_pos (by omega), ← lns_val s, ← hr, hn]
      simp
    rw [hsome]
    refine ⟨by simp, .inl ⟨_, _, rfl, run_takeDeferred hK, ?_⟩⟩
    have r1 := cell_kept h1.cell (grownBy_putObj' _ D (.deferred none)) (fun r e => by cases e; exact ⟨_, hK, rfl⟩)
    have r2 := cell_kept h2.cell (grownBy_putObj' _ D (.deferred none)) (fun r e => by cases e; exact ⟨_, hK, rfl⟩)
    have r3 := cell_kept h3.cell (grownBy_putObj' _ D (.deferred none)) (fun r e => by cases e; exact ⟨_, hK, rfl⟩)
    refine ⟨_, ?_, rfl, hB.trans (belowK_b (w := w) (Nat.le_refl _) W D _ _ (by omega) hK rfl rfl)⟩
    simp [results, Tryd.f71, go_sem, r1, r2, r3]
    rfl
end Go.Proofs.YtcenfckjkboabaaDoor
