/- emend/lines.Cut; LinesKnown's walk. -/
import Derived.Test.YtcenfckjkboabaaDoorX7
namespace Go.Proofs.YtcenfckjkboabaaDoor
open Go.RowKit Go.Proofs.Utf Go.Lib

theorem on_of {W w : World} {f : FuncId} {args : Array Value} {v : Value} (h : ∀ w, Calls Tryd.prog f args w fun e w' => e = .returned v ∧ Below w.heap.size w w') (hw : Below W.heap.size W w) :
    Calls Tryd.prog f args w fun e w' => e = .returned v ∧ Below W.heap.size W w' := (h w).mono fun _ _ ⟨he, hb⟩ => ⟨he, hw.trans (hb.mono hw.size)⟩
/-- the places of a range -/
def cutP (s : ByteArray) (a b c d : Int) : Int × Int × Int :=
  if (offP s a b).2 ≠ 0 ∨ (offP s c d).2 ≠ 0 ∨ (offP s c d).1 < (offP s a b).1 then (0, 0, 2) else ((offP s a b).1, (offP s c d).1, 0)
set_option maxRecDepth 100000 in
set_option maxHeartbeats 800000 in
theorem cut_any (s : ByteArray) (a b c d : Int) (w : World) (hs : s.size < 4294967281) :
    Calls Tryd.prog 50 #[.string s, .agg #[.int .i64 a, .int .i64 b, .int .i64 c, .int .i64 d]] w fun e w' => e = .returned (.tuple #[.int .i64 (cutP s a b c d).1, .int .i64 (cutP s a b c d).2.1, .int .i64 (cutP s a b c d).2.2]) ∧ Below w.heap.size w w' := by
  have hB0 : Below w.heap.size w (w.alloc (.cells #[.int .i64 a, .int .i64 b, .int .i64 c, .int .i64 d] 52)) := (Below.refl _ w).alloc (Nat.le_refl _) _
  have hc0 : (w.alloc (.cells #[.int .i64 a, .int .i64 b, .int .i64 c, .int .i64 d] 52)).heap[w.heap.size]? = some (.cells #[.int .i64 a, .int .i64 b, .int .i64 c, .int .i64 d] 52) := World.alloc_heap_new w _
  have c1 := fun w => offset_any s a b w hs
  have c2 := fun w => offset_any s c d w hs
  unfold cutP
  generalize offP s a b = A at *
  generalize offP s c d = B at *
  obtain ⟨m, e⟩ := A
  obtain ⟨n, f⟩ := B
  have hk : ∀ w1, Below (w.alloc (.cells #[.int .i64 a, .int .i64 b, .int .i64 c, .int .i64 d] 52)).heap.size (w.alloc (.cells #[.int .i64 a, .int .i64 b, .int .i64 c, .int .i64 d] 52)) w1 →
      w1.cell? ⟨w.heap.size, 2, none⟩ = some (.int .i64 c) ∧ w1.cell? ⟨w.heap.size, 3, none⟩ = some (.int .i64 d) := fun w1 hw1 => by
    have h1 : w1.heap[w.heap.size]? = some (.cells #[.int .i64 a, .int .i64 b, .int .i64 c, .int .i64 d] 52) := (hw1.block _ (by simp)).trans hc0
    constructor <;> simp [World.cell?, h1]
  by_cases he : e = 0
  · subst he
    by_cases hf : f = 0
    · subst hf
      by_cases hmn : n < m
      · have hcond : (((0 : Int) ≠ 0) ∨ ((0 : Int) ≠ 0) ∨ n < m) := .inr (.inr hmn)
        simp only [if_pos hcond]
        go_enter Tryd.func50, Tryd.ntmps50
        go_wp2_with (first
          | (go_at_call 62; (with_reducible refine (c1 _).mono ?_); rintro e1 w1 ⟨rfl, hw1⟩; obtain ⟨k2, k3⟩ := hk w1 hw1)
          | (go_at_call 62; (with_reducible refine (c2 _).mono ?_); rintro e2 w2 ⟨rfl, hw2⟩))
        go_ret3
        exact ⟨rfl, (hB0.trans (hw1.mono hB0.size)).trans (hw2.mono (Nat.le_trans hB0.size hw1.size))⟩
      · have hcond : ¬ (((0 : Int) ≠ 0) ∨ ((0 : Int) ≠ 0) ∨ n < m) := by simp; omega
        simp only [if_neg hcond]
        go_enter Tryd.func50, Tryd.ntmps50
        go_wp2_with (first
          | (go_at_call 62; (with_reducible refine (c1 _).mono ?_); rintro e1 w1 ⟨rfl, hw1⟩; obtain ⟨k2, k3⟩ := hk w1 hw1)
          | (go_at_call 62; (with_reducible refine (c2 _).mono ?_); rintro e2 w2 ⟨rfl, hw2⟩))
        go_ret3
        exact ⟨rfl, (hB0.trans (hw1.mono hB0.size)).trans (hw2.mono (Nat.le_trans hB0.size hw1.size))⟩
    · have hcond : (((0 : Int) ≠ 0) ∨ (f ≠ 0) ∨ n < m) := .inr (.inl hf)
      simp only [if_pos hcond]
      have hfb : (f == 0) = false := beq_eq_false_iff_ne.2 hf
      go_enter Tryd.func50, Tryd.ntmps50
      go_wp2_with (first
        | (go_at_call 62; (with_reducible refine (c1 _).mono ?_); rintro e1 w1 ⟨rfl, hw1⟩; obtain ⟨k2, k3⟩ := hk w1 hw1)
        | (go_at_call 62; (with_reducible refine (c2 _).mono ?_); rintro e2 w2 ⟨rfl, hw2⟩))
      go_ret3
      exact ⟨rfl, (hB0.trans (hw1.mono hB0.size)).trans (hw2.mono (Nat.le_trans hB0.size hw1.size))⟩
  · have hcond : ((e ≠ 0) ∨ (f ≠ 0) ∨ n < m) := .inl he
    simp only [if_pos hcond]
    have heb : (e == 0) = false := beq_eq_false_iff_ne.2 he
    go_enter Tryd.func50, Tryd.ntmps50
    go_wp2_with (first
      | (go_at_call 62; (with_reducible refine (c1 _).mono ?_); rintro e1 w1 ⟨rfl, hw1⟩; obtain ⟨k2, k3⟩ := hk w1 hw1)
      | (go_at_call 62; (with_reducible refine (c2 _).mono ?_); rintro e2 w2 ⟨rfl, hw2⟩))
    go_ret3
    exact ⟨rfl, (hB0.trans (hw1.mono hB0.size)).trans (hw2.mono (Nat.le_trans hB0.size hw1.size))⟩
end Go.Proofs.YtcenfckjkboabaaDoor
