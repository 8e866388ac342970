/- emend/lines.Count and emend/lines.Line. -/
import Derived.Test.YtipbojiialfmeaaX3
import Derived.RangeFuncNested
namespace Go.Proofs.Ytipbojiialfmeaa
open Go.RowKit Go.Shelf Go.Proofs.Utf Go.Lib

attribute [local go_sem] Oper.semAt_some

theorem each_stops (s : ByteArray) (hs : s.size < 4294967281) (n : Nat) (hn : 1 ≤ n) (Bs : Nat) (w : World) (hc : Boxed w Bs 9 (.string s)) :
    SeqStopsK Fence.wide n Try.prog 35 #[.pointer (some ⟨Bs, 0, none⟩)] (Ln.encs (n := s.size)) (Kp Bs) (fun ys => ys = lns s) (fun pre => pre <+: lns s) (s.size + 1) w := fun l J Jx W hW hJ _ hY h0 =>
  each1_in s hs n l Bs hn J Jx hY W (kp_below hW _ hc) hJ h0

set_option maxRecDepth 100000 in
set_option maxHeartbeats 2000000 in
theorem count_any (s : ByteArray) (w : World) (hs : s.size < 4294967281) :
    Calls Try.prog 13 #[.string s] w fun e w' => e = .returned (.int .i64 ((linesL s.data.toList).length : Int)) ∧ Below w.heap.size w w' := by
  refine (callsIn_wide (n := 5)).1 ?_
  refine callsIn_of_wp_marks Try.func13 rfl trivial ?_ rfl
  simp only [Try.ntmps13, List.size_toArray, List.length_cons, List.length_nil, Nat.reduceAdd, Nat.reduceSub, Array.replicate_succ, Array.replicate_zero, List.push_toArray, List.append_toArray, List.nil_append, List.cons_append]
  gi_wp2_with (refine ⟨trivial, ?_⟩; gi_at_call 28; refine (callsIn_wide.2 (each_any _ _)).mono ?_; rintro e w' ⟨rfl, rfl⟩)
  have hB0 : Below w.heap.size w ((w.alloc (.cells #[.int .i64 0] 3)).alloc (.cells #[.string s] 9)) := ((Below.refl _ w).alloc (Nat.le_refl _) _).alloc (by simp) _
  have b0 : Boxed ((w.alloc (.cells #[.int .i64 0] 3)).alloc (.cells #[.string s] 9)) w.heap.size 3 (.int .i64 0) := (Boxed.new w 3 _).alloc _
  have b1 : Boxed ((w.alloc (.cells #[.int .i64 0] 3)).alloc (.cells #[.string s] 9)) (w.heap.size + 1) 9 (.string s) := by have := Boxed.new (w.alloc (.cells #[.int .i64 0] 3)) 9 (.string s); rwa [World.size_alloc] at this
  have hlen : (lns s).length = (linesL s.data.toList).length := by rw [← lns_val s, List.length_map]
  have hmax := lns_length s
  refine wpIn_rangeFunc_ownF rfl (by omega) (gf := 35) (lb := #[.pointer (some ⟨w.heap.size + 1, 0, none⟩)]) rfl trivial (enters_of Try.func35 (by kernel_rfl) rfl)
    (each_stops s hs _ (by omega) (w.heap.size + 1) _ b1) Kp.trans (fun W l o o' _ hl ho _ => kp_b W l o o' hl ho) (Below.refl _ _) (fun _ => rfl)
    (fun pre W => Boxed W w.heap.size 3 (.int .i64 (pre.length : Int)) ∧ Below w.heap.size w W)
    (fun _ _ _ => False)
    (OwnFrom.and (Own.from (boxed_own _ _ _) _) (ownFrom_below (Nat.le_refl _) (by simp; omega)))
    (fun _ _ _ _ _ hs _ _ => hs)
    ⟨b0, hB0⟩
    (fun x => { tmps := #[.string s, undef, .pointer (some ⟨w.heap.size, 0, none⟩), .string s, .func (.func 35) #[] #[.pointer (some ⟨w.heap.size + 1, 0, none⟩)], .int .i64 (x.1.1 : Int), .int .i64 (x.1.2 : Int), undef, undef, undef], defers := [] }) ?assign ?body ?done ?stop
  case assign =>
    intro l x W K hK
    gi_wp2
    go_simp
    exact hK
  case body =>
    rintro l pre x W ⟨hb, hB⟩ hlt
    have hc := hb.cell
    have hf := hb.frozen
    gi_wp2
    refine ⟨KeepsOthers.setCell _ _ _, fun v hv => hv.other (by omega) _, ?_, hB.setCell (p := ⟨w.heap.size, 0, none⟩) (Nat.le_refl _) _⟩
    have := hb.set (.int .i64 (pre.length + 1 : Int))
    rw [List.length_append, List.length_singleton]
    exact this
  case done =>
    rintro D ys W hD rfl ⟨hb, hB⟩ hK
    have hc := hb.cell
    have hf := hb.frozen
    rw [hlen] at hb hc
    gi_wp2
    have hK' := (KeepsOthers.setCell W ⟨w.heap.size, 0, none⟩ (.int .i64 ((linesL s.data.toList).length : Int))).same D _ hK rfl
    refine ⟨by simp, .inl ⟨_, _, rfl, run_takeDeferred hK', ?_⟩⟩
    have hc5 := cell_kept (hb.set (.int .i64 ((linesL s.data.toList).length : Int))).cell (grownBy_putObj' _ D (.deferred none)) (fun r e => by cases e; exact ⟨_, hK', rfl⟩)
    refine ⟨_, ?_, rfl, (hB.setCell (p := ⟨w.heap.size, 0, none⟩) (Nat.le_refl _) _).trans (belowK_b (w := w) (Nat.le_refl _) _ D _ _ (by simp at hD; omega) hK' rfl rfl)⟩
    simp [results, Try.f13, go_sem, hc5]
  case stop =>
    rintro D c pre W _ _ h _
    exact h.elim
end Go.Proofs.Ytipbojiialfmeaa
