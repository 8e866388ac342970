/- Pending: the function value that compares two jobs' numbers. -/
import Derived.Test.YtkejopmohnfpgaaW3
import Derived.Test.YtkejopmohnfpgaaSort
import Derived.Deep.QuietTactic
import Derived.BigQuiet
namespace Go.Proofs.Ytkejopmohnfpgaa
open Go.RowKit Go.Maps Go.Lib Go.Sort

theorem drawn_grown (w : World) (n : Nat) : w.grownBy (w.drewN n) none := by
  induction n with
  | zero => exact ⟨rfl, rfl, rfl, Nat.le_refl _, fun _ _ _ => rfl⟩
  | succ n ih => exact ⟨ih.os, ih.tape, ih.output, ih.size, ih.block⟩
set_option maxRecDepth 100000 in
set_option maxHeartbeats 800000 in
theorem closure_any (W : World) (qb mb Bq N : Nat) (D : DataW Unit) (L : List J) (hq : W.cell? ⟨Bq, 0, none⟩ = some (.pointer (some ⟨qb, 0, none⟩))) (hm : W.cell? ⟨qb, 2, none⟩ = some (.map (some mb)))
    (hown : W.ownsMap Try.prog 9 ptrElem mb N D) (hD : MapIs D L) (i j : J) (hi : i ∈ L) (hj : j ∈ L) (ci : W.cell? ⟨i.blk, 1, none⟩ = some (.int .i64 i.num)) (cj : W.cell? ⟨j.blk, 1, none⟩ = some (.int .i64 j.num))
    (zi : i.id.size ≤ maxLen) (zj : j.id.size ≤ maxLen) :
    Calls Try.prog 33 #[.string i.id, .string j.id, .pointer (some ⟨Bq, 0, none⟩)] W fun e w' => e = .returned (.int .i64 (compareInt i.num j.num)) ∧ ∃ q, w' = W.drewN q := by
  have hlk : ∀ (k : J), k ∈ L → k.id.size ≤ maxLen → ∀ n, (Instr.lookup 50 (.map (some mb)) (.string k.id) false).run Try.prog (W.drewN n) = .ok (.pointer (some ⟨k.blk, 0, none⟩)) (W.drewN n) := by
    intro k hk hz n
    have ho := hown.kept (drawn_grown W n) (by simp)
    have hkey : keyOf Try.prog 9 (.string k.id) = some (key k.id) := WideMaps.keyOf_string_mk Try.underlying9 hz
    obtain ⟨v, ps, hrun, hv⟩ := ho.lookup (t := 50) law9 Try.underlying50 (zero53 _) (zd := .nil) (zp := []) rfl hkey
    obtain rfl := at_job hD hk hv
    exact hrun
  have hli := hlk i hi zi
  have hlj := hlk j hj zj
  clear hlk hown hD
  have c34 := fun w => Try.cmp_Compare_int i.num j.num w
  generalize compareInt (i.num : Int) (j.num : Int) = r at c34 ⊢
  go_enter Try.func33, Try.ntmps33
  go_wp2
  go_quiet ((go_at_call 34; exact Calls.quiet_of_same (c34 _)))
  go_wp2
  go_ret
  exact ⟨rfl, _, rfl⟩
end Go.Proofs.Ytkejopmohnfpgaa
