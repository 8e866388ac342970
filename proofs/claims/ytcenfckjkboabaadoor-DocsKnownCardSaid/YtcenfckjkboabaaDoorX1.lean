/- strings.IndexRune and strings.IndexAny at the two bytes 13, 10, whatever the text. -/
import Derived.Test.YtcenfckjkboabaaDoorShelf
import Derived.Test.YtcenfckjkboabaaDoorW4
import Derived.Test.YtcenfckjkboabaaDoorLin
import Derived.Laws.Runes
import Derived.LoopN
import Derived.Deep.QuietTactic
import Derived.BigQuiet
import Derived.Scope
import Derived.Laws.RangeString
import Derived.Laws.RangeAny
namespace Go.Proofs.YtcenfckjkboabaaDoor
open Go.RowKit Go.Proofs.Utf Go.Lib

theorem below_draws {w wr : World} (hB : Below w.heap.size w wr) (n : Nat) : Below w.heap.size w (wr.drewN n) := by
  induction n with
  | zero => exact hB
  | succ n ih => exact ih.drew
theorem below_drewN (w : World) (n : Nat) : Below w.heap.size w (w.drewN n) := by
  have := Below.refl w.heap.size w
  induction n with
  | zero => exact this
  | succ n ih => exact ih.drew
def crlf : ByteArray := ⟨#[13, 10]⟩
theorem dec_big (l : List UInt8) (h0 : 1 ≤ l.length) (hb : 128 ≤ (l.getD 0 0).toNat) :
    128 ≤ (decodeL l).1 ∧ IsPoint (decodeL l).1 ∧ ∀ j, j < (decodeL l).2 → 128 ≤ (l.getD j 0).toNat := by
  have hit : ∀ k, 1 ≤ k → k ≤ 4 → k ≤ l.length → Hit l k → 128 ≤ (decodeL l).1 ∧ IsPoint (decodeL l).1 ∧ ∀ j, j < (decodeL l).2 → 128 ≤ (l.getD j 0).toNat := by
    intro k h1 h4 hl hh
    rw [found l k h1 h4 hl hh]
    have hlen : (encodeRune (candL l k)).length = k := by rw [hh.2, List.length_take]; omega
    rcases (show k = 1 ∨ k = 2 ∨ k = 3 ∨ k = 4 by omega) with rfl | rfl | rfl | rfl
    · have := (Hit1 l hl).1 hh
      omega
    · have h2 := (Hit2 l hl).1 hh
      refine ⟨?_, hh.1, ?_⟩
      · rcases len_cases _ hh.1 with hc | hc | hc | hc <;> omega
      · intro j hj
        rcases (show j = 0 ∨ j = 1 by omega) with rfl | rfl <;> omega
    · have h2 := (Hit3 l hl).1 hh
      refine ⟨?_, hh.1, ?_⟩
      · rcases len_cases _ hh.1 with hc | hc | hc | hc <;> omega
      · intro j hj
        rcases (show j = 0 ∨ j = 1 ∨ j = 2 by omega) with rfl | rfl | rfl <;> omega
    · have h2 := (Hit4 l hl).1 hh
      refine ⟨?_, hh.1, ?_⟩
      · rcases len_cases _ hh.1 with hc | hc | hc | hc <;> omega
      · intro j hj
        rcases (show j = 0 ∨ j = 1 ∨ j = 2 ∨ j = 3 by omega) with rfl | rfl | rfl | rfl <;> omega
  by_cases hex : ∃ k, 1 ≤ k ∧ k ≤ 4 ∧ k ≤ l.length ∧ Hit l k
  · obtain ⟨k, h1, h4, hl, hh⟩ := hex
    exact hit k h1 h4 hl hh
  · rw [missed l h0 (fun k h1 h4 hl hh => hex ⟨k, h1, h4, hl, hh⟩)]
    refine ⟨by decide, by unfold IsPoint; decide, fun j hj => ?_⟩
    obtain rfl : j = 0 := by omega
    exact hb
theorem valid_of {r : Int} (h : IsPoint r) : Utf8.valid r = true := by
  unfold IsPoint at h
  unfold Utf8.valid
  simp
  omega
theorem validRune_of {r : Int} (h : IsPoint r) : Lib.validRune r = true := by
  unfold IsPoint at h
  unfold Lib.validRune
  simp
  omega

set_option maxHeartbeats 8000000 in
set_option maxRecDepth 1000000 in
theorem rune_bad (w : World) : Calls Tryd.prog 98 #[.string crlf, .int .i32 65533] w fun e w' => e = .returned (.int .i64 (-1)) ∧ Below w.heap.size w w' := by
  unfold crlf
  have n0 : ∀ ty, (Instr.next (.pointer (some ⟨w.heap.size, 0, none⟩)) true ty).run Tryd.prog (w.iter ⟨#[13, 10]⟩ 0) = _ := fun ty => run_next_ascii w ⟨#[13, 10]⟩ 0 ty (by decide) (by decide)
  have n1 : ∀ ty, (Instr.next (.pointer (some ⟨w.heap.size, 0, none⟩)) true ty).run Tryd.prog (w.iter ⟨#[13, 10]⟩ 1) = _ := fun ty => run_next_ascii w ⟨#[13, 10]⟩ 1 ty (by decide) (by decide)
  have n2 : ∀ ty, (Instr.next (.pointer (some ⟨w.heap.size, 0, none⟩)) true ty).run Tryd.prog (w.iter ⟨#[13, 10]⟩ 2) = _ := fun ty => run_next_end w ⟨#[13, 10]⟩ 2 ty (by decide)
  simp at n0 n1 n2
  go_enter Tryd.func98, Tryd.ntmps98
  go_wp2
  refine wp_loop_rounds 3 ?_
  rw [rounds_succ]
  go_wp2
  rw [rounds_succ]
  go_wp2
  rw [rounds_succ]
  go_wp2
  go_ret
  exact ⟨rfl, below_iter _ _ _⟩
set_option maxHeartbeats 8000000 in
set_option maxRecDepth 1000000 in
theorem rune_big (r : Int) (w : World) (h : 128 ≤ r) (hp : IsPoint r) (h3 : r ≠ 65533) : Calls Tryd.prog 98 #[.string crlf, .int .i32 r] w fun e w' => e = .returned (.int .i64 (-1)) ∧ Below w.heap.size w w' := by
  have hr : r ≤ 1114111 := hp.2.1
  have hv := validRune_of hp
  have hd := encode_facts r (valid_of hp) h
  obtain ⟨x, hx⟩ : ∃ x, Utf8.encode r = x := ⟨_, rfl⟩
  rw [hx] at hd
  obtain ⟨h2, h4, hl⟩ := hd
  have hcv : ∀ w' : World, (convert 21 9 (.int .i32 r)).run Tryd.prog w' = .ok (.string x) w' := fun w' => by rw [← hx]; exact run_convert_int_string w' 21 9 .i32 r (by kernel_rfl) Tryd.underlying9
  clear hx
  unfold crlf
  by_cases hsz : x.size = 2
  · have hb := hl (by omega)
    obtain ⟨a, b, rfl⟩ : ∃ a b : UInt8, x = ⟨#[a, b]⟩ := by
      obtain ⟨⟨l⟩⟩ := x
      match l, hsz with
      | [a, b], _ => exact ⟨a, b, rfl⟩
    have hb' : 128 ≤ b.toNat := hb
    have hne : ((((⟨#[13, 10]⟩ : ByteArray)[1]'(by decide)).toNat : Int) != (((⟨#[a, b]⟩ : ByteArray)[1]'(by show 1 < 2; omega)).toNat : Int)) = true := by
      show ((10 : Int) != (b.toNat : Int)) = true
      simp
      omega
    have hix : indexByte [] ((⟨#[a, b]⟩ : ByteArray)[1]'(by show 1 < 2; omega)) < 0 := by show (-1 : Int) < 0; decide
    clear hb hl h2 h4
    go_enter Tryd.func98, Tryd.ntmps98
    go_wp2_with (go_at_call 103; refine (Tryd.utf8_ValidRune _ _).mono ?_; rintro e w' ⟨rfl, rfl⟩; rw [hv])
    refine wp_scope_straight ?_
    go_wp2
    refine wp_loop_rounds 1 ?_
    rw [rounds_succ]
    go_wp2
    refine wp_scope_straight ?_
    go_wp2
    go_quiet (fail)
    go_wp2
    obtain ⟨w1, hw1⟩ : ∃ w1, w'.drewN nq = w1 := ⟨_, rfl⟩
    have hB : Below w'.heap.size w' w1 := by rw [← hw1]; exact below_drewN _ _
    rw [hw1]
    clear hw1
    go_quiet ((go_at_call 102; exact Calls.quiet_of_same (Tryd.strings_IndexByte _ _ _)))
    go_wp2
    dsimp only [Exit.noGoto, Exit.inBlock, Exit.then]
    go_ret
    exact ⟨rfl, hB.trans (below_draws (Below.refl _ _) _ |>.mono hB.size)⟩
  · go_enter Tryd.func98, Tryd.ntmps98
    go_wp2_with (go_at_call 103; refine (Tryd.utf8_ValidRune _ _).mono ?_; rintro e w' ⟨rfl, rfl⟩; rw [hv])
    refine wp_scope_straight ?_
    go_wp2
    refine wp_loop_rounds 1 ?_
    rw [rounds_succ]
    go_wp2
    all_goals dsimp only [Exit.noGoto, Exit.inBlock]
    all_goals go_ret
    all_goals exact ⟨rfl, Below.refl _ _⟩
end Go.Proofs.YtcenfckjkboabaaDoor
