/- strings.IndexRune at the sixteen hex digits, whatever the rune. -/
import Derived.Test.YtaiaiiepbpbmmaaGreatDoorJ1
import Derived.Laws.Runes
import Derived.LoopN
import Derived.Scope
import Derived.Laws.RangeString
import Derived.Laws.RangeAny
namespace Go.Proofs.Jt
open Go.RowKit Go.Proofs Go.Lib Go.Proofs.Utf

theorem below_draws {w wr : World} (hB : Below w.heap.size w wr) (n : Nat) : Below w.heap.size w (wr.drewN n) := by
  induction n with
  | zero => exact hB
  | succ n ih => exact ih.drew
theorem below_drewN (w : World) (n : Nat) : Below w.heap.size w (w.drewN n) := below_draws (Below.refl _ _) n
theorem below_iter (w : World) (s : ByteArray) (pos : Nat) : Below w.heap.size w (w.iter s pos) := (Below.refl _ _).alloc (Nat.le_refl _) _
def hexT : ByteArray := ⟨#[48, 49, 50, 51, 52, 53, 54, 55, 56, 57, 97, 98, 99, 100, 101, 102]⟩
theorem valid_of {r : Int} (h : IsPoint r) : Utf8.valid r = true := by
  unfold IsPoint at h
  unfold Utf8.valid
  simp
  omega
theorem validRune_of {r : Int} (h : IsPoint r) : Lib.validRune r = true := by
  unfold IsPoint at h
  unfold Lib.validRune
  simp
  omega
theorem hex_ascii : ∀ (k : Nat) (h : k < hexT.size), hexT[k].toNat < 128 := by decide +kernel
set_option maxHeartbeats 2000000 in
set_option maxRecDepth 100000 in
theorem rune_bad (w : World) : Calls Tryz.prog 216 #[.string hexT, .int .i32 65533] w fun e w' => e = .returned (.int .i64 (-1)) ∧ Below w.heap.size w w' := by
  have hz : hexT.size = 16 := rfl
  have ha := hex_ascii
  generalize hexT = T at *
  go_enter Tryz.func216, Tryz.ntmps216
  go_wp2
  go_loopw [4] (fun _ w' => ∃ pos, w' = w.iter T pos ∧ pos ≤ T.size) (fun _ w' => T.size - w'.iterPos w.heap.size)
  case atStart => exact ⟨0, rfl, Nat.zero_le _⟩
  case round =>
    obtain ⟨pos, rfl, hp0⟩ := hrel
    by_cases hp : pos < T.size
    · have hnx : ∀ ty, (Instr.next (.pointer (some ⟨w.heap.size, 0, none⟩)) true ty).run Tryz.prog (w.iter T pos) = _ := fun ty => run_next_ascii w T pos ty hp (ha pos hp)
      have hlt := ha pos hp
      have hne : ((T[pos].toNat : Int) == 65533) = false := beq_eq_false_iff_ne.2 (by omega)
      go_wp2
      exact ⟨⟨pos + 1, rfl, hp⟩, by simp; omega⟩
    · have hnx : ∀ ty, (Instr.next (.pointer (some ⟨w.heap.size, 0, none⟩)) true ty).run Tryz.prog (w.iter T pos) = _ := fun ty => run_next_end w T pos ty hp
      go_wp2
      go_ret
      exact ⟨rfl, below_iter _ _ _⟩
set_option maxHeartbeats 8000000 in
set_option maxRecDepth 1000000 in
theorem rune_big (r : Int) (w : World) (h : 128 ≤ r) (hp : IsPoint r) (h3 : r ≠ 65533) : Calls Tryz.prog 216 #[.string hexT, .int .i32 r] w fun e w' => e = .returned (.int .i64 (-1)) ∧ Below w.heap.size w w' := by
  have hr : r ≤ 1114111 := hp.2.1
  have hv := validRune_of hp
  have hd := encode_facts r (valid_of hp) h
  obtain ⟨x, hx⟩ : ∃ x, Utf8.encode r = x := ⟨_, rfl⟩
  rw [hx] at hd
  obtain ⟨h2, h4, hl⟩ := hd
  have hcv : ∀ w' : World, (convert 21 9 (.int .i32 r)).run Tryz.prog w' = .ok (.string x) w' := fun w' => by rw [← hx]; exact run_convert_int_string w' 21 9 .i32 r (by kernel_rfl) Tryz.underlying9
  clear hx
  unfold hexT
  rcases Nat.eq_or_lt_of_le (show 2 ≤ x.size by omega) with hsz | hsz
  · replace hsz := hsz.symm
    have hb := hl (by omega)
    obtain ⟨a, b, rfl⟩ : ∃ a b : UInt8, x = ⟨#[a, b]⟩ := by
      obtain ⟨⟨l⟩⟩ := x
      match l, hsz with
      | [a, b], _ => exact ⟨a, b, rfl⟩
    have hb' : 128 ≤ b.toNat := hb
    have hne : ((((⟨#[48, 49, 50, 51, 52, 53, 54, 55, 56, 57, 97, 98, 99, 100, 101, 102]⟩ : ByteArray)[1]'(by decide)).toNat : Int) != (((⟨#[a, b]⟩ : ByteArray)[1]'(by show 1 < 2; omega)).toNat : Int)) = true := by
      show ((49 : Int) != (b.toNat : Int)) = true
      simp
      omega
    have hix : indexByte [50, 51, 52, 53, 54, 55, 56, 57, 97, 98, 99, 100, 101, 102] ((⟨#[a, b]⟩ : ByteArray)[1]'(by show 1 < 2; omega)) < 0 := by
      show indexByte [50, 51, 52, 53, 54, 55, 56, 57, 97, 98, 99, 100, 101, 102] b < 0
      have : ∀ c : UInt8, 128 ≤ c.toNat → indexByte [50, 51, 52, 53, 54, 55, 56, 57, 97, 98, 99, 100, 101, 102] c < 0 := forall_u8 (by decide +kernel)
      exact this _ hb'
    clear hb hl
    go_enter Tryz.func216, Tryz.ntmps216
    go_wp2_with (go_at_call 241; refine (Tryz.utf8_ValidRune _ _).mono ?_; rintro e w' ⟨rfl, rfl⟩; rw [hv])
    refine wp_scope_straight ?_
    go_wp2
    refine wp_loop_rounds 1 ?_
    rw [rounds_succ]
    go_wp2
    refine wp_scope_straight ?_
    go_wp2
    go_quiet (fail)
    go_wp2
    obtain ⟨w1, hw1⟩ : ∃ w1, w'.drewN nq = w1 := ⟨_, rfl⟩
    have hB : Below w'.heap.size w' w1 := by rw [← hw1]; exact below_drewN _ _
    rw [hw1]
    clear hw1
    go_quiet ((go_at_call 162; exact Calls.quiet_of_same (Tryz.strings_IndexByte _ _ _)))
    go_wp2
    dsimp only [Exit.noGoto, Exit.inBlock, Exit.then]
    go_ret
    exact ⟨rfl, hB.trans (below_draws (Below.refl _ _) _ |>.mono hB.size)⟩
  rcases Nat.eq_or_lt_of_le (show 3 ≤ x.size by omega) with hsz | hsz
  · replace hsz := hsz.symm
    have hb := hl (by omega)
    obtain ⟨a, b, c, rfl⟩ : ∃ a b c : UInt8, x = ⟨#[a, b, c]⟩ := by
      obtain ⟨⟨l⟩⟩ := x
      match l, hsz with
      | [a, b, c], _ => exact ⟨a, b, c, rfl⟩
    have hb' : 128 ≤ c.toNat := hb
    have hne : ((((⟨#[48, 49, 50, 51, 52, 53, 54, 55, 56, 57, 97, 98, 99, 100, 101, 102]⟩ : ByteArray)[2]'(by decide)).toNat : Int) != (((⟨#[a, b, c]⟩ : ByteArray)[2]'(by show 2 < 3; omega)).toNat : Int)) = true := by
      show ((50 : Int) != (c.toNat : Int)) = true
      simp
      omega
    have hix : indexByte [51, 52, 53, 54, 55, 56, 57, 97, 98, 99, 100, 101, 102] ((⟨#[a, b, c]⟩ : ByteArray)[2]'(by show 2 < 3; omega)) < 0 := by
      show indexByte [51, 52, 53, 54, 55, 56, 57, 97, 98, 99, 100, 101, 102] c < 0
      have : ∀ c : UInt8, 128 ≤ c.toNat → indexByte [51, 52, 53, 54, 55, 56, 57, 97, 98, 99, 100, 101, 102] c < 0 := forall_u8 (by decide +kernel)
      exact this _ hb'
    clear hb hl
    go_enter Tryz.func216, Tryz.ntmps216
    go_wp2_with (go_at_call 241; refine (Tryz.utf8_ValidRune _ _).mono ?_; rintro e w' ⟨rfl, rfl⟩; rw [hv])
    refine wp_scope_straight ?_
    go_wp2
    refine wp_loop_rounds 1 ?_
    rw [rounds_succ]
    go_wp2
    refine wp_scope_straight ?_
    go_wp2
    go_quiet (fail)
    go_wp2
    obtain ⟨w1, hw1⟩ : ∃ w1, w'.drewN nq = w1 := ⟨_, rfl⟩
    have hB : Below w'.heap.size w' w1 := by rw [← hw1]; exact below_drewN _ _
    rw [hw1]
    clear hw1
    go_quiet ((go_at_call 162; exact Calls.quiet_of_same (Tryz.strings_IndexByte _ _ _)))
    go_wp2
    dsimp only [Exit.noGoto, Exit.inBlock, Exit.then]
    go_ret
    exact ⟨rfl, hB.trans (below_draws (Below.refl _ _) _ |>.mono hB.size)⟩
  · replace hsz : x.size = 4 := by omega
    have hb := hl (by omega)
    obtain ⟨a, b, c, d, rfl⟩ : ∃ a b c d : UInt8, x = ⟨#[a, b, c, d]⟩ := by
      obtain ⟨⟨l⟩⟩ := x
      match l, hsz with
      | [a, b, c, d], _ => exact ⟨a, b, c, d, rfl⟩
    have hb' : 128 ≤ d.toNat := hb
    have hne : ((((⟨#[48, 49, 50, 51, 52, 53, 54, 55, 56, 57, 97, 98, 99, 100, 101, 102]⟩ : ByteArray)[3]'(by decide)).toNat : Int) != (((⟨#[a, b, c, d]⟩ : ByteArray)[3]'(by show 3 < 4; omega)).toNat : Int)) = true := by
      show ((51 : Int) != (d.toNat : Int)) = true
      simp
      omega
    have hix : indexByte [52, 53, 54, 55, 56, 57, 97, 98, 99, 100, 101, 102] ((⟨#[a, b, c, d]⟩ : ByteArray)[3]'(by show 3 < 4; omega)) < 0 := by
      show indexByte [52, 53, 54, 55, 56, 57, 97, 98, 99, 100, 101, 102] d < 0
      have : ∀ c : UInt8, 128 ≤ c.toNat → indexByte [52, 53, 54, 55, 56, 57, 97, 98, 99, 100, 101, 102] c < 0 := forall_u8 (by decide +kernel)
      exact this _ hb'
    clear hb hl
    go_enter Tryz.func216, Tryz.ntmps216
    go_wp2_with (go_at_call 241; refine (Tryz.utf8_ValidRune _ _).mono ?_; rintro e w' ⟨rfl, rfl⟩; rw [hv])
    refine wp_scope_straight ?_
    go_wp2
    refine wp_loop_rounds 1 ?_
    rw [rounds_succ]
    go_wp2
    refine wp_scope_straight ?_
    go_wp2
    go_quiet (fail)
    go_wp2
    obtain ⟨w1, hw1⟩ : ∃ w1, w'.drewN nq = w1 := ⟨_, rfl⟩
    have hB : Below w'.heap.size w' w1 := by rw [← hw1]; exact below_drewN _ _
    rw [hw1]
    clear hw1
    go_quiet ((go_at_call 162; exact Calls.quiet_of_same (Tryz.strings_IndexByte _ _ _)))
    go_wp2
    dsimp only [Exit.noGoto, Exit.inBlock, Exit.then]
    go_ret
    exact ⟨rfl, hB.trans (below_draws (Below.refl _ _) _ |>.mono hB.size)⟩
end Go.Proofs.Jt
