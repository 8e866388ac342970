/- Merged texts: Lin, W4, W6, X1, X2, X3, X4, X5, X0, X6, X7. -/
import Derived.Test.YtaiaiiepbpbmmaaGreatDoorCmZP
import Derived.Lib.IndexAny
import Derived.Test.YtaiaiiepbpbmmaaGreatDoorCmShelf
import Derived.WalkKit
import Derived.WalkSpells
import Derived.WalkLawsBesides
import Derived.Laws.RangeString
import Derived.Laws.RangeAny
import Derived.LoopTactic
import Derived.Lib.Hide
import Derived.Laws.Runes
import Derived.LoopN
import Derived.Deep.QuietTactic
import Derived.BigQuiet
import Derived.Scope
import Derived.Test.YtaiaiiepbpbmmaaGreatDoorCmShelf3
import Derived.RangeFuncRecord
import Derived.RangeFuncKeeps
import Derived.RangeFuncBox
import Derived.RangeFuncNested
import Derived.RangeFuncFrom
import Derived.RangeFuncLeaves
import Derived.RangeFuncCalls
import Derived.Shelf.Abstract
import Derived.Shelf.RegionOpen
import Derived.OwnWalkIn
import Derived.TacticsInMore
import Derived.LoopNIn
import Derived.LoopIn
import Derived.Deep.RegionHeld3
/- Lin: A text's lines, in plain Lean: where each begins and ends; what 'the first 13 or 10 from here' says of them. -/
namespace Go.Proofs.Utf
open Go.Lib

/-- the lines of what is left: whether the byte ahead is 13, where the line began, where we are -/
def linesP : List UInt8 → Bool → Nat → Nat → List (Nat × Nat)
  | [], _, f, a => [(f, a)]
  | b :: r, cr, f, a =>
    if cr && b == 10 then linesP r false (a + 1) (a + 1)
    else if b == 10 || b == 13 then (f, a) :: linesP r (b == 13) (a + 1) (a + 1)
    else linesP r false f (a + 1)
def linesL (l : List UInt8) : List (Nat × Nat) := linesP l false 0 0

theorem linesP_cr (l : List UInt8) (f a : Nat) (h : ∀ r, l ≠ 10 :: r) : linesP l true f a = linesP l false f a := by
  cases l with
  | nil => rfl
  | cons b r =>
    have hb : (b == 10) = false := by
      cases e : b == 10 with
      | false => rfl
      | true => exact absurd (by rw [eq_of_beq e]) (h r)
    simp only [linesP, hb, Bool.and_false, Bool.false_eq_true, if_false, Bool.false_or]
theorem lines_none : ∀ (l : List UInt8) (f a : Nat), indexAny l [13, 10] = -1 → linesP l false f a = [(f, a + l.length)]
  | [], f, a, _ => rfl
  | b :: r, f, a, h => by
    unfold indexAny at h
    by_cases hb : ([13, 10] : List UInt8).contains b = true
    · rw [if_pos hb] at h; omega
    · rw [if_neg hb] at h
      have hr : indexAny r [13, 10] = -1 := by
        have := indexAny_ge [13, 10] r
        split at h
        · next e => exact eq_of_beq e
        · omega
      have h10 : (b == 10) = false := by simp at hb; simp; exact hb.2
      have h13 : (b == 13) = false := by simp at hb; simp; exact hb.1
      simp only [linesP, h10, h13, Bool.and_false, Bool.or_self, Bool.false_eq_true, if_false]
      rw [lines_none r f (a + 1) hr]
      simp only [List.length_cons, List.cons.injEq, Prod.mk.injEq, and_true, true_and]
      omega

theorem lines_hit : ∀ (l : List UInt8) (f a k : Nat), indexAny l [13, 10] = (k : Int) → k < l.length ∧
    linesP l false f a = (f, a + k) :: (if hasPrefix (l.drop k) [13, 10] then linesP (l.drop (k + 2)) false (a + k + 2) (a + k + 2) else linesP (l.drop (k + 1)) false (a + k + 1) (a + k + 1))
  | [], f, a, k, h => by simp [indexAny] at h
  | b :: r, f, a, k, h => by
    unfold indexAny at h
    by_cases hb : ([13, 10] : List UInt8).contains b = true
    · rw [if_pos hb] at h
      obtain rfl : k = 0 := by omega
      refine ⟨by simp, ?_⟩
      have hor : (b == 10 || b == 13) = true := by simp at hb; simp; exact hb.symm
      simp only [linesP, Bool.false_and, Bool.false_eq_true, if_false, hor, if_true, List.drop_zero, Nat.add_zero, Nat.zero_add, List.cons.injEq, true_and]
      by_cases h13 : b = 13
      · subst h13
        cases r with
        | nil => rfl
        | cons c t =>
          by_cases h10 : c = 10
          · subst h10
            rfl
          · have hp : hasPrefix (13 :: c :: t) [13, 10] = false := by
              simp [hasPrefix, List.isPrefixOf]
              exact fun e => h10 e.symm
            rw [hp, if_neg (by simp)]
            exact linesP_cr _ _ _ (fun r' e => h10 (by injection e))
      · have hp : hasPrefix (b :: r) [13, 10] = false := by
          simp [hasPrefix, List.isPrefixOf]
          exact fun e => absurd e.symm h13
        rw [hp, if_neg (by simp), show (b == 13) = false by simp [h13]]
        rfl
    · rw [if_neg hb] at h
      have h10 : (b == 10) = false := by simp at hb; simp; exact hb.2
      have h13 : (b == 13) = false := by simp at hb; simp; exact hb.1
      split at h
      · omega
      · rename_i e2
        have e3 : indexAny r [13, 10] ≠ -1 := fun e => by simp [e] at e2
        have e4 := indexAny_ge [13, 10] r
        obtain ⟨j, rfl⟩ : ∃ j, k = j + 1 := ⟨k - 1, by omega⟩
        obtain ⟨hj, he⟩ := lines_hit r f (a + 1) j (by omega)
        refine ⟨by simp; omega, ?_⟩
        simp only [linesP, h10, h13, Bool.and_false, Bool.or_self, Bool.false_eq_true, if_false]
        rw [he]
        simp only [List.drop_succ_cons, show a + 1 + j = a + (j + 1) by omega]

theorem linesP_in : ∀ (l : List UInt8) (cr : Bool) (f a : Nat), f ≤ a → ∀ x ∈ linesP l cr f a, x.1 ≤ x.2 ∧ x.2 ≤ a + l.length
  | [], cr, f, a, h, x, hx => by
    simp [linesP] at hx
    subst hx
    simp [h]
  | b :: r, cr, f, a, h, x, hx => by
    simp only [linesP] at hx
    split at hx
    · have := linesP_in r false (a + 1) (a + 1) (Nat.le_refl _) x hx
      simp; omega
    · split at hx
      · simp only [List.mem_cons] at hx
        rcases hx with rfl | hx
        · simp [h]
        · have := linesP_in r _ (a + 1) (a + 1) (Nat.le_refl _) x hx
          simp; omega
      · have := linesP_in r false f (a + 1) (by omega) x hx
        simp; omega
theorem linesP_length : ∀ (l : List UInt8) (cr : Bool) (f a : Nat), (linesP l cr f a).length ≤ l.length + 1
  | [], _, _, _ => by simp [linesP]
  | b :: r, cr, f, a => by
    simp only [linesP]
    split
    · have := linesP_length r false (a + 1) (a + 1); simp; omega
    · split
      · have := linesP_length r (b == 13) (a + 1) (a + 1); simp; omega
      · have := linesP_length r false f (a + 1); simp; omega
end Go.Proofs.Utf
/- W4: emend/utf.units, Byte (the Lines seat's texts with other numbers: printed by port.py). -/
namespace Go.Proofs.YtaiaiiepbpbmmaaGreatDoor
open Go.RowKit Go.Proofs.Utf Go.Lib

theorem units_any (n : Int) (w : World) :
    Calls Tryz.prog 172 #[.int .i32 n] w fun e w' => e = .returned (.int .i64 (if 65535 < n then 2 else 1)) ∧ w' = w := by
  go_enter Tryz.func172, Tryz.ntmps172
  go_wp2
  all_goals go_ret
  all_goals simp [*]
theorem units_nat (r : Nat) (w : World) : Calls Tryz.prog 172 #[.int .i32 r] w fun e w' => e = .returned (.int .i64 (wt r)) ∧ w' = w := by
  refine (units_any r w).mono ?_
  rintro e w' ⟨rfl, rfl⟩
  refine ⟨?_, rfl⟩
  unfold wt
  by_cases h : 65535 < r
  · rw [if_pos h, if_pos (by omega)]; rfl
  · rw [if_neg h, if_neg (by omega)]; rfl

theorem ret_nat {a b : Nat} (h : a = b) : Ending.returned (.int .i64 (a : Int)) = .returned (.int .i64 (b : Int)) := by rw [h]
theorem ret_int {a b : Int} (h : a = b) : Ending.returned (.int .i64 a) = .returned (.int .i64 b) := by rw [h]
theorem below_iter (w : World) (s : ByteArray) (pos : Nat) : Below w.heap.size w (w.iter s pos) := (Below.refl _ _).alloc (Nat.le_refl _) _
set_option maxHeartbeats 400000 in
theorem utfByte_any (s : ByteArray) (want : Int) (w : World) (hs : s.size ≤ 140737488355328) :
    Calls Tryz.prog 115 #[.string s, .int .i64 want] w fun e w' => e = .returned (.int .i64 (byteP (pieces s.data.toList) 0 0 want)) ∧ Below w.heap.size w w' := by
  go_enter Tryz.func115, Tryz.ntmps115
  go_wp2
  go_loopw [5] (fun n w' => ∃ (pos acc : Nat), w' = w.iter s pos ∧ n = .int .i64 acc ∧ byteP (from_ s pos) pos acc want = byteP (pieces s.data.toList) 0 0 want ∧ acc ≤ pos ∧ pos ≤ s.size) (fun _ w' => s.size - w'.iterPos w.heap.size)
  case atStart => exact ⟨0, 0, rfl, rfl, by simp [from_], Nat.le_refl _, Nat.zero_le _⟩
  case round =>
    obtain ⟨pos, acc, rfl, rfl, hc, ha, hp0⟩ := hrel
    have HC := Lib.hid hc
    clear hc
    by_cases hp : pos < s.size
    · have hnx : ∀ ty, (Instr.next (.pointer (some ⟨w.heap.size, 0, none⟩)) true ty).run Tryz.prog (w.iter s pos) = _ := fun ty => run_next_any w s pos ty hp
      have hle := dec_le s pos hp
      have hpos := dec_pos s pos
      have hwt := dec_wt s pos
      have HF := Lib.hid (from_step s pos hp)
      by_cases hg : want < (acc : Int) + (wt (Utf8.decode s pos).1 : Int)
      · go_wp2_with (go_at_call 172; refine (units_nat _ _).mono ?_; rintro e w' ⟨rfl, rfl⟩)
        go_ret
        refine ⟨?_, below_iter _ _ _⟩
        have := HC.out
        rw [HF.out] at this
        simp only [byteP] at this
        rw [if_pos (by omega)] at this
        exact ret_nat this
      · go_wp2_with (go_at_call 172; refine (units_nat _ _).mono ?_; rintro e w' ⟨rfl, rfl⟩)
        go_roundw
        case rel =>
          refine ⟨_, acc + wt (Utf8.decode s pos).1, rfl, by go_num, ?_, by omega, hle⟩
          have := HC.out
          rw [HF.out] at this
          simp only [byteP] at this
          rw [if_neg (by omega)] at this
          exact this
        case measure =>
          simp
          omega
    · have hnx : ∀ ty, (Instr.next (.pointer (some ⟨w.heap.size, 0, none⟩)) true ty).run Tryz.prog (w.iter s pos) = _ := fun ty => run_next_end w s pos ty hp
      obtain rfl : pos = s.size := by omega
      go_wp2
      go_ret
      refine ⟨?_, below_iter _ _ _⟩
      have := HC.out
      rw [from_end s s.size hp] at this
      simp only [byteP] at this
      exact ret_nat this
end Go.Proofs.YtaiaiiepbpbmmaaGreatDoor
/- W6: emend/utf.UnitsAt. -/
namespace Go.Proofs.YtaiaiiepbpbmmaaGreatDoor
open Go.RowKit Go.Proofs.Utf Go.Lib

set_option maxHeartbeats 400000 in
theorem utfUnitsAt_any (s : ByteArray) (a : Int) (w : World) (hs : s.size ≤ 140737488355328) :
    Calls Tryz.prog 117 #[.string s, .int .i64 a] w fun e w' => e = .returned (.int .i64 (uaP (pieces s.data.toList) 0 0 0 a)) ∧ Below w.heap.size w w' := by
  go_enter Tryz.func117, Tryz.ntmps117
  go_wp2
  go_loopw [4, 5] (fun n last w' => ∃ (pos acc la : Nat), w' = w.iter s pos ∧ n = .int .i64 acc ∧ last = .int .i64 la ∧ uaP (from_ s pos) pos acc la a = uaP (pieces s.data.toList) 0 0 0 a ∧ acc ≤ pos ∧ la ≤ acc ∧ pos ≤ s.size) (fun _ _ w' => s.size - w'.iterPos w.heap.size)
  case atStart => exact ⟨0, 0, 0, rfl, rfl, rfl, by simp [from_], Nat.le_refl _, Nat.le_refl _, Nat.zero_le _⟩
  case round =>
    obtain ⟨pos, acc, la, rfl, rfl, rfl, hc, ha, hla, hp0⟩ := hrel
    have HC := Lib.hid hc
    clear hc
    by_cases hp : pos < s.size
    · have hnx : ∀ ty, (Instr.next (.pointer (some ⟨w.heap.size, 0, none⟩)) true ty).run Tryz.prog (w.iter s pos) = _ := fun ty => run_next_any w s pos ty hp
      have hle := dec_le s pos hp
      have hpos := dec_pos s pos
      have hwt := dec_wt s pos
      have HF := Lib.hid (from_step s pos hp)
      by_cases hg : a < (pos : Int)
      · go_wp2
        go_ret
        refine ⟨?_, below_iter _ _ _⟩
        have := HC.out
        rw [HF.out] at this
        simp only [uaP] at this
        rw [if_pos hg] at this
        exact ret_int (by rw [← this]; omega)
      by_cases he : (pos : Int) = a
      · have HE := Lib.hid he
        have he2 : ((pos : Int) == a) = true := by simpa using he
        clear he
        go_wp2
        go_ret
        refine ⟨?_, below_iter _ _ _⟩
        have := HC.out
        rw [HF.out] at this
        simp only [uaP] at this
        rw [if_neg (by omega), if_pos HE.out] at this
        exact ret_nat this
      · have he2 : ((pos : Int) == a) = false := by simpa using he
        go_wp2_with (go_at_call 172; refine (units_nat _ _).mono ?_; rintro e w' ⟨rfl, rfl⟩)
        go_roundw
        case rel =>
          refine ⟨_, acc + wt (Utf8.decode s pos).1, _, rfl, by go_num, rfl, ?_, by omega, by omega, hle⟩
          have := HC.out
          rw [HF.out] at this
          simp only [uaP] at this
          rw [if_neg (by omega), if_neg he] at this
          exact this
        case measure =>
          simp
          omega
    · have hnx : ∀ ty, (Instr.next (.pointer (some ⟨w.heap.size, 0, none⟩)) true ty).run Tryz.prog (w.iter s pos) = _ := fun ty => run_next_end w s pos ty hp
      obtain rfl : pos = s.size := by omega
      have H := HC.out
      rw [from_end s s.size hp] at H
      simp only [uaP] at H
      by_cases hg : a < (s.size : Int)
      · rw [if_pos hg] at H
        have HH := Lib.hid H
        clear H
        go_wp2
        go_ret
        refine ⟨?_, below_iter _ _ _⟩
        exact ret_int (by rw [← HH.out]; omega)
      · rw [if_neg hg] at H
        have HH := Lib.hid H
        clear H
        go_wp2
        go_ret
        refine ⟨?_, below_iter _ _ _⟩
        exact ret_nat HH.out
end Go.Proofs.YtaiaiiepbpbmmaaGreatDoor
/- X1: strings.IndexRune and strings.IndexAny at the two bytes 13, 10, whatever the text. -/
namespace Go.Proofs.YtaiaiiepbpbmmaaGreatDoor
open Go.RowKit Go.Proofs.Utf Go.Lib

theorem below_draws {w wr : World} (hB : Below w.heap.size w wr) (n : Nat) : Below w.heap.size w (wr.drewN n) := by
  induction n with
  | zero => exact hB
  | succ n ih => exact ih.drew
theorem below_drewN (w : World) (n : Nat) : Below w.heap.size w (w.drewN n) := by
  have := Below.refl w.heap.size w
  induction n with
  | zero => exact this
  | succ n ih => exact ih.drew
def crlf : ByteArray := ⟨#[13, 10]⟩
theorem dec_big (l : List UInt8) (h0 : 1 ≤ l.length) (hb : 128 ≤ (l.getD 0 0).toNat) :
    128 ≤ (decodeL l).1 ∧ IsPoint (decodeL l).1 ∧ ∀ j, j < (decodeL l).2 → 128 ≤ (l.getD j 0).toNat := by
  have hit : ∀ k, 1 ≤ k → k ≤ 4 → k ≤ l.length → Hit l k → 128 ≤ (decodeL l).1 ∧ IsPoint (decodeL l).1 ∧ ∀ j, j < (decodeL l).2 → 128 ≤ (l.getD j 0).toNat := by
    intro k h1 h4 hl hh
    rw [found l k h1 h4 hl hh]
    have hlen : (encodeRune (candL l k)).length = k := by rw [hh.2, List.length_take]; omega
    rcases (show k = 1 ∨ k = 2 ∨ k = 3 ∨ k = 4 by omega) with rfl | rfl | rfl | rfl
    · have := (Hit1 l hl).1 hh
      omega
    · have h2 := (Hit2 l hl).1 hh
      refine ⟨?_, hh.1, ?_⟩
      · rcases len_cases _ hh.1 with hc | hc | hc | hc <;> omega
      · intro j hj
        rcases (show j = 0 ∨ j = 1 by omega) with rfl | rfl <;> omega
    · have h2 := (Hit3 l hl).1 hh
      refine ⟨?_, hh.1, ?_⟩
      · rcases len_cases _ hh.1 with hc | hc | hc | hc <;> omega
      · intro j hj
        rcases (show j = 0 ∨ j = 1 ∨ j = 2 by omega) with rfl | rfl | rfl <;> omega
    · have h2 := (Hit4 l hl).1 hh
      refine ⟨?_, hh.1, ?_⟩
      · rcases len_cases _ hh.1 with hc | hc | hc | hc <;> omega
      · intro j hj
        rcases (show j = 0 ∨ j = 1 ∨ j = 2 ∨ j = 3 by omega) with rfl | rfl | rfl | rfl <;> omega
  by_cases hex : ∃ k, 1 ≤ k ∧ k ≤ 4 ∧ k ≤ l.length ∧ Hit l k
  · obtain ⟨k, h1, h4, hl, hh⟩ := hex
    exact hit k h1 h4 hl hh
  · rw [missed l h0 (fun k h1 h4 hl hh => hex ⟨k, h1, h4, hl, hh⟩)]
    refine ⟨by decide, by unfold IsPoint; decide, fun j hj => ?_⟩
    obtain rfl : j = 0 := by omega
    exact hb
theorem valid_of {r : Int} (h : IsPoint r) : Utf8.valid r = true := by
  unfold IsPoint at h
  unfold Utf8.valid
  simp
  omega
theorem validRune_of {r : Int} (h : IsPoint r) : Lib.validRune r = true := by
  unfold IsPoint at h
  unfold Lib.validRune
  simp
  omega

set_option maxHeartbeats 8000000 in
set_option maxRecDepth 1000000 in
theorem rune_bad (w : World) : Calls Tryz.prog 216 #[.string crlf, .int .i32 65533] w fun e w' => e = .returned (.int .i64 (-1)) ∧ Below w.heap.size w w' := by
  unfold crlf
  have n0 : ∀ ty, (Instr.next (.pointer (some ⟨w.heap.size, 0, none⟩)) true ty).run Tryz.prog (w.iter ⟨#[13, 10]⟩ 0) = _ := fun ty => run_next_ascii w ⟨#[13, 10]⟩ 0 ty (by decide) (by decide)
  have n1 : ∀ ty, (Instr.next (.pointer (some ⟨w.heap.size, 0, none⟩)) true ty).run Tryz.prog (w.iter ⟨#[13, 10]⟩ 1) = _ := fun ty => run_next_ascii w ⟨#[13, 10]⟩ 1 ty (by decide) (by decide)
  have n2 : ∀ ty, (Instr.next (.pointer (some ⟨w.heap.size, 0, none⟩)) true ty).run Tryz.prog (w.iter ⟨#[13, 10]⟩ 2) = _ := fun ty => run_next_end w ⟨#[13, 10]⟩ 2 ty (by decide)
  simp at n0 n1 n2
  go_enter Tryz.func216, Tryz.ntmps216
  go_wp2
  refine wp_loop_rounds 3 ?_
  rw [rounds_succ]
  go_wp2
  rw [rounds_succ]
  go_wp2
  rw [rounds_succ]
  go_wp2
  go_ret
  exact ⟨rfl, below_iter _ _ _⟩
set_option maxHeartbeats 8000000 in
set_option maxRecDepth 1000000 in
theorem rune_big (r : Int) (w : World) (h : 128 ≤ r) (hp : IsPoint r) (h3 : r ≠ 65533) : Calls Tryz.prog 216 #[.string crlf, .int .i32 r] w fun e w' => e = .returned (.int .i64 (-1)) ∧ Below w.heap.size w w' := by
  have hr : r ≤ 1114111 := hp.2.1
  have hv := validRune_of hp
  have hd := encode_facts r (valid_of hp) h
  obtain ⟨x, hx⟩ : ∃ x, Utf8.encode r = x := ⟨_, rfl⟩
  rw [hx] at hd
  obtain ⟨h2, h4, hl⟩ := hd
  have hcv : ∀ w' : World, (convert 21 9 (.int .i32 r)).run Tryz.prog w' = .ok (.string x) w' := fun w' => by rw [← hx]; exact run_convert_int_string w' 21 9 .i32 r (by kernel_rfl) Tryz.underlying9
  clear hx
  unfold crlf
  by_cases hsz : x.size = 2
  · have hb := hl (by omega)
    obtain ⟨a, b, rfl⟩ : ∃ a b : UInt8, x = ⟨#[a, b]⟩ := by
      obtain ⟨⟨l⟩⟩ := x
      match l, hsz with
      | [a, b], _ => exact ⟨a, b, rfl⟩
    have hb' : 128 ≤ b.toNat := hb
    have hne : ((((⟨#[13, 10]⟩ : ByteArray)[1]'(by decide)).toNat : Int) != (((⟨#[a, b]⟩ : ByteArray)[1]'(by show 1 < 2; omega)).toNat : Int)) = true := by
      show ((10 : Int) != (b.toNat : Int)) = true
      simp
      omega
    have hix : indexByte [] ((⟨#[a, b]⟩ : ByteArray)[1]'(by show 1 < 2; omega)) < 0 := by show (-1 : Int) < 0; decide
    clear hb hl h2 h4
    go_enter Tryz.func216, Tryz.ntmps216
    go_wp2_with (go_at_call 241; refine (Tryz.utf8_ValidRune _ _).mono ?_; rintro e w' ⟨rfl, rfl⟩; rw [hv])
    refine wp_scope_straight ?_
    go_wp2
    refine wp_loop_rounds 1 ?_
    rw [rounds_succ]
    go_wp2
    refine wp_scope_straight ?_
    go_wp2
    go_quiet (fail)
    go_wp2
    obtain ⟨w1, hw1⟩ : ∃ w1, w'.drewN nq = w1 := ⟨_, rfl⟩
    have hB : Below w'.heap.size w' w1 := by rw [← hw1]; exact below_drewN _ _
    rw [hw1]
    clear hw1
    go_quiet ((go_at_call 162; exact Calls.quiet_of_same (Tryz.strings_IndexByte _ _ _)))
    go_wp2
    dsimp only [Exit.noGoto, Exit.inBlock, Exit.then]
    go_ret
    exact ⟨rfl, hB.trans (below_draws (Below.refl _ _) _ |>.mono hB.size)⟩
  · go_enter Tryz.func216, Tryz.ntmps216
    go_wp2_with (go_at_call 241; refine (Tryz.utf8_ValidRune _ _).mono ?_; rintro e w' ⟨rfl, rfl⟩; rw [hv])
    refine wp_scope_straight ?_
    go_wp2
    refine wp_loop_rounds 1 ?_
    rw [rounds_succ]
    go_wp2
    all_goals dsimp only [Exit.noGoto, Exit.inBlock]
    all_goals go_ret
    all_goals exact ⟨rfl, Below.refl _ _⟩
end Go.Proofs.YtaiaiiepbpbmmaaGreatDoor
/- X2: strings.IndexAny at the two bytes 13, 10: the first place of either, in any text. -/
namespace Go.Proofs.YtaiaiiepbpbmmaaGreatDoor
open Go.RowKit Go.Proofs.Utf Go.Lib

theorem next_in {P : Program} (W : World) (b : Nat) (s : ByteArray) (pos : Nat) (ty : TypeId) (hb : W.heap[b]? = some (.stringIter s pos)) (h : pos < s.size) :
    (Instr.next (.pointer (some ⟨b, 0, none⟩)) true ty).run P W = .ok (.tuple #[.bool true, .int .i64 pos, .int .i32 (Utf8.decode s pos).1]) (W.putObj b (.stringIter s (pos + (Utf8.decode s pos).2))) := by
  simp only [Instr.next, getObj, setObj, Sem.run_bind, Sem.run, hb, Result.andThen, h, if_true]
  simp [goInt]
  rfl
theorem next_out {P : Program} (W : World) (b : Nat) (s : ByteArray) (pos : Nat) (ty : TypeId) (hb : W.heap[b]? = some (.stringIter s pos)) (h : ¬ pos < s.size) :
    (Instr.next (.pointer (some ⟨b, 0, none⟩)) true ty).run P W = .ok (.tuple #[.bool false]) W := by
  simp [Instr.next, getObj, Sem.run, hb, h]
theorem below_put {n : Nat} {a W : World} {b : Nat} {o o' : Obj} (h : Below n a W) (hb : W.heap[b]? = some o) (hn : n ≤ b) : Below n a (W.putObj b o') :=
  h.grown (grownBy_putObj' W b o') (Nat.le_trans hn (by have := (Array.getElem?_eq_some_iff.1 hb).1; omega)) (fun k e => by cases e; exact hn)
theorem rune_any (r : Int) (w : World) (h : 128 ≤ r) (hp : IsPoint r) : Calls Tryz.prog 216 #[.string crlf, .int .i32 r] w fun e w' => e = .returned (.int .i64 (-1)) ∧ Below w.heap.size w w' := by
  by_cases e : r = 65533
  · subst e; exact rune_bad w
  · exact rune_big r w h hp e
theorem iter_new (w : World) (s : ByteArray) (pos : Nat) : (w.iter s pos).heap[w.heap.size]? = some (.stringIter s pos) := World.iter_heap w s pos
theorem heap_kept {wr w1 : World} {b : Nat} {o : Obj} (h : wr.heap[b]? = some o) (hb : Below wr.heap.size wr w1) : w1.heap[b]? = some o := by
  rw [hb.block b (Array.getElem?_eq_some_iff.1 h).1, h]
theorem iterPos_of {w : World} {k : Nat} {s : ByteArray} {p : Nat} (h : w.heap[k]? = some (.stringIter s p)) : w.iterPos k = p := by simp [World.iterPos, h]

set_option maxHeartbeats 8000000 in
set_option maxRecDepth 1000000 in
theorem indexAny_short (s : ByteArray) (w : World) (h8 : s.size ≤ 8) : Calls Tryz.prog 174 #[.string s, .string crlf] w fun e w' => e = .returned (.int .i64 (indexAny s.data.toList [13, 10])) ∧ Below w.heap.size w w' := by
  have h8z : decide ((8 : Int) < (s.size : Int)) = false := decide_eq_false (by omega)
  unfold crlf
  go_enter Tryz.func174, Tryz.ntmps174
  go_wp2_with (go_at_call 217; refine (Tryz.strings_shouldUseASCIISet _ _).mono ?_; rintro e w' ⟨rfl, hw⟩; rw [hw, h8z])
  go_loopw [9, 10] (fun _ _ wx => ∃ i : Nat, wx.heap[w.heap.size]? = some (.stringIter s i) ∧ i ≤ s.size ∧ NoAny s.data.toList [13, 10] i ∧ Below w.heap.size w wx) (fun _ _ wx => s.size - wx.iterPos w.heap.size)
  case atStart => exact ⟨0, iter_new _ _ _, Nat.zero_le _, NoAny.zero _ _, below_iter _ _ _⟩
  case round =>
    obtain ⟨i, hit, hi, hno, hB⟩ := hrel
    have HN := Lib.hid hno
    clear hno
    by_cases hp : i < s.size
    · have hnx : ∀ ty, (Instr.next (.pointer (some ⟨w.heap.size, 0, none⟩)) true ty).run Tryz.prog wr = _ := fun ty => next_in wr _ s i ty hit hp
      obtain ⟨x, hx⟩ : ∃ x : UInt8, s[i]'hp = x := ⟨_, rfl⟩
      have hxl : s.data.toList[i]? = some x := by rw [← hx]; exact data_getElem? s i hp
      have hxd : (s.data.toList.drop i).getD 0 0 = x := by simp [hxl]
      have hle := dec_le s i hp
      have hpos := dec_pos s i
      have hBp := fun p => below_put (o' := .stringIter s p) hB hit (Nat.le_refl _)
      have hip : ∀ p, (wr.putObj w.heap.size (.stringIter s p)).heap[w.heap.size]? = some (.stringIter s p) := fun p => World.putObj_heap_same (Array.getElem?_eq_some_iff.1 hit).1
      by_cases hs : x.toNat < 128
      · have hdec : Utf8.decode s i = (x.toNat, 1) := by rw [decode_ascii s i hp (by rw [hx]; exact hs), hx]
        rw [hdec] at hnx
        have hcon := contains_iff_indexByte [13, 10] x
        have hback : ((x.toNat : Int)).toNat.toUInt8 = x := by simp
        cases hin : ([13, 10] : List UInt8).contains x
        · rw [hin] at hcon
          have hlt : ¬ ((0 : Int) ≤ indexByte [13, 10] x) := of_decide_eq_false hcon.symm
          clear hcon
          go_wp2_with (go_at_call 216; refine (Tryz.strings_IndexRune_ascii _ _ _ (by omega) (by omega)).mono ?_; rintro e w' ⟨rfl, hw⟩; rw [hw, hback])
          go_roundw
          case rel => exact ⟨i + 1, hip _, by omega, HN.out.succ hxl hin, hBp _⟩
          case measure => rw [iterPos_of hit, iterPos_of (hip _)]; omega
        · rw [hin] at hcon
          have hge : (0 : Int) ≤ indexByte [13, 10] x := of_decide_eq_true hcon.symm
          clear hcon
          go_wp2_with (go_at_call 216; refine (Tryz.strings_IndexRune_ascii _ _ _ (by omega) (by omega)).mono ?_; rintro e w' ⟨rfl, hw⟩; rw [hw, hback])
          go_ret
          exact ⟨by rw [indexAny_hit HN.out hxl hin]; rfl, hBp _⟩
      · have hbig := dec_big (s.data.toList.drop i) (by rw [List.length_drop, ← size_eq]; omega) (by rw [hxd]; omega)
        rw [decodeL_drop] at hbig
        obtain ⟨hb1, hb2, hb3⟩ := hbig
        have HB3 := Lib.hid hb3
        clear hb3
        go_wp2_with (go_at_call 216; refine (rune_any _ _ (by omega) hb2).mono ?_; rintro e w' ⟨rfl, hw⟩)
        go_roundw
        case rel =>
          refine ⟨i + (Utf8.decode s i).2, heap_kept (hip _) hw, hle, ?_, (hBp (i + (Utf8.decode s i).2)).trans (hw.mono (hBp (i + (Utf8.decode s i).2)).size)⟩
          intro j b hj hb
          by_cases hji : j < i
          · exact HN.out j b hji hb
          · have := HB3.out (j - i) (by omega)
            rw [List.getD_eq_getElem?_getD, List.getElem?_drop, show i + (j - i) = j by omega, hb] at this
            simp at this
            cases hc : ([13, 10] : List UInt8).contains b with
            | false => rfl
            | true => exfalso; simp at hc; rcases hc with rfl | rfl <;> simp at this
        case measure => rw [iterPos_of hit, iterPos_of (heap_kept (hip _) hw)]; omega
    · have hnx : ∀ ty, (Instr.next (.pointer (some ⟨w.heap.size, 0, none⟩)) true ty).run Tryz.prog wr = _ := fun ty => next_out wr _ s i ty hit hp
      go_wp2
      go_ret
      have he : i = s.size := by omega
      subst he
      exact ⟨by rw [indexAny_none (by rw [← size_eq]; exact HN.out)]; rfl, hB⟩
theorem zero71 : ∀ w, (zeroValue 205).run Tryz.prog w = .ok (.agg (Array.replicate 256 (.bool false))) w := (zero_of_info (by kernel_rfl : (Tryz.prog.info? 205).map (fun i => (i.zero, i.size)) = some (some (.agg (Array.replicate 256 (.bool false))), 256))).1
theorem indexAny_any (s : ByteArray) (w : World) (hs : s.size < 4294967281) : Calls Tryz.prog 174 #[.string s, .string crlf] w fun e w' => e = .returned (.int .i64 (indexAny s.data.toList [13, 10])) ∧ Below w.heap.size w w' := by
  by_cases h8 : s.size ≤ 8
  · exact indexAny_short s w h8
  · refine (Tryz.strings_IndexAny_long zero71 s crlf w (by decide) (by omega) hs (by decide) ?_).mono ?_
    · intro j b hb
      match j, hb with
      | 0, hb => cases hb; decide
      | 1, hb => cases hb; decide
      | j + 2, hb => simp [crlf] at hb
    · rintro e w' ⟨rfl, rfl⟩
      exact ⟨rfl, ((Below.refl _ w).alloc (Nat.le_refl _) _).alloc (by simp) _⟩
end Go.Proofs.YtaiaiiepbpbmmaaGreatDoor
/- X3: emend/lines.each: the iterator over a text's lines hands its caller's body each line in turn. -/
namespace Go.Proofs.YtaiaiiepbpbmmaaGreatDoor
open Go.RowKit Go.Shelf Go.Proofs.Utf Go.Lib

attribute [local go_sem] Oper.semAt_some

/-- a line of a text of n bytes: where it begins and ends -/
abbrev Ln (n : Nat) := { x : Nat × Nat // x.1 ≤ x.2 ∧ x.2 ≤ n }
abbrev Ln.encs {n : Nat} (x : Ln n) : Array Value := #[.int .i64 (x.1.1 : Int), .int .i64 (x.1.2 : Int)]
def lns (s : ByteArray) : List (Ln s.size) := (linesL s.data.toList).pmap Subtype.mk (fun x hx => by
  have := linesP_in s.data.toList false 0 0 (Nat.le_refl _) x hx
  rw [size_eq]
  omega)
theorem lns_val (s : ByteArray) : (lns s).map (·.1) = linesL s.data.toList := by
  unfold lns
  rw [List.map_pmap]
  exact List.pmap_eq_self.2 (fun _ _ => rfl)

set_option maxHeartbeats 1000000 in
theorem each_any (s : ByteArray) (w : World) :
    Calls Tryz.prog 116 #[.string s] w fun e w' => e = .returned (.func (.func 173) #[] #[.pointer (some ⟨w.heap.size, 0, none⟩)]) ∧ w' = w.alloc (.cells #[.string s] 9) := by
  go_enter Tryz.func116, Tryz.ntmps116
  go_wp2
  go_ret
  exact ⟨rfl, rfl⟩

/-- the box of the text keeps it -/
def Kp (Bs : Nat) (A B : World) : Prop := ∀ v, Boxed A Bs 9 v → Boxed B Bs 9 v
theorem Kp.refl (Bs : Nat) (A : World) : Kp Bs A A := fun _ h => h
theorem Kp.trans {Bs : Nat} {A B C : World} (h : Kp Bs A B) (k : Kp Bs B C) : Kp Bs A C := fun v hv => k v (h v hv)
theorem kp_b {Bs : Nat} (W : World) (l : Nat) (o o' : Obj) (h : W.heap[l]? = some o) (hc : o.isCells = false) : Kp Bs W (W.putObj l o') := fun v hv =>
  hv.kept (grownBy_putObj' W l o') (fun e => by cases e; rw [show W.heap[Bs]? = _ from hv] at h; cases h; cases hc)
theorem kp_below {Bs : Nat} {A B : World} (h : Below A.heap.size A B) : Kp Bs A B := fun _v hv => (h.block Bs hv.lt).trans hv
theorem grown_of {A C : World} (h : Below A.heap.size A C) : A.grownBy C none := ⟨h.os, h.tape, h.output, h.size, fun i hi _ => h.block i hi⟩
theorem cut_list (s : ByteArray) (a : Nat) : (s.extract a s.size).data.toList = s.data.toList.drop a := by
  have h1 : s.data.toList.length = s.size := by rw [← size_eq]
  simp [ByteArray.data_extract, List.take_of_length_le, h1]
theorem cut_size (s : ByteArray) (a : Nat) : (s.extract a s.size).size ≤ s.size := by
  simp
theorem cons_of {n : Nat} {rest : List (Ln n)} {y : Nat × Nat} {t : List (Nat × Nat)} (h : rest.map (·.1) = y :: t) : ∃ (x : Ln n) (rest' : List (Ln n)), rest = x :: rest' ∧ x.1 = y ∧ rest'.map (·.1) = t := by
  cases rest with
  | nil => simp at h
  | cons x r => exact ⟨x, r, rfl, (List.cons.inj h).1, (List.cons.inj h).2⟩
theorem prefix_two (l : List UInt8) (h : hasPrefix l [13, 10] = true) : 2 ≤ l.length := by
  match l, h with
  | [], h => simp [hasPrefix, List.isPrefixOf] at h
  | [x], h => simp [hasPrefix, List.isPrefixOf] at h
  | x :: y :: t, _ => simp
theorem lns_length (s : ByteArray) : (lns s).length ≤ s.size + 1 := by
  have h1 := linesP_length s.data.toList false 0 0
  have h2 := congrArg List.length (lns_val s)
  rw [List.length_map] at h2
  rw [h2, size_eq]
  exact h1

set_option maxRecDepth 1000000 in
set_option maxHeartbeats 8000000 in
theorem each1_in (s : ByteArray) (hs : s.size < 4294967281) (n l Bs : Nat) (hn : 1 ≤ n) (J Jx : List (Ln s.size) → World → Prop)
    (hY : ∀ pre x W, J pre W → pre.length < s.size + 1 → YieldAt Fence.wide (n - 1) Tryz.prog l (Ln.encs x) W fun e W' =>
      (e = .returned (.bool true) ∧ J (pre ++ [x]) W' ∧ Kp Bs W W') ∨ (e = .returned (.bool false) ∧ Jx (pre ++ [x]) W'))
    (W : World) (hBs : Boxed W Bs 9 (.string s)) (hJa : AbidesFrom W.heap.size J) (h0 : J [] W) :
    CallsIn Fence.wide n Tryz.prog 173 #[.func (.yield l) #[] #[], .pointer (some ⟨Bs, 0, none⟩)] W fun e W' => (∃ v, e = .returned v) ∧
      ((∃ ys, ys = lns s ∧ J ys W') ∨ (∃ pre, pre <+: lns s ∧ Jx pre W')) := by
  refine callsIn_of_wp Tryz.func173 rfl trivial ?_ rfl
  simp only [Tryz.ntmps173, List.size_toArray, List.length_cons, List.length_nil, Nat.reduceAdd, Nat.reduceSub, Array.replicate_succ, Array.replicate_zero, List.push_toArray, List.append_toArray, List.nil_append, List.cons_append]
  gi_wp2
  gi_loopw [3] (fun f wr => ∃ (pre rest : List (Ln s.size)) (a : Nat), f = .int .i64 a ∧ a ≤ s.size ∧ lns s = pre ++ rest ∧ rest.map (·.1) = linesP (s.data.toList.drop a) false a a ∧ J pre wr ∧ Boxed wr Bs 9 (.string s))
    (fun f _ => s.size + 1 - (RowKit.intOf f).toNat)
  case atStart => exact ⟨[], lns s, 0, rfl, Nat.zero_le _, rfl, lns_val s, h0, hBs⟩
  case round =>
    obtain ⟨pre, rest, a, rfl, ha, hl, hr, hJ, hB⟩ := hrel
    have hc := hB.cell
    have hlen : rest ≠ [] → pre.length < s.size + 1 := fun hne => by
      have h1 := lns_length s
      have h2 := congrArg List.length hl
      rw [List.length_append] at h2
      have := List.length_pos_iff.2 hne
      omega
    obtain ⟨k, hk⟩ : ∃ k, indexAny (s.data.toList.drop a) [13, 10] = k := ⟨_, rfl⟩
    have hnew : ∀ w1, Below wr.heap.size wr w1 → J pre w1 ∧ Boxed w1 Bs 9 (.string s) ∧ w1.cell? ⟨Bs, 0, none⟩ = some (.string s) := fun w1 hw1 =>
      have hb1 : Boxed w1 Bs 9 (.string s) := kp_below hw1 _ hB
      ⟨hJa pre wr w1 none hJ (grown_of hw1) (fun r e => by cases e), hb1, hb1.cell⟩
    by_cases hk0 : k < 0
    · have hkm : k = -1 := by have := indexAny_ge [13, 10] (s.data.toList.drop a); omega
      subst hkm
      have hone := lines_none _ a a hk
      rw [hone, List.length_drop, ← size_eq, show a + (s.size - a) = s.size by omega] at hr
      obtain ⟨x, rfl, hx⟩ : ∃ x : Ln s.size, rest = [x] ∧ x.1 = (a, s.size) := by
        match rest, hr with
        | [], hr => simp at hr
        | [x], hr => exact ⟨x, rfl, by simpa using hr⟩
        | x :: y :: t, hr => simp at hr
      have hxe : Ln.encs x = #[.int .i64 (a : Int), .int .i64 (s.size : Int)] := by simp [Ln.encs, hx]
      have hlen' := hlen (by simp)
      gi_wp2_with (refine ⟨trivial, ?_⟩; gi_at_call 174; refine (callsIn_wide.2 (indexAny_any _ _ (by have := cut_size s a; omega))).mono ?_; rintro e w1 ⟨rfl, hw1⟩; rw [cut_list, hk]; obtain ⟨hJ1, hB1, hc1⟩ := hnew w1 hw1; obtain ⟨fn, tmps, assign, body, hy, hR⟩ := hY pre x w1 hJ1 hlen'; rw [hxe] at hy)
      refine hR.mono ?_
      rintro e W3 (⟨rfl, hJ3, hk3⟩ | ⟨rfl, hJx3⟩)
      · gi_wp2
        refine bodyPost_ret (results_none rfl _ _ _) rfl ?_
        exact ⟨⟨_, rfl⟩, .inl ⟨_, hl.symm, hJ3⟩⟩
      · gi_wp2
        refine bodyPost_ret (results_none rfl _ _ _) rfl ?_
        exact ⟨⟨_, rfl⟩, .inr ⟨_, ⟨[], by rw [hl]; simp⟩, hJx3⟩⟩
    · obtain ⟨j, rfl⟩ : ∃ j : Nat, k = j := ⟨k.toNat, by omega⟩
      obtain ⟨hjl, he⟩ := lines_hit _ a a j hk
      rw [List.length_drop, ← size_eq] at hjl
      rw [he, List.drop_drop, List.drop_drop, List.drop_drop] at hr
      obtain ⟨x, rest', rfl, hx, hr'⟩ := cons_of hr
      have hxe : Ln.encs x = #[.int .i64 (a : Int), .int .i64 (a + j : Int)] := by simp [Ln.encs, hx]
      have hlen' := hlen (by simp)
      clear hr hlen
      gi_wp2_with (refine ⟨trivial, ?_⟩; gi_at_call 174; refine (callsIn_wide.2 (indexAny_any _ _ (by have := cut_size s a; omega))).mono ?_; rintro e w1 ⟨rfl, hw1⟩; rw [cut_list, hk]; obtain ⟨hJ1, hB1, hc1⟩ := hnew w1 hw1; obtain ⟨fn, tmps, assign, body, hy, hR⟩ := hY pre x w1 hJ1 hlen'; rw [hxe] at hy)
      refine hR.mono ?_
      rintro e W3 (⟨rfl, hJ3, hk3⟩ | ⟨rfl, hJx3⟩)
      · have hB3 := hk3 _ hB1
        have hc3 := hB3.cell
        obtain ⟨p, hp⟩ : ∃ p, hasPrefix (s.data.toList.drop (a + j)) [13, 10] = p := ⟨_, rfl⟩
        rw [hp] at hr'
        have hpx : hasPrefix (s.data.toList.drop (a + j)) (⟨#[13, 10]⟩ : ByteArray).data.toList = p := hp
        have hl' : lns s = (pre ++ [x]) ++ rest' := by rw [hl]; simp
        have haj : a + j < s.size := by omega
        cases p
        · gi_wp2_with (refine ⟨trivial, ?_⟩; gi_at_call 168; refine (callsIn_wide.2 (Tryz.strings_HasPrefix _ _ _)).mono ?_; rintro e w2 ⟨rfl, hw2⟩; rw [hw2, cut_list, hpx])
          go_roundw
          case rel => exact ⟨pre ++ [x], rest', a + j + 1, by go_num, haj, hl', hr', hJ3, hB3⟩
          case measure => simp [RowKit.intOf]; omega
        · have h2 := prefix_two _ hp
          rw [List.length_drop, ← size_eq] at h2
          gi_wp2_with (refine ⟨trivial, ?_⟩; gi_at_call 168; refine (callsIn_wide.2 (Tryz.strings_HasPrefix _ _ _)).mono ?_; rintro e w2 ⟨rfl, hw2⟩; rw [hw2, cut_list, hpx])
          go_roundw
          case rel => exact ⟨pre ++ [x], rest', a + j + 2, by go_num, by omega, hl', hr', hJ3, hB3⟩
          case measure => simp [RowKit.intOf]; omega
      · gi_wp2
        refine bodyPost_ret (results_none rfl _ _ _) rfl ?_
        exact ⟨⟨_, rfl⟩, .inr ⟨_, ⟨rest', by rw [hl]; simp⟩, hJx3⟩⟩
end Go.Proofs.YtaiaiiepbpbmmaaGreatDoor
/- X4: emend/lines.Count and emend/lines.Line. -/
namespace Go.Proofs.YtaiaiiepbpbmmaaGreatDoor
open Go.RowKit Go.Shelf Go.Proofs.Utf Go.Lib

attribute [local go_sem] Oper.semAt_some

theorem each_stops (s : ByteArray) (hs : s.size < 4294967281) (n : Nat) (hn : 1 ≤ n) (Bs : Nat) (w : World) (hc : Boxed w Bs 9 (.string s)) :
    SeqStopsK Fence.wide n Tryz.prog 173 #[.pointer (some ⟨Bs, 0, none⟩)] (Ln.encs (n := s.size)) (Kp Bs) (fun ys => ys = lns s) (fun pre => pre <+: lns s) (s.size + 1) w := fun l J Jx W hW hJ _ hY h0 =>
  each1_in s hs n l Bs hn J Jx hY W (kp_below hW _ hc) hJ h0

end Go.Proofs.YtaiaiiepbpbmmaaGreatDoor
/- X5: emend/lines.Line: the line of a number, or none. -/
namespace Go.Proofs.YtaiaiiepbpbmmaaGreatDoor
open Go.RowKit Go.Shelf Go.Proofs.Utf Go.Lib

attribute [local go_sem] Oper.semAt_some

theorem Bx.ok {W W' : World} {row : Option Nat} {B : Nat} {t : TypeId} {v : Value} (h : Boxed W B t v) (hg : W.grownBy W' row) (hr : ∀ r, row = some r → ∃ o : Obj, W.heap[r]? = some o ∧ o.isCells = false) : Boxed W' B t v :=
  h.kept hg (fun e => by obtain ⟨o, ho, hc⟩ := hr B e.symm; rw [show W.heap[B]? = _ from h] at ho; cases ho; cases hc)
theorem Bx.at {w : World} {B : Nat} (t : TypeId) (v : Value) (h : B = w.heap.size) : Boxed (w.alloc (.cells #[v] t)) B t v := by subst h; exact Boxed.new _ _ _
/-- the line of a number -/
def lineAt (l : List (Nat × Nat)) (n : Int) : Option (Nat × Nat) := if 0 ≤ n then l[n.toNat]? else none
def lineV : Option (Nat × Nat) → Value
  | some p => .tuple #[.int .i64 (p.1 : Int), .int .i64 (p.2 : Int), .bool true]
  | none => .tuple #[.int .i64 0, .int .i64 0, .bool false]

set_option maxRecDepth 100000 in
set_option maxHeartbeats 4000000 in
theorem line_any (s : ByteArray) (n : Int) (w : World) (hs : s.size < 4294967281) :
    Calls Tryz.prog 114 #[.string s, .int .i64 n] w fun e w' => e = .returned (lineV (lineAt (linesL s.data.toList) n)) ∧ Below w.heap.size w w' := by
  refine (callsIn_wide (n := 5)).1 ?_
  refine callsIn_of_wp_marks Tryz.func114 rfl trivial ?_ rfl
  simp only [Tryz.ntmps114, List.size_toArray, List.length_cons, List.length_nil, Nat.reduceAdd, Nat.reduceSub, Array.replicate_succ, Array.replicate_zero, List.push_toArray, List.append_toArray, List.nil_append, List.cons_append]
  gi_wp2_with (refine ⟨trivial, ?_⟩; gi_at_call 116; refine (callsIn_wide.2 (each_any _ _)).mono ?_; rintro e w' ⟨rfl, rfl⟩)
  obtain ⟨W0, hW0⟩ : ∃ W0, (((((w.alloc (.cells #[.int .i64 n] 3)).alloc (.cells #[.int .i64 0] 3)).alloc (.cells #[.int .i64 0] 3)).alloc (.cells #[.bool false] 4)).alloc (.cells #[.int .i64 0] 3)).alloc (.cells #[.string s] 9) = W0 := ⟨_, rfl⟩
  have hB0 : Below w.heap.size w W0 := by
    rw [← hW0]
    exact ((((((Below.refl _ w).alloc (Nat.le_refl _) _).alloc (by simp) _).alloc (by simp; omega) _).alloc (by simp; omega) _).alloc (by simp; omega) _).alloc (by simp; omega) _
  have b0 : Boxed W0 w.heap.size 3 (.int .i64 n) := by rw [← hW0]; exact (((((Bx.at 3 _ (by simp)).alloc _).alloc _).alloc _).alloc _).alloc _
  have b1 : Boxed W0 (w.heap.size + 1) 3 (.int .i64 0) := by rw [← hW0]; exact ((((Bx.at 3 _ (by simp)).alloc _).alloc _).alloc _).alloc _
  have b2 : Boxed W0 (w.heap.size + 2) 3 (.int .i64 0) := by rw [← hW0]; exact (((Bx.at 3 _ (by simp)).alloc _).alloc _).alloc _
  have b3 : Boxed W0 (w.heap.size + 3) 4 (.bool false) := by rw [← hW0]; exact ((Bx.at 4 _ (by simp)).alloc _).alloc _
  have b4 : Boxed W0 (w.heap.size + 4) 3 (.int .i64 0) := by rw [← hW0]; exact (Bx.at 3 _ (by simp)).alloc _
  have b5 : Boxed W0 (w.heap.size + 5) 9 (.string s) := by rw [← hW0]; exact Bx.at 9 _ (by simp)
  have hsz : W0.heap.size = w.heap.size + 6 := by rw [← hW0]; simp
  rw [hW0, show w.heap.size + 1 + 1 = w.heap.size + 2 from rfl, show w.heap.size + 2 + 1 = w.heap.size + 3 from rfl, show w.heap.size + 3 + 1 = w.heap.size + 4 from rfl, show w.heap.size + 4 + 1 = w.heap.size + 5 from rfl]
  clear hW0
  have hlen : (lns s).length = (linesL s.data.toList).length := by rw [← lns_val s, List.length_map]
  have hmax := lns_length s
  refine wpIn_rangeFunc_ownF rfl (by omega) (gf := 173) (lb := #[.pointer (some ⟨w.heap.size + 5, 0, none⟩)]) rfl trivial (enters_of Tryz.func173 (by kernel_rfl) rfl)
    (each_stops s hs _ (by omega) (w.heap.size + 5) _ b5) Kp.trans (fun W l o o' _ hl ho _ => kp_b W l o o' hl ho) (Below.refl _ _) (fun _ => rfl)
    (fun pre W => (¬ (0 ≤ n ∧ n < pre.length) ∧ Boxed W w.heap.size 3 (.int .i64 n) ∧ Boxed W (w.heap.size + 1) 3 (.int .i64 0) ∧ Boxed W (w.heap.size + 2) 3 (.int .i64 0) ∧ Boxed W (w.heap.size + 3) 4 (.bool false) ∧ Boxed W (w.heap.size + 4) 3 (.int .i64 (pre.length : Int))) ∧ Below w.heap.size w W)
    (fun c pre W => (c = .ret ∧ ∃ (q : List (Ln s.size)) (x : Ln s.size), pre = q ++ [x] ∧ n = q.length ∧ Boxed W (w.heap.size + 1) 3 (.int .i64 (x.1.1 : Int)) ∧ Boxed W (w.heap.size + 2) 3 (.int .i64 (x.1.2 : Int)) ∧ Boxed W (w.heap.size + 3) 4 (.bool true)) ∧ Below w.heap.size w W)
    (OwnFrom.and (Own.from (fun pre A B row hs hg hr => ⟨hs.1, Bx.ok hs.2.1 hg hr, Bx.ok hs.2.2.1 hg hr, Bx.ok hs.2.2.2.1 hg hr, Bx.ok hs.2.2.2.2.1 hg hr, Bx.ok hs.2.2.2.2.2 hg hr⟩) _) (ownFrom_below (Nat.le_refl _) (by omega)))
    (fun c => OwnFrom.and (Own.from (fun pre A B row hs hg hr => by obtain ⟨hc, q, x, h1, h2, h3, h4, h5⟩ := hs; exact ⟨hc, q, x, h1, h2, Bx.ok h3 hg hr, Bx.ok h4 hg hr, Bx.ok h5 hg hr⟩) _) (ownFrom_below (Nat.le_refl _) (by omega)))
    ⟨⟨by simp, b0, b1, b2, b3, b4⟩, hB0⟩
    (fun x => { tmps := #[.string s, .int .i64 n, undef, .pointer (some ⟨w.heap.size, 0, none⟩), .pointer (some ⟨w.heap.size + 1, 0, none⟩), .pointer (some ⟨w.heap.size + 2, 0, none⟩), .pointer (some ⟨w.heap.size + 3, 0, none⟩), .pointer (some ⟨w.heap.size + 4, 0, none⟩), .int .i64 (x.1.1 : Int), .int .i64 (x.1.2 : Int), .string s, .func (.func 173) #[] #[.pointer (some ⟨w.heap.size + 5, 0, none⟩)], .int .i64 (x.1.1 : Int), .int .i64 (x.1.2 : Int), undef, undef, undef, undef, undef, undef, undef], defers := [] }) ?assign ?body ?done ?stop
  case assign =>
    intro l x W K hK
    gi_wp2
    exact hK
  case body =>
    rintro l pre x W ⟨⟨hn, h0, h1, h2, h3, h4⟩, hB⟩ hlt
    have c0 := h0.cell; have c4 := h4.cell; have f4 := h4.frozen; have f1 := h1.frozen; have c1 := h1.cell; have f2 := h2.frozen; have c2 := h2.cell; have f3 := h3.frozen; have c3 := h3.cell
    by_cases hkn : (pre.length : Int) = n
    · have hbq : ((pre.length : Int) == n) = true := beq_iff_eq.2 hkn
      gi_wp2
      exact ⟨((KeepsOthers.setCell _ _ _).trans (KeepsOthers.setCell _ _ _)).trans (KeepsOthers.setCell _ _ _),
        ⟨rfl, pre, x, rfl, hkn.symm, ((h1.set _).other (by omega) _).other (by omega) _, ((h2.other (by omega) _).set _).other (by omega) _, ((h3.other (by omega) _).other (by omega) _).set _⟩,
        ((hB.setCell (p := ⟨w.heap.size + 1, 0, none⟩) (by simp) _).setCell (p := ⟨w.heap.size + 2, 0, none⟩) (by simp) _).setCell (p := ⟨w.heap.size + 3, 0, none⟩) (by simp) _⟩
    · have hbq : ((pre.length : Int) == n) = false := beq_eq_false_iff_ne.2 hkn
      gi_wp2
      refine ⟨KeepsOthers.setCell _ _ _, fun v hv => hv.other (by omega) _, ⟨?_, h0.other (by omega) _, h1.other (by omega) _, h2.other (by omega) _, h3.other (by omega) _, ?_⟩, hB.setCell (p := ⟨w.heap.size + 4, 0, none⟩) (by simp) _⟩
      · rw [List.length_append, List.length_singleton]
        omega
      · rw [List.length_append, List.length_singleton]
        exact h4.set _
  case done =>
    rintro D ys W hD rfl ⟨⟨hn, h0, h1, h2, h3, h4⟩, hB⟩ hK
    have f1 := h1.frozen; have c1 := h1.cell; have f2 := h2.frozen; have c2 := h2.cell; have f3 := h3.frozen; have c3 := h3.cell
    gi_wp2
    have hnone : lineAt (linesL s.data.toList) n = none := by
      unfold lineAt
      split
      · exact List.getElem?_eq_none (by omega)
      · rfl
    rw [hnone]
    have k3 := ((KeepsOthers.setCell W ⟨w.heap.size + 1, 0, none⟩ (.int .i64 0)).trans (KeepsOthers.setCell _ ⟨w.heap.size + 2, 0, none⟩ (.int .i64 0))).trans (KeepsOthers.setCell _ ⟨w.heap.size + 3, 0, none⟩ (.bool false))
    have hK' := k3.same D _ hK rfl
    refine ⟨by simp, .inl ⟨_, _, rfl, run_takeDeferred hK', ?_⟩⟩
    have r1 := cell_kept ((((h1.set (.int .i64 0)).other (B' := w.heap.size + 2) (by omega) (.int .i64 0)).other (B' := w.heap.size + 3) (by omega) (.bool false))).cell (grownBy_putObj' _ D (.deferred none)) (fun r e => by cases e; exact ⟨_, hK', rfl⟩)
    have r2 := cell_kept ((((h2.other (B' := w.heap.size + 1) (by omega) (.int .i64 0)).set (.int .i64 0)).other (B' := w.heap.size + 3) (by omega) (.bool false))).cell (grownBy_putObj' _ D (.deferred none)) (fun r e => by cases e; exact ⟨_, hK', rfl⟩)
    have r3 := cell_kept ((((h3.other (B' := w.heap.size + 1) (by omega) (.int .i64 0)).other (B' := w.heap.size + 2) (by omega) (.int .i64 0)).set (.bool false))).cell (grownBy_putObj' _ D (.deferred none)) (fun r e => by cases e; exact ⟨_, hK', rfl⟩)
    have hB3 := ((hB.setCell (p := ⟨w.heap.size + 1, 0, none⟩) (by simp) (.int .i64 0)).setCell (p := ⟨w.heap.size + 2, 0, none⟩) (by simp) (.int .i64 0)).setCell (p := ⟨w.heap.size + 3, 0, none⟩) (by simp) (.bool false)
    refine ⟨_, ?_, rfl, hB3.trans (belowK_b (w := w) (Nat.le_refl _) _ D _ _ (by omega) hK' rfl rfl)⟩
    simp [results, Tryz.f114, go_sem, r1, r2, r3]
    rfl
  case stop =>
    rintro D c pre W hD hpre ⟨⟨rfl, q, x, rfl, hn, h1, h2, h3⟩, hB⟩ hK
    gi_wp2
    have hsome : lineAt (linesL s.data.toList) n = some x.1 := by
      obtain ⟨r, hr⟩ := hpre
      unfold lineAt
      rw [if_pos (by omega), ← lns_val s, ← hr, hn]
      simp
    rw [hsome]
    refine ⟨by simp, .inl ⟨_, _, rfl, run_takeDeferred hK, ?_⟩⟩
    have r1 := cell_kept h1.cell (grownBy_putObj' _ D (.deferred none)) (fun r e => by cases e; exact ⟨_, hK, rfl⟩)
    have r2 := cell_kept h2.cell (grownBy_putObj' _ D (.deferred none)) (fun r e => by cases e; exact ⟨_, hK, rfl⟩)
    have r3 := cell_kept h3.cell (grownBy_putObj' _ D (.deferred none)) (fun r e => by cases e; exact ⟨_, hK, rfl⟩)
    refine ⟨_, ?_, rfl, hB.trans (belowK_b (w := w) (Nat.le_refl _) W D _ _ (by omega) hK rfl rfl)⟩
    simp [results, Tryz.f114, go_sem, r1, r2, r3]
    rfl
end Go.Proofs.YtaiaiiepbpbmmaaGreatDoor
/- X0: A region that draws its order, in a round of a loop over an iterator: the plain law of held loads serves there too. -/
namespace Go.Proofs.YtaiaiiepbpbmmaaGreatDoor
open Go.RowKit

theorem opIn_of {l n : Nat} {P : Program} {o : Oper} {a : Act} {w : World} {K : Act → World → Prop} {Q : Exit → Act → World → Prop} (hd : ∀ c, o.op ≠ .defer c) (h : o.wp P a w K Q) : o.wpIn (Fence.wide.inRound l) n P a w K Q := by
  refine ⟨fun _ _ => trivial, ?_⟩
  rw [Oper.semAt_eq _ _ _ hd]
  unfold Oper.wp at h
  generalize (execOp a.eval o).run P w = r at *
  cases r with
  | ok x w' =>
    cases x <;> simp only [Oper.upon, Oper.uponIn] at h ⊢
    case enter => exact ⟨fun h => by simp [Fence.inRound, Fence.wide] at h, CallsIn.inRound l (callsIn_wide.2 h)⟩
    case row => exact ⟨fun h => by simp [Fence.inRound, Fence.wide] at h, fun c cs _ => let ⟨v, w', r, s⟩ := h c cs; ⟨v, w', r, stepsIn_wide.2 s⟩⟩
    all_goals first | exact h | exact h.elim
  | halt x w' => cases x <;> first | exact h | exact h.elim
def NoDefer (ops : Array Oper) : Prop := ∀ (j : Nat) (o : Oper), ops[j]? = some o → ∀ c, o.op ≠ .defer c
def noDefer? (ops : Array Oper) : Bool := ops.all fun o => match o.op with | .defer _ => false | _ => true
theorem noDefer_of {ops : Array Oper} (h : noDefer? ops = true) : NoDefer ops := fun j o hj c hc => by
  unfold noDefer? at h
  rw [Array.all_eq_true] at h
  obtain ⟨hlt, he⟩ := Array.getElem?_eq_some_iff.1 hj
  have := h j hlt
  rw [he, hc] at this
  simp at this
theorem anyIn_of {l n : Nat} {P : Program} {md : Region.Mode} {ops : Array Oper} {Q : Exit → Act → World → Prop} (hd : NoDefer ops) (hQ : ¬ LetsOut Q) :
    ∀ (fuel : Nat) (listed : Array Bool) (a : Act) (w : World), wpAny P md ops Q fuel listed a w → wpAnyIn (Fence.wide.inRound l) n P md ops Q fuel listed a w
  | 0, _, _, _, h => h
  | fuel + 1, listed, a, w, h => ⟨h.1, fun i hi => by
      have h2 := h.2 i hi
      unfold wpOp at h2
      unfold wpOpIn
      cases ho : ops[i]? with
      | none => rw [ho] at h2; exact anyIn_of hd hQ fuel _ _ _ h2
      | some o =>
        rw [ho] at h2
        simp only at h2 ⊢
        split
        · next hw =>
          rw [if_pos hw] at h2
          rcases h2 with h2 | ⟨_, h2⟩
          · exact Oper.wpIn_mono (fun a w => anyIn_of hd hQ fuel _ a w) (opIn_of (hd i o ho) h2)
          · exact (hQ h2).elim
        · next hw =>
          rw [if_neg hw] at h2
          exact ⟨fun _ _ => trivial, anyIn_of hd hQ fuel _ _ _ h2⟩⟩
theorem region_round {l n id : Nat} {P : Program} {ops : Array Oper} {Q : Exit → Act → World → Prop} {S : World → Prop} {a : Act} {w : World} (hm : P.follows .mixedOrders = true) (hd : NoDefer ops) (hQ : ¬ LetsOut Q)
    (h : wpAnyH P .any ops Q S ops.size (Array.replicate ops.size false) a w.drew) : (Code.region id ops true).wpIn (Fence.wide.inRound l) n P Q a w :=
  wpIn_region_any hm (anyIn_of hd hQ _ _ _ _ (wpAny_of_held _ _ _ _ h))
end Go.Proofs.YtaiaiiepbpbmmaaGreatDoor
/- X6: emend/lines.At: the Pos of a place. -/
namespace Go.Proofs.YtaiaiiepbpbmmaaGreatDoor
open Go.RowKit Go.Shelf Go.Proofs.Utf Go.Lib

attribute [local go_sem] Oper.semAt_some

/-- a block of two ints -/
def Two (W : World) (B : Nat) (t : TypeId) (a b : Int) : Prop := W.heap[B]? = some (.cells #[.int .i64 a, .int .i64 b] t (0, 0))
theorem Two.lt {W : World} {B : Nat} {t : TypeId} {a b : Int} (h : Two W B t a b) : B < W.heap.size := (Array.getElem?_eq_some_iff.1 h).1
theorem Two.c0 {W : World} {B : Nat} {t : TypeId} {a b : Int} (h : Two W B t a b) : W.cell? ⟨B, 0, none⟩ = some (.int .i64 a) := by simp [World.cell?, show W.heap[B]? = _ from h]
theorem Two.c1 {W : World} {B : Nat} {t : TypeId} {a b : Int} (h : Two W B t a b) : W.cell? ⟨B, 1, none⟩ = some (.int .i64 b) := by simp [World.cell?, show W.heap[B]? = _ from h]
theorem Two.f0 {W : World} {B : Nat} {t : TypeId} {a b : Int} (h : Two W B t a b) : W.frozen? ⟨B, 0, none⟩ = false := by simp [World.frozen?, show W.heap[B]? = _ from h]
theorem Two.f1 {W : World} {B : Nat} {t : TypeId} {a b : Int} (h : Two W B t a b) : W.frozen? ⟨B, 1, none⟩ = false := by simp [World.frozen?, show W.heap[B]? = _ from h]
theorem Two.kept {W W' : World} {row : Option Nat} {B : Nat} {t : TypeId} {a b : Int} (h : Two W B t a b) (hg : W.grownBy W' row) (hne : some B ≠ row) : Two W' B t a b := (hg.block B h.lt hne).trans h
theorem Two.alloc {W : World} {B : Nat} {t : TypeId} {a b : Int} (h : Two W B t a b) (o : Obj) : Two (W.alloc o) B t a b := h.kept (World.grownBy_alloc W o none) (by simp)
theorem Two.at {w : World} {B : Nat} (t : TypeId) (a b : Int) (h : B = w.heap.size) : Two (w.alloc (.cells #[.int .i64 a, .int .i64 b] t)) B t a b := by subst h; exact World.alloc_heap_new w _
theorem Two.ok {W W' : World} {row : Option Nat} {B : Nat} {t : TypeId} {a b : Int} (h : Two W B t a b) (hg : W.grownBy W' row) (hr : ∀ r, row = some r → ∃ o : Obj, W.heap[r]? = some o ∧ o.isCells = false) : Two W' B t a b :=
  h.kept hg (fun e => by obtain ⟨o, ho, hc⟩ := hr B e.symm; rw [show W.heap[B]? = _ from h] at ho; cases ho; cases hc)
theorem Two.other {W : World} {B B' : Nat} {t : TypeId} {a b : Int} (h : Two W B t a b) (hne : B ≠ B') (j : Nat) (u : Value) : Two (W.setCell ⟨B', j, none⟩ u) B t a b := by
  unfold Two
  rw [Below.heap_setCell _ _ _ B hne]
  exact h
theorem Two.set0 {W : World} {B : Nat} {t : TypeId} {a b : Int} (h : Two W B t a b) (a' : Int) : Two (W.setCell ⟨B, 0, none⟩ (.int .i64 a')) B t a' b := by
  obtain ⟨hlt, hk⟩ := Array.getElem?_eq_some_iff.1 h
  show (W.heap.modify B _)[B]? = _
  rw [Array.getElem?_eq_getElem (by rw [Array.size_modify]; exact hlt), Array.getElem_modify_self, hk]
  rfl
theorem Two.set1 {W : World} {B : Nat} {t : TypeId} {a b : Int} (h : Two W B t a b) (b' : Int) : Two (W.setCell ⟨B, 1, none⟩ (.int .i64 b')) B t a b' := by
  obtain ⟨hlt, hk⟩ := Array.getElem?_eq_some_iff.1 h
  show (W.heap.modify B _)[B]? = _
  rw [Array.getElem?_eq_getElem (by rw [Array.size_modify]; exact hlt), Array.getElem_modify_self, hk]
  rfl
theorem Two.set {W : World} {B : Nat} {t : TypeId} {a b : Int} (h : Two W B t a b) (a' b' : Int) : Two ((W.setCell ⟨B, 0, none⟩ (.int .i64 a')).setCell ⟨B, 1, none⟩ (.int .i64 b')) B t a' b' := (h.set0 a').set1 b'
theorem Bx.far {W : World} {B B' : Nat} {t : TypeId} {v : Value} (h : Boxed W B t v) (hne : B ≠ B') (j : Nat) (u : Value) : Boxed (W.setCell ⟨B', j, none⟩ u) B t v := by
  unfold Boxed
  rw [Below.heap_setCell _ _ _ B hne]
  exact h
/-- the units of a line's head, up to a place -/
def uaL (s : ByteArray) (x : Nat × Nat) (p : Nat) : Nat := uaP (pieces (s.extract x.1 x.2).data.toList) 0 0 0 ((p : Int) - x.1)
/-- the Pos behind the lines pre -/
def posOf (s : ByteArray) (p : Nat) (pre : List (Nat × Nat)) : Int × Int := match pre.getLast? with
  | none => (0, 0)
  | some x => ((pre.length : Int) - 1, uaL s x p)
def clamp (n : Int) (m : Nat) : Nat := if n < 0 then 0 else if m < n.toNat then m else n.toNat

theorem tw_all {α : Type} (f : α → Bool) : ∀ (l : List α), (∀ y ∈ l, f y = true) → l.takeWhile f = l
  | [], _ => rfl
  | y :: r, h => by rw [List.takeWhile_cons, if_pos (h y (by simp)), tw_all f r (fun z hz => h z (by simp [hz]))]
theorem tw_some {α : Type} (f : α → Bool) : ∀ (l : List α) (x : α) (r : List α), (∀ y ∈ l, f y = true) → f x = false → (l ++ x :: r).takeWhile f = l
  | [], x, r, _, hx => by rw [List.nil_append, List.takeWhile_cons, if_neg (by simp [hx])]
  | y :: l, x, r, h, hx => by rw [List.cons_append, List.takeWhile_cons, if_pos (h y (by simp)), tw_some f l x r (fun z hz => h z (by simp [hz])) hx]
def R8 (s : ByteArray) (n : Int) (x : Ln s.size) (p : Nat) (W : World) (h : Nat) (k u : Int) : Exit → Act → World → Prop
  | .normal, a', w' => ∃ (w1 : World) (v1 v2 v3 v4 v5 v6 v7 v8 v9 v10 : Value), Below W.heap.size W w1 ∧ w' = (w1.setCell ⟨h + 3, 0, none⟩ (.int .i64 k)).setCell ⟨h + 3, 1, none⟩ (.int .i64 u) ∧
      a' = { tmps := #[.string s, .int .i64 n, .pointer (some ⟨h, 0, none⟩), .pointer (some ⟨h + 1, 0, none⟩), .pointer (some ⟨h + 2, 0, none⟩), .pointer (some ⟨h + 3, 0, none⟩), .pointer (some ⟨h + 4, 0, none⟩), .int .i64 (x.1.1 : Int), .int .i64 (x.1.2 : Int), .int .i64 n, .string s, .int .i64 (s.size : Int), .int .i64 (min n (s.size : Int)), .int .i64 (p : Int), .string s, .func (.func 173) #[] #[.pointer (some ⟨h + 5, 0, none⟩)], .int .i64 (x.1.1 : Int), .int .i64 (x.1.2 : Int), .int .i64 (x.1.1 : Int), .int .i64 (p : Int), .bool false, v1, v2, v3, v4, v5, v6, v7, v8, v9, v10, undef, undef, undef], defers := [] }
  | _, _, _ => False
def S8 (s : ByteArray) (p h : Nat) (k : Int) (w' : World) : Prop := w'.cell? ⟨h, 0, none⟩ = some (.string s) ∧ w'.cell? ⟨h + 1, 0, none⟩ = some (.int .i64 p) ∧ w'.cell? ⟨h + 4, 0, none⟩ = some (.int .i64 k)
def AtX (s : ByteArray) (p h : Nat) (c : Code) (pre : List (Ln s.size)) (W : World) : Prop :=
  c = .exit 0 ∧ ∃ (q : List (Ln s.size)) (x : Ln s.size), pre = q ++ [x] ∧ (∀ y ∈ q, y.1.1 ≤ p) ∧ p < x.1.1 ∧ Two W (h + 2) 40 0 0 ∧ Two W (h + 3) 40 (posOf s p (q.map (·.1))).1 (posOf s p (q.map (·.1))).2
set_option maxRecDepth 100000 in
set_option maxHeartbeats 1600000 in
theorem at_any (s : ByteArray) (n : Int) (w : World) (hs : s.size < 4294967281) :
    Calls Tryz.prog 60 #[.string s, .int .i64 n] w fun e w' => e = .returned (.agg #[.int .i64 (posOf s (clamp n s.size) ((linesL s.data.toList).takeWhile (fun x => decide (x.1 ≤ clamp n s.size)))).1, .int .i64 (posOf s (clamp n s.size) ((linesL s.data.toList).takeWhile (fun x => decide (x.1 ≤ clamp n s.size)))).2]) ∧ Below w.heap.size w w' := by
  obtain ⟨p, hp⟩ : ∃ p, clamp n s.size = p := ⟨_, rfl⟩
  have hmm : max (0 : Int) (min n (s.size : Int)) = (p : Int) := by rw [← hp]; unfold clamp; split <;> (try split) <;> omega
  have hple : p ≤ s.size := by rw [← hp]; unfold clamp; split <;> (try split) <;> omega
  rw [hp]
  refine (callsIn_wide (n := 5)).1 ?_
  refine callsIn_of_wp_marks Tryz.func60 rfl trivial ?_ rfl
  simp only [Tryz.ntmps60, List.size_toArray, List.length_cons, List.length_nil, Nat.reduceAdd, Nat.reduceSub, Array.replicate_succ, Array.replicate_zero, List.push_toArray, List.append_toArray, List.nil_append, List.cons_append]
  gi_wp2_with (refine ⟨trivial, ?_⟩; gi_at_call 116; refine (callsIn_wide.2 (each_any _ _)).mono ?_; rintro e w' ⟨rfl, rfl⟩)
  obtain ⟨W0, hW0⟩ : ∃ W0, (((((w.alloc (.cells #[.string s] 9)).alloc (.cells #[.int .i64 p] 3)).alloc (.cells #[.int .i64 0, .int .i64 0] 40)).alloc (.cells #[.int .i64 0, .int .i64 0] 40)).alloc (.cells #[.int .i64 0] 3)).alloc (.cells #[.string s] 9) = W0 := ⟨_, rfl⟩
  have hB0 : Below w.heap.size w W0 := by
    rw [← hW0]
    exact ((((((Below.refl _ w).alloc (Nat.le_refl _) _).alloc (by simp) _).alloc (by simp; omega) _).alloc (by simp; omega) _).alloc (by simp; omega) _).alloc (by simp; omega) _
  have b0 : Boxed W0 w.heap.size 9 (.string s) := by rw [← hW0]; exact (((((Bx.at 9 _ (by simp)).alloc _).alloc _).alloc _).alloc _).alloc _
  have b1 : Boxed W0 (w.heap.size + 1) 3 (.int .i64 p) := by rw [← hW0]; exact ((((Bx.at 3 _ (by simp)).alloc _).alloc _).alloc _).alloc _
  have b2 : Two W0 (w.heap.size + 2) 40 0 0 := by rw [← hW0]; exact (((Two.at 40 _ _ (by simp)).alloc _).alloc _).alloc _
  have b3 : Two W0 (w.heap.size + 3) 40 0 0 := by rw [← hW0]; exact ((Two.at 40 _ _ (by simp)).alloc _).alloc _
  have b4 : Boxed W0 (w.heap.size + 4) 3 (.int .i64 0) := by rw [← hW0]; exact (Bx.at 3 _ (by simp)).alloc _
  have b5 : Boxed W0 (w.heap.size + 5) 9 (.string s) := by rw [← hW0]; exact Bx.at 9 _ (by simp)
  have hsz : W0.heap.size = w.heap.size + 6 := by rw [← hW0]; simp
  rw [hW0, show w.heap.size + 1 + 1 = w.heap.size + 2 from rfl, show w.heap.size + 2 + 1 = w.heap.size + 3 from rfl, show w.heap.size + 3 + 1 = w.heap.size + 4 from rfl, show w.heap.size + 4 + 1 = w.heap.size + 5 from rfl]
  clear hW0
  have hmax := lns_length s
  refine wpIn_rangeFunc_ownF rfl (by omega) (gf := 173) (lb := #[.pointer (some ⟨w.heap.size + 5, 0, none⟩)]) rfl trivial (enters_of Tryz.func173 (by kernel_rfl) rfl)
    (each_stops s hs _ (by omega) (w.heap.size + 5) _ b5) Kp.trans (fun W l o o' _ hl ho _ => kp_b W l o o' hl ho) (Below.refl _ _) (fun _ => rfl)
    (fun pre W => ((∀ x ∈ pre, x.1.1 ≤ p) ∧ Boxed W w.heap.size 9 (.string s) ∧ Boxed W (w.heap.size + 1) 3 (.int .i64 p) ∧ Two W (w.heap.size + 2) 40 0 0 ∧ Two W (w.heap.size + 3) 40 (posOf s p (pre.map (·.1))).1 (posOf s p (pre.map (·.1))).2 ∧ Boxed W (w.heap.size + 4) 3 (.int .i64 (pre.length : Int))) ∧ Below w.heap.size w W)
    (fun c pre W => AtX s p w.heap.size c pre W ∧ Below w.heap.size w W)
    (OwnFrom.and (Own.from (fun pre A B row hs hg hr => ⟨hs.1, Bx.ok hs.2.1 hg hr, Bx.ok hs.2.2.1 hg hr, Two.ok hs.2.2.2.1 hg hr, Two.ok hs.2.2.2.2.1 hg hr, Bx.ok hs.2.2.2.2.2 hg hr⟩) _) (ownFrom_below (Nat.le_refl _) (by omega)))
    (fun c => OwnFrom.and (Own.from (fun pre A B row hs hg hr => by obtain ⟨hc, q, x, h1, h2, h3, h4, h5⟩ := hs; exact ⟨hc, q, x, h1, h2, h3, Two.ok h4 hg hr, Two.ok h5 hg hr⟩) _) (ownFrom_below (Nat.le_refl _) (by omega)))
    ⟨⟨by simp, b0, b1, b2, b3, b4⟩, hB0⟩
    (fun x => { tmps := #[.string s, .int .i64 n, .pointer (some ⟨w.heap.size, 0, none⟩), .pointer (some ⟨w.heap.size + 1, 0, none⟩), .pointer (some ⟨w.heap.size + 2, 0, none⟩), .pointer (some ⟨w.heap.size + 3, 0, none⟩), .pointer (some ⟨w.heap.size + 4, 0, none⟩), .int .i64 (x.1.1 : Int), .int .i64 (x.1.2 : Int), .int .i64 n, .string s, .int .i64 (s.size : Int), .int .i64 (min n (s.size : Int)), .int .i64 (p : Int), .string s, .func (.func 173) #[] #[.pointer (some ⟨w.heap.size + 5, 0, none⟩)], .int .i64 (x.1.1 : Int), .int .i64 (x.1.2 : Int), undef, undef, undef, undef, undef, undef, undef, undef, undef, undef, undef, undef, undef, undef, undef, undef], defers := [] }) ?assign ?body ?done ?stop
  case assign =>
    intro l x W K hK
    gi_wp2
    exact hK
  case body =>
    rintro l pre x W ⟨⟨hle, h0, h1, h2, h3, h4⟩, hB⟩ hlt
    have c0 := h0.cell; have c1 := h1.cell; have c4 := h4.cell; have f4 := h4.frozen; have f3 := h3.f0; have g3 := h3.f1; have c3 := h3.c0; have d3 := h3.c1
    have hx := x.2
    by_cases hgt : p < x.1.1
    · have hbq : (p : Int) < (x.1.1 : Int) := by omega
      gi_wp2
      exact ⟨KeepsOthers.refl _, ⟨rfl, pre, x, rfl, hle, hgt, h2, h3⟩, hB⟩
    · have hbq : ¬ (p : Int) < (x.1.1 : Int) := by omega
      have hmx : Tryz.prog.follows .mixedOrders = true := by kernel_rfl
      have hwr : IntKind.i64.wrap ((p : Int) - (x.1.1 : Int)) = (p : Int) - (x.1.1 : Int) := IntWalk.i64_in _ (by omega)
      have hcut : (s.extract x.1.1 x.1.2).size ≤ 140737488355328 := by simp; omega
      gi_wp2
      refine wpIn_mono (Q := R8 s n x p W w.heap.size (pre.length : Int) (uaL s x.1 p : Int)) ?_ ?_
      · clear hle hB hmax hB0 b0 b1 b2 b3 b4 b5 hsz hs hmm hp hlt
        obtain ⟨u, hu⟩ : ∃ u, uaP (pieces (s.extract x.1.1 x.1.2).data.toList) 0 0 0 ((p : Int) - (x.1.1 : Int)) = u := ⟨_, rfl⟩
        rw [show uaL s x.1 p = u from hu]
        have hS0 : S8 s p w.heap.size (pre.length : Int) W.drew := ⟨c0, c1, c4⟩
        refine region_round (S := S8 s p w.heap.size (pre.length : Int)) hmx (noDefer_of (by kernel_rfl)) (fun ⟨_, _, h⟩ => h) ?_
        refine wpAnyH_take (i := 0) (oi := { dst := some 21, op := Op.load 3 (Operand.tmp 6), type := 3, pos := "lines.go:75", after := #[], guard := none }) (v := ?_) rfl (by kernel_rfl) (by kernel_rfl) (by kernel_rfl) (fun _ _ _ h => h) (Or.inl ⟨by rfl, ?_⟩) (by assumption) ?_
        rotate_left
        · intro w hS; obtain ⟨c0, c1, c4⟩ := hS; go_simp; with_reducible rfl
        try simp only [Act.put, List.setIfInBounds_toArray, List.set_cons_zero, List.set_cons_succ]
        refine wpAnyH_take (i := 1) (oi := { dst := some 22, op := Op.load 9 (Operand.tmp 2), type := 9, pos := "lines.go:75", after := #[], guard := none }) (v := ?_) rfl (by kernel_rfl) (by kernel_rfl) (by kernel_rfl) (fun _ _ _ h => h) (Or.inl ⟨by rfl, ?_⟩) (by assumption) ?_
        rotate_left
        · intro w hS; obtain ⟨c0, c1, c4⟩ := hS; go_simp; with_reducible rfl
        try simp only [Act.put, List.setIfInBounds_toArray, List.set_cons_zero, List.set_cons_succ]
        refine wpAnyH_take (i := 2) (oi := { dst := some 23, op := Op.move (Operand.tmp 7), type := 3, pos := "lines.go:75", after := #[], guard := none }) (v := ?_) rfl (by kernel_rfl) (by kernel_rfl) (by kernel_rfl) (fun _ _ _ h => h) (Or.inl ⟨by rfl, ?_⟩) (by assumption) ?_
        rotate_left
        · intro w hS; obtain ⟨c0, c1, c4⟩ := hS; go_simp; with_reducible rfl
        try simp only [Act.put, List.setIfInBounds_toArray, List.set_cons_zero, List.set_cons_succ]
        refine wpAnyH_take (i := 3) (oi := { dst := some 24, op := Op.move (Operand.tmp 8), type := 3, pos := "lines.go:75", after := #[], guard := none }) (v := ?_) rfl (by kernel_rfl) (by kernel_rfl) (by kernel_rfl) (fun _ _ _ h => h) (Or.inl ⟨by rfl, ?_⟩) (by assumption) ?_
        rotate_left
        · intro w hS; obtain ⟨c0, c1, c4⟩ := hS; go_simp; with_reducible rfl
        try simp only [Act.put, List.setIfInBounds_toArray, List.set_cons_zero, List.set_cons_succ]
        refine wpAnyH_take (i := 4) (oi := { dst := some 25, op := Op.slice 9 (Operand.tmp 22) (some (Operand.tmp 23)) (some (Operand.tmp 24)) none, type := 9, pos := "lines.go:75", after := #[{ on := 1, ground := Ground.data }, { on := 2, ground := Ground.data }, { on := 3, ground := Ground.data }], guard := none }) (v := ?_) rfl (by kernel_rfl) (by kernel_rfl) (by kernel_rfl) (fun _ _ _ h => h) (Or.inl ⟨by rfl, ?_⟩) (by assumption) ?_
        rotate_left
        · intro w hS; obtain ⟨c0, c1, c4⟩ := hS; go_simp; with_reducible rfl
        try simp only [Act.put, List.setIfInBounds_toArray, List.set_cons_zero, List.set_cons_succ]
        refine wpAnyH_take (i := 5) (oi := { dst := some 26, op := Op.load 3 (Operand.tmp 3), type := 3, pos := "lines.go:75", after := #[], guard := none }) (v := ?_) rfl (by kernel_rfl) (by kernel_rfl) (by kernel_rfl) (fun _ _ _ h => h) (Or.inl ⟨by rfl, ?_⟩) (by assumption) ?_
        rotate_left
        · intro w hS; obtain ⟨c0, c1, c4⟩ := hS; go_simp; with_reducible rfl
        try simp only [Act.put, List.setIfInBounds_toArray, List.set_cons_zero, List.set_cons_succ]
        refine wpAnyH_take (i := 6) (oi := { dst := some 27, op := Op.move (Operand.tmp 7), type := 3, pos := "lines.go:75", after := #[], guard := none }) (v := ?_) rfl (by kernel_rfl) (by kernel_rfl) (by kernel_rfl) (fun _ _ _ h => h) (Or.inl ⟨by rfl, ?_⟩) (by assumption) ?_
        rotate_left
        · intro w hS; obtain ⟨c0, c1, c4⟩ := hS; go_simp; with_reducible rfl
        try simp only [Act.put, List.setIfInBounds_toArray, List.set_cons_zero, List.set_cons_succ]
        refine wpAnyH_take (i := 7) (oi := { dst := some 28, op := Op.binOp BinOp.sub 3 (Operand.tmp 26) (Operand.tmp 27) 3, type := 3, pos := "lines.go:75", after := #[{ on := 5, ground := Ground.data }, { on := 6, ground := Ground.data }], guard := none }) (v := ?_) rfl (by kernel_rfl) (by kernel_rfl) (by kernel_rfl) (fun _ _ _ h => h) (Or.inl ⟨by rfl, ?_⟩) (by assumption) ?_
        rotate_left
        · intro w hS; obtain ⟨c0, c1, c4⟩ := hS; go_simp; with_reducible rfl
        try simp only [Act.put, List.setIfInBounds_toArray, List.set_cons_zero, List.set_cons_succ]
        refine wpAnyH_ready (rs := [8]) (by kernel_rfl) (by simp) (AllReadyH.cons (o := { dst := some 29, op := Op.call { callee := Callee.value (Operand.func 117), args := #[Operand.tmp 25, Operand.tmp 28], argTypes := #[9, 3] }, type := 3, pos := "lines.go:75", after := #[{ on := 4, ground := Ground.data }, { on := 7, ground := Ground.data }], guard := none }) rfl (fun K hK => ?_) AllReadyH.nil)
        rw [if_pos (by rfl)]
        go_simp
        (refine (utfUnitsAt_any _ _ _ hcut).mono ?_; rintro e w1 ⟨rfl, hw1⟩; rw [hu]; have e0 := (hw1.cell (p := ⟨w.heap.size, 0, none⟩) h0.lt).trans c0; have e1 := (hw1.cell (p := ⟨w.heap.size + 1, 0, none⟩) h1.lt).trans c1; have e3 := (hw1.cell (p := ⟨w.heap.size + 3, 0, none⟩) h3.lt).trans c3; have l3 := (hw1.cell (p := ⟨w.heap.size + 3, 1, none⟩) h3.lt).trans d3; have e4 := (hw1.cell (p := ⟨w.heap.size + 4, 0, none⟩) h4.lt).trans c4; have k3 := (hw1.frozen (p := ⟨w.heap.size + 3, 0, none⟩) h3.lt).trans f3; have k5 := (hw1.frozen (p := ⟨w.heap.size + 3, 1, none⟩) h3.lt).trans g3)
        refine hK.out _ _ ⟨e0, e1, e4⟩ (fun hS2 => ?_)
        clear hK K
        try simp only [Act.put, List.setIfInBounds_toArray, List.set_cons_zero, List.set_cons_succ]
        refine wpAnyH_take (i := 9) (oi := { dst := some 30, op := Op.build 40 #[(0, Operand.tmp 21), (1, Operand.tmp 29)], type := 40, pos := "lines.go:75", after := #[{ on := 0, ground := Ground.data }, { on := 8, ground := Ground.data }], guard := none }) (v := ?_) rfl (by kernel_rfl) (by kernel_rfl) (by kernel_rfl) (fun _ _ _ h => h) (Or.inl ⟨by rfl, ?_⟩) (by assumption) ?_
        rotate_left
        · intro w hS; obtain ⟨c0, c1, c4⟩ := hS; go_simp; with_reducible rfl
        try simp only [Act.put, List.setIfInBounds_toArray, List.set_cons_zero, List.set_cons_succ]
        refine wpAnyH_ready (rs := [10]) (by kernel_rfl) (by simp) (AllReadyH.cons (o := { dst := none, op := Op.store 40 (Operand.tmp 5) (Operand.tmp 30), type := 0, pos := "lines.go:75", after := #[{ on := 9, ground := Ground.data }, { on := 8, ground := Ground.chain }, { on := 0, ground := Ground.phase }, { on := 1, ground := Ground.phase }, { on := 2, ground := Ground.phase }, { on := 3, ground := Ground.phase }, { on := 4, ground := Ground.phase }, { on := 5, ground := Ground.phase }, { on := 6, ground := Ground.phase }, { on := 7, ground := Ground.phase }, { on := 8, ground := Ground.phase }, { on := 9, ground := Ground.phase }], guard := none }) rfl (fun K hK => ?_) AllReadyH.nil)
        rw [if_pos (by rfl)]
        go_simp
        refine hK.out _ _ ⟨(by rw [World.cell?_setCell_far _ _ _ _ (by simp), World.cell?_setCell_far _ _ _ _ (by simp)]; exact e0), (by rw [World.cell?_setCell_far _ _ _ _ (by simp), World.cell?_setCell_far _ _ _ _ (by simp)]; exact e1), (by rw [World.cell?_setCell_far _ _ _ _ (by simp), World.cell?_setCell_far _ _ _ _ (by simp)]; exact e4)⟩ (fun hS3 => ?_)
        clear hK K
        try simp only [Act.put, List.setIfInBounds_toArray, List.set_cons_zero, List.set_cons_succ]
        refine wpAnyH_done (by kernel_rfl) ?_ _
        exact ⟨w1, _, _, _, _, _, _, _, _, _, _, (Below.refl _ W).drew.trans hw1, rfl, rfl⟩
      · rintro e a' w' hR
        cases e with
        | normal =>
          obtain ⟨w1, v1, v2, v3, v4, v5, v6, v7, v8, v9, v10, hw1, hw2, rfl⟩ := hR
          have kp1 : KeepsOthers W w1 := .of_grownBy (grown_of hw1) (fun j o e => by cases e)
          have h0' : Boxed w' w.heap.size 9 (.string s) := by rw [hw2]; exact (Bx.far (Bx.far ((hw1.block _ h0.lt).trans h0) (by omega) _ _) (by omega) _ _)
          have h1' : Boxed w' (w.heap.size + 1) 3 (.int .i64 p) := by rw [hw2]; exact (Bx.far (Bx.far ((hw1.block _ h1.lt).trans h1) (by omega) _ _) (by omega) _ _)
          have h2' : Two w' (w.heap.size + 2) 40 0 0 := by rw [hw2]; exact (Two.other (Two.other ((hw1.block _ h2.lt).trans h2) (by omega) _ _) (by omega) _ _)
          have h3' : Two w' (w.heap.size + 3) 40 (pre.length : Int) (uaL s x.1 p : Int) := by rw [hw2]; exact Two.set ((hw1.block _ h3.lt).trans h3) _ _
          have h4' : Boxed w' (w.heap.size + 4) 3 (.int .i64 (pre.length : Int)) := by rw [hw2]; exact (Bx.far (Bx.far ((hw1.block _ h4.lt).trans h4) (by omega) _ _) (by omega) _ _)
          have kp2 : KeepsOthers W w' := by rw [hw2]; exact (kp1.trans (KeepsOthers.setCell _ _ _)).trans (KeepsOthers.setCell _ _ _)
          have hB2 : Below w.heap.size w w' := by rw [hw2]; exact (((hB.trans (hw1.mono hB.size)).setCell (p := ⟨w.heap.size + 3, 0, none⟩) (by simp) _).setCell (p := ⟨w.heap.size + 3, 1, none⟩) (by simp) _)
          have hk2 : Kp (w.heap.size + 5) W w' := by rw [hw2]; exact fun v hv => (Bx.far (Bx.far (kp_below hw1 v hv) (by omega) _ _) (by omega) _ _)
          clear hw2 kp1 hw1 h0 h1 h2 h3 h4 c0 c1 c4 f4 f3 g3 c3 d3
          have c4 := h4'.cell; have f4 := h4'.frozen
          dsimp only
          gi_wp2
          refine ⟨kp2.trans (KeepsOthers.setCell _ _ _), hk2.trans (fun v hv => hv.other (by omega) _), ⟨?_, h0'.other (by omega) _, h1'.other (by omega) _, Two.other h2' (by omega) _ _, ?_, ?_⟩, hB2.setCell (p := ⟨w.heap.size + 4, 0, none⟩) (by simp) _⟩
          · intro y hy
            rcases List.mem_append.1 hy with hy | hy
            · exact hle y hy
            · rw [List.mem_singleton.1 hy]; omega
          · have hpo : posOf s p ((pre ++ [x]).map (·.1)) = ((pre.length : Int), (uaL s x.1 p : Int)) := by simp [posOf]
            rw [hpo]
            exact Two.other h3' (by omega) _ _
          · rw [List.length_append, List.length_singleton]
            exact h4'.set _
        | _ => exact hR.elim
  case done =>
    rintro D ys W hD rfl ⟨⟨hle, h0, h1, h2, h3, h4⟩, hB⟩ hK
    have htw : (linesL s.data.toList).takeWhile (fun x => decide (x.1 ≤ p)) = (lns s).map (·.1) := by
      rw [← lns_val s]
      exact tw_all _ _ (fun y hy => by obtain ⟨z, hz, rfl⟩ := List.mem_map.1 hy; exact decide_eq_true (hle z hz))
    have f2 := h2.f0; have g2 := h2.f1; have c3 := h3.c0; have d3 := h3.c1; have c2 := h2.c0; have d2 := h2.c1
    gi_wp2
    obtain ⟨ua, hua⟩ : ∃ ua, (posOf s p ((lns s).map (·.1))).1 = ua := ⟨_, rfl⟩
    obtain ⟨ub, hub⟩ : ∃ ub, (posOf s p ((lns s).map (·.1))).2 = ub := ⟨_, rfl⟩
    rw [hua, hub]
    have t2 := h2.set ua ub
    have hK' := ((KeepsOthers.setCell W ⟨w.heap.size + 2, 0, none⟩ (.int .i64 ua)).trans (KeepsOthers.setCell _ ⟨w.heap.size + 2, 1, none⟩ (.int .i64 ub))).same D _ hK rfl
    have r1 := cell_kept t2.c0 (grownBy_putObj' _ D (.deferred none)) (fun r e => by cases e; exact ⟨_, hK', rfl⟩)
    have r2 := cell_kept t2.c1 (grownBy_putObj' _ D (.deferred none)) (fun r e => by cases e; exact ⟨_, hK', rfl⟩)
    have hB3 := (hB.setCell (p := ⟨w.heap.size + 2, 0, none⟩) (by simp) (.int .i64 ua)).setCell (p := ⟨w.heap.size + 2, 1, none⟩) (by simp) (.int .i64 ub)
    refine ⟨by simp, .inl ⟨_, _, rfl, run_takeDeferred hK', ?_⟩⟩
    refine ⟨_, ?_, rfl, hB3.trans (belowK_b (w := w) (Nat.le_refl _) _ D _ _ (by omega) hK' rfl rfl)⟩
    simp [results, Tryz.f60, go_sem, r1, r2]
  case stop =>
    rintro D c pre W hD hpre ⟨⟨rfl, q, x, rfl, hle, hgt, h2, h3⟩, hB⟩ hK
    have htw : (linesL s.data.toList).takeWhile (fun x => decide (x.1 ≤ p)) = q.map (·.1) := by
      obtain ⟨r, hr⟩ := hpre
      rw [← lns_val s, ← hr, List.append_assoc, List.map_append]
      exact tw_some _ _ _ _ (fun y hy => by obtain ⟨z, hz, rfl⟩ := List.mem_map.1 hy; exact decide_eq_true (hle z hz)) (decide_eq_false (Nat.not_le.2 hgt))
    have f2 := h2.f0; have g2 := h2.f1; have c3 := h3.c0; have d3 := h3.c1; have c2 := h2.c0; have d2 := h2.c1
    gi_wp2
    obtain ⟨ua, hua⟩ : ∃ ua, (posOf s p (q.map (·.1))).1 = ua := ⟨_, rfl⟩
    obtain ⟨ub, hub⟩ : ∃ ub, (posOf s p (q.map (·.1))).2 = ub := ⟨_, rfl⟩
    rw [hua, hub]
    have t2 := h2.set ua ub
    have hK' := ((KeepsOthers.setCell W ⟨w.heap.size + 2, 0, none⟩ (.int .i64 ua)).trans (KeepsOthers.setCell _ ⟨w.heap.size + 2, 1, none⟩ (.int .i64 ub))).same D _ hK rfl
    have r1 := cell_kept t2.c0 (grownBy_putObj' _ D (.deferred none)) (fun r e => by cases e; exact ⟨_, hK', rfl⟩)
    have r2 := cell_kept t2.c1 (grownBy_putObj' _ D (.deferred none)) (fun r e => by cases e; exact ⟨_, hK', rfl⟩)
    have hB3 := (hB.setCell (p := ⟨w.heap.size + 2, 0, none⟩) (by simp) (.int .i64 ua)).setCell (p := ⟨w.heap.size + 2, 1, none⟩) (by simp) (.int .i64 ub)
    refine ⟨by simp, .inl ⟨_, _, rfl, run_takeDeferred hK', ?_⟩⟩
    refine ⟨_, ?_, rfl, hB3.trans (belowK_b (w := w) (Nat.le_refl _) _ D _ _ (by omega) hK' rfl rfl)⟩
    simp [results, Tryz.f60, go_sem, r1, r2]
end Go.Proofs.YtaiaiiepbpbmmaaGreatDoor
/- X7: emend/lines.Offset, Full, Cut; emendlaw06.three, long. -/
namespace Go.Proofs.YtaiaiiepbpbmmaaGreatDoor
open Go.RowKit Go.Proofs.Utf Go.Lib

attribute [local go_sem] Oper.semAt_some

theorem byteP_le : ∀ (t : List (Nat × Nat)) (pos acc : Nat) (want : Int), byteP t pos acc want ≤ pos + widthP t
  | [], pos, _, _ => by simp [byteP, widthP]
  | (w, r) :: t, pos, acc, want => by
    simp only [byteP, widthP]
    split
    · omega
    · have := byteP_le t (pos + w) (acc + wt r) want
      omega
/-- a line's text -/
def lineB (s : ByteArray) (x : Nat × Nat) : ByteArray := s.extract x.1 x.2
theorem lineB_size (s : ByteArray) (x : Nat × Nat) : (lineB s x).size = min x.2 s.size - x.1 := by simp [lineB]
theorem lineAt_in {s : ByteArray} {n : Int} {x : Nat × Nat} (h : lineAt (linesL s.data.toList) n = some x) : x.1 ≤ x.2 ∧ x.2 ≤ s.size := by
  unfold lineAt at h
  split at h
  · have := linesP_in s.data.toList false 0 0 (Nat.le_refl _) x (List.mem_of_getElem? h)
    rw [size_eq]
    omega
  · cases h
def offP (s : ByteArray) (a b : Int) : Int × Int :=
  if a < 0 ∨ b < 0 then (0, 2) else match lineAt (linesL s.data.toList) a with
  | none => ((s.size : Int), 0)
  | some x => ((x.1 : Int) + byteP (pieces (lineB s x).data.toList) 0 0 b, 0)

set_option maxRecDepth 100000 in
set_option maxHeartbeats 2000000 in
theorem offset_any (s : ByteArray) (a b : Int) (w : World) (hs : s.size < 4294967281) :
    Calls Tryz.prog 59 #[.string s, .agg #[.int .i64 a, .int .i64 b]] w fun e w' => e = .returned (.tuple #[.int .i64 (offP s a b).1, .int .i64 (offP s a b).2]) ∧ Below w.heap.size w w' := by
  by_cases ha : a < 0
  · have ho : offP s a b = (0, 2) := if_pos (.inl ha)
    rw [ho]
    go_enter Tryz.func59, Tryz.ntmps59
    go_wp2
    go_ret2
    exact ⟨rfl, (Below.refl _ _).alloc (Nat.le_refl _) _⟩
  by_cases hb : b < 0
  · have ho : offP s a b = (0, 2) := if_pos (.inr hb)
    rw [ho]
    go_enter Tryz.func59, Tryz.ntmps59
    go_wp2
    go_ret2
    exact ⟨rfl, (Below.refl _ _).alloc (Nat.le_refl _) _⟩
  have ho : offP s a b = match lineAt (linesL s.data.toList) a with
    | none => ((s.size : Int), 0)
    | some x => ((x.1 : Int) + byteP (pieces (lineB s x).data.toList) 0 0 b, 0) := if_neg (by omega)
  cases hl : lineAt (linesL s.data.toList) a with
  | none =>
    rw [hl] at ho
    dsimp only at ho
    rw [ho]
    go_enter Tryz.func59, Tryz.ntmps59
    go_wp2_with (go_at_call 114; refine (line_any _ _ _ hs).mono ?_; rintro e w1 ⟨rfl, hw1⟩; rw [hl]; simp only [lineV])
    go_ret2
    exact ⟨rfl, ((Below.refl _ w).alloc (Nat.le_refl _) _).trans (hw1.mono (by simp))⟩
  | some x =>
    rw [hl] at ho
    dsimp only at ho
    rw [ho]
    have hx := lineAt_in hl
    have hz := lineB_size s x
    have hby := byteP_le (pieces (lineB s x).data.toList) 0 0 b
    rw [widthP_pieces _ _ (Nat.le_refl _), ← size_eq, hz] at hby
    obtain ⟨y, hy⟩ : ∃ y, byteP (pieces (lineB s x).data.toList) 0 0 b = y := ⟨_, rfl⟩
    rw [hy] at hby ⊢
    have hwr : IntKind.i64.wrap ((x.1 : Int) + (y : Int)) = (x.1 : Int) + (y : Int) := IntWalk.i64_in _ (by omega)
    have hcell : ∀ w1, Below (w.alloc (.cells #[.int .i64 a, .int .i64 b] 40)).heap.size (w.alloc (.cells #[.int .i64 a, .int .i64 b] 40)) w1 → w1.cell? ⟨w.heap.size, 0, none⟩ = some (.int .i64 a) ∧ w1.cell? ⟨w.heap.size, 1, none⟩ = some (.int .i64 b) ∧ Below w.heap.size w w1 := fun w1 hw1 =>
      have t := (Two.at (w := w) 40 a b rfl)
      have t1 : Two w1 w.heap.size 40 a b := (hw1.block _ (by simp)).trans t
      ⟨t1.c0, t1.c1, ((Below.refl _ w).alloc (Nat.le_refl _) _).trans (hw1.mono (by simp))⟩
    go_enter Tryz.func59, Tryz.ntmps59
    go_wp2_with (go_at_call 114; refine (line_any _ _ _ hs).mono ?_; rintro e w1 ⟨rfl, hw1⟩; rw [hl]; simp only [lineV]; obtain ⟨c0, c1, hB1⟩ := hcell w1 hw1)
    go_region_held3 (fun w' => w'.cell? ⟨w.heap.size, 1, none⟩ = some (.int .i64 b)) (first | assumption | (simp; assumption)) ((go_at_call 115; refine (utfByte_any (lineB s x) b _ (by omega)).mono ?_; rintro e w2 ⟨rfl, hw2⟩; rw [hy]; have c2 := (hw2.cell (p := ⟨w.heap.size, 1, none⟩) (by have := hB1.size; have := hw1.size; simp at this ⊢; omega)).trans c1; have hB2 := hB1.drew.trans (hw2.mono hB1.size)))
    go_wp2
    go_ret2
    exact ⟨rfl, by assumption⟩
end Go.Proofs.YtaiaiiepbpbmmaaGreatDoor
