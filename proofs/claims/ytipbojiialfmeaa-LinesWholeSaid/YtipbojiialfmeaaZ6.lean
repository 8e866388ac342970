/- LinesWhole: the lines with their ends are the text. -/
import Derived.Test.YtipbojiialfmeaaZ2
import Derived.Test.YtipbojiialfmeaaLin2
namespace Go.Proofs.Ytipbojiialfmeaa
open Go.RowKit Go.Proofs.Utf Go.Lib

theorem any_take : ∀ (l : List UInt8) (k : Nat), indexAny l [13, 10] = (k : Int) → indexAny (l.take k) [13, 10] = -1
  | [], k, _ => by simp [indexAny]
  | b :: r, 0, _ => by simp [indexAny]
  | b :: r, k + 1, h => by
    rw [List.take_succ_cons]
    unfold indexAny at h ⊢
    by_cases hb : ([13, 10] : List UInt8).contains b = true
    · rw [if_pos hb] at h; omega
    · rw [if_neg hb] at h ⊢
      have hr : indexAny r [13, 10] = (k : Int) := by
        split at h <;> omega
      rw [any_take r k hr]
      simp
def NoBrk (l : List UInt8) (x : Nat × Nat) : Prop := indexAny ((l.drop x.1).take (x.2 - x.1)) [13, 10] = -1
def Chain (l : List UInt8) : Nat → List (Nat × Nat) → Prop
  | _, [] => False
  | a, [x] => x.1 = a ∧ x.1 ≤ x.2 ∧ x.2 = l.length ∧ NoBrk l x
  | a, x :: y :: t => x.1 = a ∧ x.1 ≤ x.2 ∧ x.2 ≤ l.length ∧ NoBrk l x ∧ Chain l (x.2 + if hasPrefix (l.drop x.2) [13, 10] then 2 else 1) (y :: t)
theorem any_none_take : ∀ (l : List UInt8) (k : Nat), indexAny l [13, 10] = -1 → indexAny (l.take k) [13, 10] = -1
  | [], k, _ => by simp [indexAny]
  | b :: r, 0, _ => by simp [indexAny]
  | b :: r, k + 1, h => by
    rw [List.take_succ_cons]
    unfold indexAny at h ⊢
    by_cases hb : ([13, 10] : List UInt8).contains b = true
    · rw [if_pos hb] at h; omega
    · rw [if_neg hb] at h ⊢
      have hr : indexAny r [13, 10] = -1 := by
        have := indexAny_ge [13, 10] r
        split at h
        · next e => exact eq_of_beq e
        · omega
      rw [any_none_take r k hr]
      simp
theorem chain_all (l : List UInt8) : ∀ (m a : Nat), a ≤ l.length → l.length - a ≤ m → Chain l a (linesP (l.drop a) false a a) := by
  intro m
  induction m with
  | zero =>
    intro a ha hm
    have : a = l.length := by omega
    subst this
    rw [List.drop_length]
    exact ⟨rfl, Nat.le_refl _, rfl, by simp [NoBrk, indexAny]⟩
  | succ m ih =>
    intro a ha hm
    by_cases h : indexAny (l.drop a) [13, 10] = -1
    · rw [lines_none _ a a h, List.length_drop]
      refine ⟨rfl, by simp, by simp; omega, ?_⟩
      exact any_none_take _ _ h
    · obtain ⟨k, hk⟩ : ∃ k : Nat, indexAny (l.drop a) [13, 10] = k := ⟨(indexAny (l.drop a) [13, 10]).toNat, by have := indexAny_ge [13, 10] (l.drop a); omega⟩
      obtain ⟨hkl, he⟩ := lines_hit _ a a k hk
      rw [List.length_drop] at hkl
      rw [he, List.drop_drop, List.drop_drop, List.drop_drop]
      have hnb : NoBrk l (a, a + k) := by
        unfold NoBrk
        rw [show a + k - a = k by omega]
        exact any_take _ _ hk
      cases hp : hasPrefix (l.drop (a + k)) [13, 10] with
      | false =>
        simp only [Bool.false_eq_true, if_false]
        have h2 := ih (a + k + 1) (by omega) (by omega)
        have h3 := linesP_pos (l.drop (a + (k + 1))) false (a + k + 1) (a + k + 1)
        rw [show a + k + 1 = a + (k + 1) by omega] at h2 h3 ⊢
        cases hq : linesP (l.drop (a + (k + 1))) false (a + (k + 1)) (a + (k + 1)) with
        | nil => rw [hq] at h3; simp at h3
        | cons y t =>
          rw [hq] at h2
          refine ⟨rfl, by simp, by show a + k ≤ l.length; omega, hnb, ?_⟩
          simp only [hp, Bool.false_eq_true, if_false]
          rw [show a + k + 1 = a + (k + 1) by omega]
          exact h2
      | true =>
        have hp2 := prefix_two _ hp
        rw [List.length_drop] at hp2
        simp only [if_true]
        have h2 := ih (a + k + 2) (by omega) (by omega)
        have h3 := linesP_pos (l.drop (a + (k + 2))) false (a + k + 2) (a + k + 2)
        rw [show a + k + 2 = a + (k + 2) by omega] at h2 h3 ⊢
        cases hq : linesP (l.drop (a + (k + 2))) false (a + (k + 2)) (a + (k + 2)) with
        | nil => rw [hq] at h3; simp at h3
        | cons y t =>
          rw [hq] at h2
          refine ⟨rfl, by simp, by show a + k ≤ l.length; omega, hnb, ?_⟩
          simp only [hp, if_true]
          rw [show a + k + 2 = a + (k + 2) by omega]
          exact h2
theorem chain_L (s : ByteArray) : Chain s.data.toList 0 (linesL s.data.toList) := by
  have := chain_all s.data.toList s.data.toList.length 0 (Nat.zero_le _) (by omega)
  rwa [List.drop_zero] at this
theorem contains_any (s : ByteArray) (w : World) (hs : s.size < 4294967281) :
    Calls Try.prog 20 #[.string s, .string crlf] w fun e w' => e = .returned (.bool (decide (0 ≤ indexAny s.data.toList [13, 10]))) ∧ Below w.heap.size w w' := by
  go_enter Try.func20, Try.ntmps20
  go_wp2_with (go_at_call 33; refine (indexAny_any _ _ hs).mono ?_; rintro e w1 ⟨rfl, hw1⟩)
  go_ret
  exact ⟨rfl, hw1⟩

set_option maxRecDepth 100000 in
set_option maxHeartbeats 1600000 in
theorem law_whole (s : ByteArray) (w : World) (hs : s.size ≤ 140737488355328) :
    Calls Try.prog 6 #[.string s] w fun e w' => e = .returned (.bool true) ∧ Below w.heap.size w w' := by
  have c9 := fun w => long_any s w hs
  by_cases hl : 3000 < s.size
  · have hd : decide (3000 < s.size) = true := decide_eq_true hl
    rw [hd] at c9
    go_enter Try.func6, Try.ntmps6
    go_wp2_with (first
      | (go_at_call 9; refine (c9 _).mono ?_; rintro e w' ⟨rfl, hw⟩; rw [hw])
      | (go_at_call 10; refine (works_any _).mono ?_; rintro e w1 ⟨rfl, hw1⟩))
    go_ret
    exact ⟨rfl, hw1⟩
  have hd : decide (3000 < s.size) = false := decide_eq_false hl
  rw [hd] at c9
  have c13 := fun w => count_any s w (by omega)
  have c12 := fun n w => line_any s n w (by omega)
  have hlen := linesP_length s.data.toList false 0 0
  have hpos := linesP_pos s.data.toList false 0 0
  have hch := chain_L s
  rw [← size_eq] at hlen
  change (linesL s.data.toList).length ≤ s.size + 1 at hlen
  change 1 ≤ (linesL s.data.toList).length at hpos
  generalize linesL s.data.toList = L at *
  have hw0 : IntKind.i64.wrap ((s.size : Int) + 1) = (s.size : Int) + 1 := IntWalk.i64_in _ (by omega)
  have hn1 : ¬ (L.length : Int) < 1 := by omega
  have hn2 : ¬ ((s.size : Int) + 1) < (L.length : Int) := by omega
  have HC := Lib.hid hch
  clear hch
  go_enter Try.func6, Try.ntmps6
  go_wp2_with (first
    | (go_at_call 9; refine (c9 _).mono ?_; rintro e w' ⟨rfl, hw⟩; rw [hw])
    | (go_at_call 13; refine (c13 _).mono ?_; rintro e w1 ⟨rfl, hw1⟩))
  go_loopw [3, 5] (fun at5 i wx => ∃ (k a : Nat), i = .int .i64 k ∧ at5 = .int .i64 a ∧ k < L.length ∧ Chain s.data.toList a (L.drop k) ∧ Below w.heap.size w wx) (fun _ i _ => L.length - (RowKit.intOf i).toNat)
  case atStart => exact ⟨0, 0, rfl, rfl, by omega, HC.out, hw1⟩
  case round =>
    obtain ⟨k, a, rfl, rfl, hk, hc, hB⟩ := hrel
    have hki : (k : Int) < (L.length : Int) := by omega
    have hdr := drop_at L k hk
    have hsome : lineAt L k = some L[k] := by unfold lineAt; rw [if_pos (by omega)]; simp [hk]
    have c12k := c12 k
    rw [hsome] at c12k
    rw [hdr] at hc
    obtain ⟨x, hx⟩ : ∃ x, L[k] = x := ⟨_, rfl⟩
    rw [hx] at hc c12k
    simp only [lineV] at c12k
    have hfalse : ∀ z : Nat × Nat, z.1 ≤ z.2 → z.2 ≤ s.size → NoBrk s.data.toList z → decide (0 ≤ indexAny (s.extract z.1 z.2).data.toList [13, 10]) = false := fun z h1 h2 h3 => by
      unfold NoBrk at h3
      have e : (s.extract z.1 z.2).data.toList = (s.data.toList.drop z.1).take (z.2 - z.1) := by simp [ByteArray.data_extract]
      rw [e, h3]
      rfl
    cases hrest : L.drop (k + 1) with
    | nil =>
      rw [hrest] at hc
      obtain ⟨rfl, hx12, hx2, hnb⟩ := hc
      rw [← size_eq] at hx2
      have hkl : k + 1 = L.length := by
        have := congrArg List.length hrest
        rw [List.length_drop] at this
        simp at this
        omega
      have hke : (((k : Int) + 1) == (L.length : Int)) = true := beq_iff_eq.2 (by omega)
      have hxe : ((x.2 : Int) == (s.size : Int)) = true := beq_iff_eq.2 (by omega)
      have h20 := hfalse x hx12 (by omega) hnb
      have h1 : ¬ (x.2 : Int) < (x.1 : Int) := by omega
      have h2 : ¬ (s.size : Int) < (x.2 : Int) := by omega
      have hsl : (s.extract x.1 x.2).size < 4294967281 := by simp; omega
      clear hx hdr hsome hfalse hnb HC hrest hx2 hkl
      go_wp2_with (first
        | (go_at_call 12; refine (on_of c12k hB).mono ?_; rintro e w2 ⟨rfl, hB2⟩)
        | (go_at_call 20; refine (on_of (fun w => contains_any _ w hsl) hB2).mono ?_; rintro e w3 ⟨rfl, hB3⟩; rw [h20])
        | (go_at_call 10; refine (on_of (fun w => works_any w) hB3).mono ?_; rintro e w4 ⟨rfl, hB4⟩))
      go_ret
      exact ⟨rfl, hB4⟩
    | cons y t =>
      rw [hrest] at hc
      obtain ⟨rfl, hx12, hx2, hnb, hc2⟩ := hc
      rw [← size_eq] at hx2
      have hkl : k + 1 < L.length := by
        have := congrArg List.length hrest
        rw [List.length_drop] at this
        simp at this
        omega
      have hke : (((k : Int) + 1) == (L.length : Int)) = false := beq_eq_false_iff_ne.2 (by omega)
      have h20 := hfalse x hx12 (by omega) hnb
      have h1 : ¬ (x.2 : Int) < (x.1 : Int) := by omega
      have h2 : ¬ (s.size : Int) < (x.2 : Int) := by omega
      have hsl : (s.extract x.1 x.2).size < 4294967281 := by simp; omega
      rw [← hrest] at hc2
      have HC2 := Lib.hid hc2
      obtain ⟨pb, hpb⟩ : ∃ pb, hasPrefix (s.data.toList.drop x.2) [13, 10] = pb := ⟨_, rfl⟩
      have hpx : hasPrefix (s.data.toList.drop x.2) (⟨#[13, 10]⟩ : ByteArray).data.toList = pb := hpb
      clear hx hdr hsome hfalse hnb HC hrest hc2
      cases pb
      · go_wp2_with (first
          | (go_at_call 12; refine (on_of c12k hB).mono ?_; rintro e w2 ⟨rfl, hB2⟩)
          | (go_at_call 20; refine (on_of (fun w => contains_any _ w hsl) hB2).mono ?_; rintro e w3 ⟨rfl, hB3⟩; rw [h20])
          | (go_at_call 21; refine (Try.strings_HasPrefix _ _ _).mono ?_; rintro e w4 ⟨rfl, hw4⟩; rw [hw4, cut_list, hpx]))
        go_roundw
        case rel => exact ⟨k + 1, x.2 + 1, by go_num, by go_num, hkl, by have := HC2.out; rw [hpb] at this; exact this, hB3⟩
        case measure => simp [RowKit.intOf]; omega
      · have hp2 := prefix_two _ hpb
        rw [List.length_drop, ← size_eq] at hp2
        go_wp2_with (first
          | (go_at_call 12; refine (on_of c12k hB).mono ?_; rintro e w2 ⟨rfl, hB2⟩)
          | (go_at_call 20; refine (on_of (fun w => contains_any _ w hsl) hB2).mono ?_; rintro e w3 ⟨rfl, hB3⟩; rw [h20])
          | (go_at_call 21; refine (Try.strings_HasPrefix _ _ _).mono ?_; rintro e w4 ⟨rfl, hw4⟩; rw [hw4, cut_list, hpx]))
        go_roundw
        case rel => exact ⟨k + 1, x.2 + 2, by go_num, by go_num, hkl, by have := HC2.out; rw [hpb] at this; exact this, hB3⟩
        case measure => simp [RowKit.intOf]; omega
end Go.Proofs.Ytipbojiialfmeaa
