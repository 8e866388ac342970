/- The walk of the reference's numbered. -/
import Derived.Test.YtphiceebhncflaaDoorR3
namespace Go.Proofs.Jt
open Go.RowKit Go.Proofs Go.Lib Go.Proofs.Utf

theorem dig_yes {l : List UInt8} {j : Nat} (h : digAt l j = true) : run isDig (l.drop j) = run isDig (l.drop (j + 1)) + 1 ∧ j < l.length := by
  unfold digAt at h
  rw [run_at]
  cases hc : l[j]? with
  | none => rw [hc] at h; cases h
  | some c =>
    rw [hc] at h
    simp only [Option.any_some] at h
    simp only [h, if_true, true_and]
    exact (List.getElem?_eq_some_iff.1 hc).1
theorem dig_no {l : List UInt8} {j : Nat} (h : digAt l j = false) : run isDig (l.drop j) = 0 := by
  unfold digAt at h
  rw [run_at]
  cases hc : l[j]? with
  | none => rfl
  | some c =>
    rw [hc] at h
    simp only [Option.any_some] at h
    simp only [h]
    rfl
theorem is_lt {l : List UInt8} {j : Nat} {c : UInt8} (h : l[j]? = some c) : j < l.length := (List.getElem?_eq_some_iff.1 h).1
/-- where the digits end that begin at a place -/
def runE (l : List UInt8) (j : Nat) : Nat := j + run isDig (l.drop j)
theorem runE_yes {l : List UInt8} {j : Nat} (h : digAt l j = true) : runE l j = runE l (j + 1) := by
  unfold runE; rw [(dig_yes h).1]; omega
theorem runE_no {l : List UInt8} {j : Nat} (h : digAt l j = false) : runE l j = j := by
  unfold runE; rw [dig_no h]; rfl
theorem runE_le (l : List UInt8) (j : Nat) (h : j ≤ l.length) : j ≤ runE l j ∧ runE l j ≤ l.length := by
  unfold runE
  have := run_drop_le isDig l j
  omega
theorem digAt_run (l : List UInt8) (j : Nat) : digAt l j = decide (0 < run isDig (l.drop j)) := by
  cases h : digAt l j with
  | true => have := (dig_yes h).1; symm; simp; omega
  | false => have := dig_no h; symm; simp; omega
def isAt (l : List UInt8) (i : Nat) (c : UInt8) : Bool := decide (l[i]? = some c)
theorem isAt_lt {l : List UInt8} {i : Nat} {c : UInt8} (h : isAt l i c = true) : i < l.length := is_lt (of_decide_eq_true h)
/-- numbered, by places of the whole text -/
def nNeg (l : List UInt8) (i : Nat) : Nat := if isAt l i 45 then i + 1 else i
def nInt (l : List UInt8) (i : Nat) : Nat := if isAt l i 48 then i + 1 else runE l i
def nDot (l : List UInt8) (i : Nat) : Nat := if isAt l i 46 && digAt l (i + 1) then runE l (i + 1) else i
def nSign (l : List UInt8) (i : Nat) : Nat := if isAt l i 43 || isAt l i 45 then i + 1 else i
def nExp (l : List UInt8) (i : Nat) : Nat := if (isAt l i 101 || isAt l i 69) && digAt l (nSign l (i + 1)) then runE l (nSign l (i + 1)) else i
def nAll (l : List UInt8) (i : Nat) : Nat := if digAt l (nNeg l i) then nExp l (nDot l (nInt l (nNeg l i))) else i
theorem drop_get (l : List UInt8) (i n : Nat) : (l.drop i)[n]? = l[i + n]? := by rw [List.getElem?_drop]
theorem nAll_eq (l : List UInt8) (i : Nat) : nAll l i = i + numN (l.drop i) := by
  have e1 : nNeg l i = i + negN (l.drop i) := by
    unfold nNeg negN isAt; simp only [drop_get, Nat.add_zero, decide_eq_true_eq]; split <;> rfl
  have e2 : ∀ n, nInt l (i + n) = i + intN (l.drop i) n := by
    intro n
    unfold nInt intN runE isAt
    rw [drop_get, List.drop_drop]
    simp only [decide_eq_true_eq]
    split <;> omega
  have e3 : ∀ n, nDot l (i + n) = i + dotN (l.drop i) n := by
    intro n
    unfold nDot dotN runE isAt
    rw [drop_get, List.drop_drop, digAt_run, ← Nat.add_assoc]
    simp only [Bool.and_eq_true, decide_eq_true_eq]
    split <;> omega
  have e4 : ∀ n, nSign l (i + n) = i + signN (l.drop i) n := by
    intro n
    unfold nSign signN isAt
    rw [drop_get]
    simp only [Bool.or_eq_true, decide_eq_true_eq]
    split <;> omega
  have e5 : ∀ n, nExp l (i + n) = i + expN (l.drop i) n := by
    intro n
    unfold nExp expN runE isAt
    rw [drop_get, List.drop_drop, Nat.add_assoc, e4, digAt_run]
    simp only [Bool.and_eq_true, Bool.or_eq_true, decide_eq_true_eq]
    split <;> omega
  unfold nAll numN
  rw [e1, digAt_run, List.drop_drop, e2, e3, e5]
  simp only [decide_eq_true_eq]
  split
  · rename_i h
    rw [if_neg (by omega)]
  · rename_i h
    rw [if_pos (by omega)]; rfl

set_option maxRecDepth 100000 in
set_option maxHeartbeats 1000000 in
theorem numbered_any (s : ByteArray) (i : Nat) (w : World) (hs : s.size ≤ 16777216) (hi : i ≤ s.size) : Calls Tryd.prog 60 #[.string s, .int .i64 i] w fun e w' => e = .returned (.int .i64 (nAll s.data.toList i : Nat)) ∧ w' = w := by
  have h45 : ∀ (i : Nat) w, Calls Tryd.prog 81 #[.string s, .int .i64 i, .int .u8 45] w fun e w' => e = .returned (.bool (isAt s.data.toList i 45)) ∧ w = w' := fun i w => (is_any s i 45 w hs).mono fun _ _ h => ⟨h.1, h.2.symm⟩
  have h46 : ∀ (i : Nat) w, Calls Tryd.prog 81 #[.string s, .int .i64 i, .int .u8 46] w fun e w' => e = .returned (.bool (isAt s.data.toList i 46)) ∧ w = w' := fun i w => (is_any s i 46 w hs).mono fun _ _ h => ⟨h.1, h.2.symm⟩
  have h101 : ∀ (i : Nat) w, Calls Tryd.prog 81 #[.string s, .int .i64 i, .int .u8 101] w fun e w' => e = .returned (.bool (isAt s.data.toList i 101)) ∧ w = w' := fun i w => (is_any s i 101 w hs).mono fun _ _ h => ⟨h.1, h.2.symm⟩
  have h69 : ∀ (i : Nat) w, Calls Tryd.prog 81 #[.string s, .int .i64 i, .int .u8 69] w fun e w' => e = .returned (.bool (isAt s.data.toList i 69)) ∧ w = w' := fun i w => (is_any s i 69 w hs).mono fun _ _ h => ⟨h.1, h.2.symm⟩
  have h43 : ∀ (i : Nat) w, Calls Tryd.prog 81 #[.string s, .int .i64 i, .int .u8 43] w fun e w' => e = .returned (.bool (isAt s.data.toList i 43)) ∧ w = w' := fun i w => (is_any s i 43 w hs).mono fun _ _ h => ⟨h.1, h.2.symm⟩
  have h43b : ∀ (i : Nat) w, Calls Tryd.prog 81 #[.string s, .int .i64 ((i : Int) + 1), .int .u8 43] w fun e w' => e = .returned (.bool (isAt s.data.toList (i + 1) 43)) ∧ w = w' := fun i w => h43 (i + 1) w
  have h45b : ∀ (i : Nat) w, Calls Tryd.prog 81 #[.string s, .int .i64 ((i : Int) + 1), .int .u8 45] w fun e w' => e = .returned (.bool (isAt s.data.toList (i + 1) 45)) ∧ w = w' := fun i w => h45 (i + 1) w
  have hd : ∀ (i : Nat) w, Calls Tryd.prog 82 #[.string s, .int .i64 i] w fun e w' => e = .returned (.bool (digAt s.data.toList i)) ∧ w = w' := fun i w => (digit_any s i w hs).mono fun _ _ h => ⟨h.1, h.2.symm⟩
  have hd1 : ∀ (i : Nat) w, Calls Tryd.prog 82 #[.string s, .int .i64 ((i : Int) + 1)] w fun e w' => e = .returned (.bool (digAt s.data.toList (i + 1))) ∧ w = w' := fun i w => (digit_any s (i + 1) w hs).mono fun _ _ h => ⟨h.1, h.2.symm⟩
  have hle : ∀ (p : Nat) (c : UInt8), isAt s.data.toList p c = true → p < s.size := fun p c h => by rw [Lib.size_eq]; exact isAt_lt h
  have hre : ∀ p, p ≤ s.size → p ≤ runE s.data.toList p ∧ runE s.data.toList p ≤ s.size := fun p h => by
    have := runE_le s.data.toList p (by rw [← Lib.size_eq]; exact h)
    rw [← Lib.size_eq] at this
    exact this
  have hdl : ∀ p, digAt s.data.toList p = true → p < s.size := fun p h => by rw [Lib.size_eq]; exact (dig_yes h).2
  obtain ⟨r, hr⟩ : ∃ r, nAll s.data.toList i = r := ⟨_, rfl⟩
  rw [hr]
  unfold nAll at hr
  obtain ⟨n0, h0⟩ : ∃ r, nNeg s.data.toList i = r := ⟨_, rfl⟩
  obtain ⟨n1, h1⟩ : ∃ r, nInt s.data.toList n0 = r := ⟨_, rfl⟩
  obtain ⟨n2, h2⟩ : ∃ r, nDot s.data.toList n1 = r := ⟨_, rfl⟩
  obtain ⟨n3, h3⟩ : ∃ r, nExp s.data.toList n2 = r := ⟨_, rfl⟩
  rw [h0, h1, h2, h3] at hr
  unfold nNeg at h0
  unfold nInt at h1
  unfold nDot at h2
  unfold nExp at h3
  obtain ⟨n4, h4⟩ : ∃ r, nSign s.data.toList (n2 + 1) = r := ⟨_, rfl⟩
  rw [h4] at h3
  unfold nSign at h4
  have HR := Lib.hid hr
  have H0 := Lib.hid h0
  have H1 := Lib.hid h1
  have H2 := Lib.hid h2
  have H3 := Lib.hid h3
  have H4 := Lib.hid h4
  clear hr h0 h1 h2 h3 h4
  go_enter Tryd.func60, Tryd.ntmps60
  go_upto_if 10 with (first
    | (go_at_call_of 81 (Value.int .u8 45); refine (h45 _ _).mono ?_; rintro e w1 ⟨rfl, rfl⟩)
    | (go_at_call_of 81 (Value.int .u8 46); refine (h46 _ _).mono ?_; rintro e w1 ⟨rfl, rfl⟩)
    | (go_at_call_of 81 (Value.int .u8 101); refine (h101 _ _).mono ?_; rintro e w1 ⟨rfl, rfl⟩)
    | (go_at_call_of 81 (Value.int .u8 69); refine (h69 _ _).mono ?_; rintro e w1 ⟨rfl, rfl⟩)
    | (go_at_call_of 81 (Value.int .u8 43); refine (h43 _ _).mono ?_; rintro e w1 ⟨rfl, rfl⟩)
    | (go_at_call 82; refine (hd _ _).mono ?_; rintro e w1 ⟨rfl, rfl⟩)
    | (go_at_call 82; refine (hd1 _ _).mono ?_; rintro e w1 ⟨rfl, rfl⟩))
  go_cut [5] (fun v wx => v = .int .i64 n0 ∧ w = wx)
  case first =>
    cases e0 : isAt s.data.toList i 45 with
    | true =>
      have hl := hle _ _ e0
      go_wp2_with (first
    | (go_at_call_of 81 (Value.int .u8 45); refine (h45 _ _).mono ?_; rintro e w1 ⟨rfl, rfl⟩)
    | (go_at_call_of 81 (Value.int .u8 46); refine (h46 _ _).mono ?_; rintro e w1 ⟨rfl, rfl⟩)
    | (go_at_call_of 81 (Value.int .u8 101); refine (h101 _ _).mono ?_; rintro e w1 ⟨rfl, rfl⟩)
    | (go_at_call_of 81 (Value.int .u8 69); refine (h69 _ _).mono ?_; rintro e w1 ⟨rfl, rfl⟩)
    | (go_at_call_of 81 (Value.int .u8 43); refine (h43 _ _).mono ?_; rintro e w1 ⟨rfl, rfl⟩)
    | (go_at_call 82; refine (hd _ _).mono ?_; rintro e w1 ⟨rfl, rfl⟩)
    | (go_at_call 82; refine (hd1 _ _).mono ?_; rintro e w1 ⟨rfl, rfl⟩))
      go_meet
      exact ⟨by rw [← H0.out, if_pos e0]; rfl, rfl⟩
    | false =>
      go_wp2_with (first
    | (go_at_call_of 81 (Value.int .u8 45); refine (h45 _ _).mono ?_; rintro e w1 ⟨rfl, rfl⟩)
    | (go_at_call_of 81 (Value.int .u8 46); refine (h46 _ _).mono ?_; rintro e w1 ⟨rfl, rfl⟩)
    | (go_at_call_of 81 (Value.int .u8 101); refine (h101 _ _).mono ?_; rintro e w1 ⟨rfl, rfl⟩)
    | (go_at_call_of 81 (Value.int .u8 69); refine (h69 _ _).mono ?_; rintro e w1 ⟨rfl, rfl⟩)
    | (go_at_call_of 81 (Value.int .u8 43); refine (h43 _ _).mono ?_; rintro e w1 ⟨rfl, rfl⟩)
    | (go_at_call 82; refine (hd _ _).mono ?_; rintro e w1 ⟨rfl, rfl⟩)
    | (go_at_call 82; refine (hd1 _ _).mono ?_; rintro e w1 ⟨rfl, rfl⟩))
      go_meet
      exact ⟨by rw [← H0.out, if_neg (by rw [e0]; decide)], rfl⟩
  case rest =>
  obtain ⟨rfl, rfl⟩ := hcut
  cases hd0 : digAt s.data.toList n0 with
  | false =>
    have hr : r = i := by rw [← HR.out, if_neg (by rw [hd0]; decide)]
    go_wp2_with (first
    | (go_at_call_of 81 (Value.int .u8 45); refine (h45 _ _).mono ?_; rintro e w1 ⟨rfl, rfl⟩)
    | (go_at_call_of 81 (Value.int .u8 46); refine (h46 _ _).mono ?_; rintro e w1 ⟨rfl, rfl⟩)
    | (go_at_call_of 81 (Value.int .u8 101); refine (h101 _ _).mono ?_; rintro e w1 ⟨rfl, rfl⟩)
    | (go_at_call_of 81 (Value.int .u8 69); refine (h69 _ _).mono ?_; rintro e w1 ⟨rfl, rfl⟩)
    | (go_at_call_of 81 (Value.int .u8 43); refine (h43 _ _).mono ?_; rintro e w1 ⟨rfl, rfl⟩)
    | (go_at_call 82; refine (hd _ _).mono ?_; rintro e w1 ⟨rfl, rfl⟩)
    | (go_at_call 82; refine (hd1 _ _).mono ?_; rintro e w1 ⟨rfl, rfl⟩))
    go_ret
    exact ⟨ret_int (by omega), rfl⟩
  | true =>
    have hlt0 := hdl n0 hd0
    have hr : r = n3 := by rw [← HR.out, if_pos hd0]
    have hb1 : n0 ≤ n1 ∧ n1 ≤ s.size := by
      have := hre n0 (by omega)
      rw [← H1.out]
      split <;> omega
    have hb2 : n1 ≤ n2 ∧ n2 ≤ s.size := by
      rw [← H2.out]
      split
      · rename_i h
        simp only [Bool.and_eq_true] at h
        have := hdl _ h.2
        have := hre (n1 + 1) (by omega)
        omega
      · omega
    have hg0 := list_get s n0 hlt0
    go_upto_if 21 with (first
    | (go_at_call_of 81 (Value.int .u8 45); refine (h45 _ _).mono ?_; rintro e w1 ⟨rfl, rfl⟩)
    | (go_at_call_of 81 (Value.int .u8 46); refine (h46 _ _).mono ?_; rintro e w1 ⟨rfl, rfl⟩)
    | (go_at_call_of 81 (Value.int .u8 101); refine (h101 _ _).mono ?_; rintro e w1 ⟨rfl, rfl⟩)
    | (go_at_call_of 81 (Value.int .u8 69); refine (h69 _ _).mono ?_; rintro e w1 ⟨rfl, rfl⟩)
    | (go_at_call_of 81 (Value.int .u8 43); refine (h43 _ _).mono ?_; rintro e w1 ⟨rfl, rfl⟩)
    | (go_at_call 82; refine (hd _ _).mono ?_; rintro e w1 ⟨rfl, rfl⟩)
    | (go_at_call 82; refine (hd1 _ _).mono ?_; rintro e w1 ⟨rfl, rfl⟩))
    go_cut [5] (fun v wx => v = .int .i64 n1 ∧ w = wx)
    case first =>
      cases e0 : isAt s.data.toList n0 48 with
      | true =>
        have t0 : ((s[n0].toNat : Int) == 48) = true := by
          have := of_decide_eq_true e0
          rw [hg0] at this
          rw [Option.some.inj this]; rfl
        have E0 := Lib.hid e0
        clear hg0 e0
        simp only [t0]
        go_wp2_with (first
    | (go_at_call_of 81 (Value.int .u8 45); refine (h45 _ _).mono ?_; rintro e w1 ⟨rfl, rfl⟩)
    | (go_at_call_of 81 (Value.int .u8 46); refine (h46 _ _).mono ?_; rintro e w1 ⟨rfl, rfl⟩)
    | (go_at_call_of 81 (Value.int .u8 101); refine (h101 _ _).mono ?_; rintro e w1 ⟨rfl, rfl⟩)
    | (go_at_call_of 81 (Value.int .u8 69); refine (h69 _ _).mono ?_; rintro e w1 ⟨rfl, rfl⟩)
    | (go_at_call_of 81 (Value.int .u8 43); refine (h43 _ _).mono ?_; rintro e w1 ⟨rfl, rfl⟩)
    | (go_at_call 82; refine (hd _ _).mono ?_; rintro e w1 ⟨rfl, rfl⟩)
    | (go_at_call 82; refine (hd1 _ _).mono ?_; rintro e w1 ⟨rfl, rfl⟩))
        go_meet
        exact ⟨by rw [← H1.out, if_pos E0.out]; rfl, rfl⟩
      | false =>
        have t0 : ((s[n0].toNat : Int) == 48) = false := byte_not (c := 48) fun h => by
          have := of_decide_eq_false e0
          rw [hg0, h] at this
          exact this rfl
        have E0 := Lib.hid e0
        have hN1 : runE s.data.toList n0 = n1 := by rw [← H1.out, if_neg (by rw [e0]; decide)]
        clear hg0 e0
        simp only [t0]
        go_wp2_with (first
    | (go_at_call_of 81 (Value.int .u8 45); refine (h45 _ _).mono ?_; rintro e w1 ⟨rfl, rfl⟩)
    | (go_at_call_of 81 (Value.int .u8 46); refine (h46 _ _).mono ?_; rintro e w1 ⟨rfl, rfl⟩)
    | (go_at_call_of 81 (Value.int .u8 101); refine (h101 _ _).mono ?_; rintro e w1 ⟨rfl, rfl⟩)
    | (go_at_call_of 81 (Value.int .u8 69); refine (h69 _ _).mono ?_; rintro e w1 ⟨rfl, rfl⟩)
    | (go_at_call_of 81 (Value.int .u8 43); refine (h43 _ _).mono ?_; rintro e w1 ⟨rfl, rfl⟩)
    | (go_at_call 82; refine (hd _ _).mono ?_; rintro e w1 ⟨rfl, rfl⟩)
    | (go_at_call 82; refine (hd1 _ _).mono ?_; rintro e w1 ⟨rfl, rfl⟩))
        go_loopw [5] (fun v wr => ∃ j : Nat, v = .int .i64 j ∧ runE s.data.toList j = n1 ∧ j ≤ s.size ∧ w = wr) (fun v _ => s.size - (RowKit.intOf v).toNat)
        case atStart => exact ⟨_, rfl, hN1, by omega, rfl⟩
        case round =>
          obtain ⟨j, rfl, hj, hjs, rfl⟩ := hrel
          have HJ := Lib.hid hj
          clear hj
          cases e1 : digAt s.data.toList j with
          | true =>
            have hl1 := hdl _ e1
            go_wp2_with (first
    | (go_at_call_of 81 (Value.int .u8 45); refine (h45 _ _).mono ?_; rintro e w1 ⟨rfl, rfl⟩)
    | (go_at_call_of 81 (Value.int .u8 46); refine (h46 _ _).mono ?_; rintro e w1 ⟨rfl, rfl⟩)
    | (go_at_call_of 81 (Value.int .u8 101); refine (h101 _ _).mono ?_; rintro e w1 ⟨rfl, rfl⟩)
    | (go_at_call_of 81 (Value.int .u8 69); refine (h69 _ _).mono ?_; rintro e w1 ⟨rfl, rfl⟩)
    | (go_at_call_of 81 (Value.int .u8 43); refine (h43 _ _).mono ?_; rintro e w1 ⟨rfl, rfl⟩)
    | (go_at_call 82; refine (hd _ _).mono ?_; rintro e w1 ⟨rfl, rfl⟩)
    | (go_at_call 82; refine (hd1 _ _).mono ?_; rintro e w1 ⟨rfl, rfl⟩))
            go_roundw
            case rel => exact ⟨j + 1, by go_num, by rw [← runE_yes e1]; exact HJ.out, by omega, trivial⟩
            case measure => simp [RowKit.intOf]; omega
          | false =>
            go_wp2_with (first
    | (go_at_call_of 81 (Value.int .u8 45); refine (h45 _ _).mono ?_; rintro e w1 ⟨rfl, rfl⟩)
    | (go_at_call_of 81 (Value.int .u8 46); refine (h46 _ _).mono ?_; rintro e w1 ⟨rfl, rfl⟩)
    | (go_at_call_of 81 (Value.int .u8 101); refine (h101 _ _).mono ?_; rintro e w1 ⟨rfl, rfl⟩)
    | (go_at_call_of 81 (Value.int .u8 69); refine (h69 _ _).mono ?_; rintro e w1 ⟨rfl, rfl⟩)
    | (go_at_call_of 81 (Value.int .u8 43); refine (h43 _ _).mono ?_; rintro e w1 ⟨rfl, rfl⟩)
    | (go_at_call 82; refine (hd _ _).mono ?_; rintro e w1 ⟨rfl, rfl⟩)
    | (go_at_call 82; refine (hd1 _ _).mono ?_; rintro e w1 ⟨rfl, rfl⟩))
            go_meet
            exact ⟨by rw [← HJ.out, runE_no e1], rfl⟩
    case rest =>
    obtain ⟨rfl, rfl⟩ := hcut
    clear hg0 hlt0 hd0
    go_upto_region 10 with (fail)
    go_cut [37] (fun v wx => v = .bool (isAt s.data.toList n1 46 && digAt s.data.toList (n1 + 1)) ∧ w = wx)
    case first =>
      cases e0 : isAt s.data.toList n1 46 with
      | true =>
        have hl0 := hle _ _ e0
        cases e2 : digAt s.data.toList (n1 + 1) with
        | true =>
          go_wp2_with (first
    | (go_at_call_of 81 (Value.int .u8 45); refine (h45 _ _).mono ?_; rintro e w1 ⟨rfl, rfl⟩)
    | (go_at_call_of 81 (Value.int .u8 46); refine (h46 _ _).mono ?_; rintro e w1 ⟨rfl, rfl⟩)
    | (go_at_call_of 81 (Value.int .u8 101); refine (h101 _ _).mono ?_; rintro e w1 ⟨rfl, rfl⟩)
    | (go_at_call_of 81 (Value.int .u8 69); refine (h69 _ _).mono ?_; rintro e w1 ⟨rfl, rfl⟩)
    | (go_at_call_of 81 (Value.int .u8 43); refine (h43 _ _).mono ?_; rintro e w1 ⟨rfl, rfl⟩)
    | (go_at_call 82; refine (hd _ _).mono ?_; rintro e w1 ⟨rfl, rfl⟩)
    | (go_at_call 82; refine (hd1 _ _).mono ?_; rintro e w1 ⟨rfl, rfl⟩))
          go_meet
          exact ⟨by rw [e0, e2]; rfl, rfl⟩
        | false =>
          go_wp2_with (first
    | (go_at_call_of 81 (Value.int .u8 45); refine (h45 _ _).mono ?_; rintro e w1 ⟨rfl, rfl⟩)
    | (go_at_call_of 81 (Value.int .u8 46); refine (h46 _ _).mono ?_; rintro e w1 ⟨rfl, rfl⟩)
    | (go_at_call_of 81 (Value.int .u8 101); refine (h101 _ _).mono ?_; rintro e w1 ⟨rfl, rfl⟩)
    | (go_at_call_of 81 (Value.int .u8 69); refine (h69 _ _).mono ?_; rintro e w1 ⟨rfl, rfl⟩)
    | (go_at_call_of 81 (Value.int .u8 43); refine (h43 _ _).mono ?_; rintro e w1 ⟨rfl, rfl⟩)
    | (go_at_call 82; refine (hd _ _).mono ?_; rintro e w1 ⟨rfl, rfl⟩)
    | (go_at_call 82; refine (hd1 _ _).mono ?_; rintro e w1 ⟨rfl, rfl⟩))
          go_meet
          exact ⟨by rw [e0, e2]; rfl, rfl⟩
      | false =>
        go_wp2_with (first
    | (go_at_call_of 81 (Value.int .u8 45); refine (h45 _ _).mono ?_; rintro e w1 ⟨rfl, rfl⟩)
    | (go_at_call_of 81 (Value.int .u8 46); refine (h46 _ _).mono ?_; rintro e w1 ⟨rfl, rfl⟩)
    | (go_at_call_of 81 (Value.int .u8 101); refine (h101 _ _).mono ?_; rintro e w1 ⟨rfl, rfl⟩)
    | (go_at_call_of 81 (Value.int .u8 69); refine (h69 _ _).mono ?_; rintro e w1 ⟨rfl, rfl⟩)
    | (go_at_call_of 81 (Value.int .u8 43); refine (h43 _ _).mono ?_; rintro e w1 ⟨rfl, rfl⟩)
    | (go_at_call 82; refine (hd _ _).mono ?_; rintro e w1 ⟨rfl, rfl⟩)
    | (go_at_call 82; refine (hd1 _ _).mono ?_; rintro e w1 ⟨rfl, rfl⟩))
        go_meet
        exact ⟨by rw [e0]; rfl, rfl⟩
    case rest =>
    obtain ⟨rfl, rfl⟩ := hcut
    go_upto_if 37 with (fail)
    go_cut [5] (fun v wx => v = .int .i64 n2 ∧ w = wx)
    case first =>
      cases e0 : (isAt s.data.toList n1 46 && digAt s.data.toList (n1 + 1)) with
      | true =>
        have hN2 : runE s.data.toList (n1 + 1) = n2 := by rw [← H2.out, e0]; rfl
        have hl2 := hdl (n1 + 1) (by simp only [Bool.and_eq_true] at e0; exact e0.2)
        have E0 := Lib.hid e0
        clear e0
        go_wp2_with (first
    | (go_at_call_of 81 (Value.int .u8 45); refine (h45 _ _).mono ?_; rintro e w1 ⟨rfl, rfl⟩)
    | (go_at_call_of 81 (Value.int .u8 46); refine (h46 _ _).mono ?_; rintro e w1 ⟨rfl, rfl⟩)
    | (go_at_call_of 81 (Value.int .u8 101); refine (h101 _ _).mono ?_; rintro e w1 ⟨rfl, rfl⟩)
    | (go_at_call_of 81 (Value.int .u8 69); refine (h69 _ _).mono ?_; rintro e w1 ⟨rfl, rfl⟩)
    | (go_at_call_of 81 (Value.int .u8 43); refine (h43 _ _).mono ?_; rintro e w1 ⟨rfl, rfl⟩)
    | (go_at_call 82; refine (hd _ _).mono ?_; rintro e w1 ⟨rfl, rfl⟩)
    | (go_at_call 82; refine (hd1 _ _).mono ?_; rintro e w1 ⟨rfl, rfl⟩))
        go_loopw [5] (fun v wr => ∃ j : Nat, v = .int .i64 j ∧ runE s.data.toList j = n2 ∧ j ≤ s.size ∧ w = wr) (fun v _ => s.size - (RowKit.intOf v).toNat)
        case atStart => exact ⟨_, by go_num, hN2, by omega, rfl⟩
        case round =>
          obtain ⟨j, rfl, hj, hjs, rfl⟩ := hrel
          have HJ := Lib.hid hj
          clear hj
          cases e1 : digAt s.data.toList j with
          | true =>
            have hl1 := hdl _ e1
            go_wp2_with (first
    | (go_at_call_of 81 (Value.int .u8 45); refine (h45 _ _).mono ?_; rintro e w1 ⟨rfl, rfl⟩)
    | (go_at_call_of 81 (Value.int .u8 46); refine (h46 _ _).mono ?_; rintro e w1 ⟨rfl, rfl⟩)
    | (go_at_call_of 81 (Value.int .u8 101); refine (h101 _ _).mono ?_; rintro e w1 ⟨rfl, rfl⟩)
    | (go_at_call_of 81 (Value.int .u8 69); refine (h69 _ _).mono ?_; rintro e w1 ⟨rfl, rfl⟩)
    | (go_at_call_of 81 (Value.int .u8 43); refine (h43 _ _).mono ?_; rintro e w1 ⟨rfl, rfl⟩)
    | (go_at_call 82; refine (hd _ _).mono ?_; rintro e w1 ⟨rfl, rfl⟩)
    | (go_at_call 82; refine (hd1 _ _).mono ?_; rintro e w1 ⟨rfl, rfl⟩))
            go_roundw
            case rel => exact ⟨j + 1, by go_num, by rw [← runE_yes e1]; exact HJ.out, by omega, trivial⟩
            case measure => simp [RowKit.intOf]; omega
          | false =>
            go_wp2_with (first
    | (go_at_call_of 81 (Value.int .u8 45); refine (h45 _ _).mono ?_; rintro e w1 ⟨rfl, rfl⟩)
    | (go_at_call_of 81 (Value.int .u8 46); refine (h46 _ _).mono ?_; rintro e w1 ⟨rfl, rfl⟩)
    | (go_at_call_of 81 (Value.int .u8 101); refine (h101 _ _).mono ?_; rintro e w1 ⟨rfl, rfl⟩)
    | (go_at_call_of 81 (Value.int .u8 69); refine (h69 _ _).mono ?_; rintro e w1 ⟨rfl, rfl⟩)
    | (go_at_call_of 81 (Value.int .u8 43); refine (h43 _ _).mono ?_; rintro e w1 ⟨rfl, rfl⟩)
    | (go_at_call 82; refine (hd _ _).mono ?_; rintro e w1 ⟨rfl, rfl⟩)
    | (go_at_call 82; refine (hd1 _ _).mono ?_; rintro e w1 ⟨rfl, rfl⟩))
            go_meet
            exact ⟨by rw [← HJ.out, runE_no e1], rfl⟩
      | false =>
        have E0 := Lib.hid e0
        clear e0
        go_wp2_with (first
    | (go_at_call_of 81 (Value.int .u8 45); refine (h45 _ _).mono ?_; rintro e w1 ⟨rfl, rfl⟩)
    | (go_at_call_of 81 (Value.int .u8 46); refine (h46 _ _).mono ?_; rintro e w1 ⟨rfl, rfl⟩)
    | (go_at_call_of 81 (Value.int .u8 101); refine (h101 _ _).mono ?_; rintro e w1 ⟨rfl, rfl⟩)
    | (go_at_call_of 81 (Value.int .u8 69); refine (h69 _ _).mono ?_; rintro e w1 ⟨rfl, rfl⟩)
    | (go_at_call_of 81 (Value.int .u8 43); refine (h43 _ _).mono ?_; rintro e w1 ⟨rfl, rfl⟩)
    | (go_at_call 82; refine (hd _ _).mono ?_; rintro e w1 ⟨rfl, rfl⟩)
    | (go_at_call 82; refine (hd1 _ _).mono ?_; rintro e w1 ⟨rfl, rfl⟩))
        go_meet
        exact ⟨by rw [← H2.out, E0.out]; rfl, rfl⟩
    case rest =>
    obtain ⟨rfl, rfl⟩ := hcut
    go_upto_region 14 with (fail)
    go_cut [52] (fun v wx => v = .bool (isAt s.data.toList n2 101 || isAt s.data.toList n2 69) ∧ w = wx)
    case first =>
      cases e0 : isAt s.data.toList n2 101 with
      | true =>
        go_wp2_with (first
    | (go_at_call_of 81 (Value.int .u8 45); refine (h45 _ _).mono ?_; rintro e w1 ⟨rfl, rfl⟩)
    | (go_at_call_of 81 (Value.int .u8 46); refine (h46 _ _).mono ?_; rintro e w1 ⟨rfl, rfl⟩)
    | (go_at_call_of 81 (Value.int .u8 101); refine (h101 _ _).mono ?_; rintro e w1 ⟨rfl, rfl⟩)
    | (go_at_call_of 81 (Value.int .u8 69); refine (h69 _ _).mono ?_; rintro e w1 ⟨rfl, rfl⟩)
    | (go_at_call_of 81 (Value.int .u8 43); refine (h43 _ _).mono ?_; rintro e w1 ⟨rfl, rfl⟩)
    | (go_at_call 82; refine (hd _ _).mono ?_; rintro e w1 ⟨rfl, rfl⟩)
    | (go_at_call 82; refine (hd1 _ _).mono ?_; rintro e w1 ⟨rfl, rfl⟩))
        go_meet
        exact ⟨by rw [e0]; rfl, rfl⟩
      | false =>
        go_wp2_with (first
    | (go_at_call_of 81 (Value.int .u8 45); refine (h45 _ _).mono ?_; rintro e w1 ⟨rfl, rfl⟩)
    | (go_at_call_of 81 (Value.int .u8 46); refine (h46 _ _).mono ?_; rintro e w1 ⟨rfl, rfl⟩)
    | (go_at_call_of 81 (Value.int .u8 101); refine (h101 _ _).mono ?_; rintro e w1 ⟨rfl, rfl⟩)
    | (go_at_call_of 81 (Value.int .u8 69); refine (h69 _ _).mono ?_; rintro e w1 ⟨rfl, rfl⟩)
    | (go_at_call_of 81 (Value.int .u8 43); refine (h43 _ _).mono ?_; rintro e w1 ⟨rfl, rfl⟩)
    | (go_at_call 82; refine (hd _ _).mono ?_; rintro e w1 ⟨rfl, rfl⟩)
    | (go_at_call 82; refine (hd1 _ _).mono ?_; rintro e w1 ⟨rfl, rfl⟩))
        go_meet
        exact ⟨by rw [e0]; rfl, rfl⟩
    case rest =>
    obtain ⟨rfl, rfl⟩ := hcut
    go_upto_if 52 with (fail)
    go_cut [5] (fun v wx => v = .int .i64 n3 ∧ w = wx)
    case first =>
      cases e0 : (isAt s.data.toList n2 101 || isAt s.data.toList n2 69) with
      | true =>
        have hl2 : n2 < s.size := by
          simp only [Bool.or_eq_true] at e0
          rcases e0 with h | h
          · exact hle _ _ h
          · exact hle _ _ h
        have h4s : n4 ≤ s.size := by
          rw [← H4.out]
          split
          · rename_i h
            simp only [Bool.or_eq_true] at h
            rcases h with h | h
            · have := hle _ _ h; omega
            · have := hle _ _ h; omega
          · omega
        have E0 := Lib.hid e0
        clear e0
        go_upto_region 16 with (fail)
        go_cut [62] (fun v wx => v = .bool (isAt s.data.toList (n2 + 1) 43 || isAt s.data.toList (n2 + 1) 45) ∧ w = wx)
        case first =>
          cases e0 : isAt s.data.toList (n2 + 1) 43 with
          | true =>
            go_wp2_with (first
    | (go_at_call_of 81 (Value.int .u8 45); refine (h45 _ _).mono ?_; rintro e w1 ⟨rfl, rfl⟩)
    | (go_at_call_of 81 (Value.int .u8 46); refine (h46 _ _).mono ?_; rintro e w1 ⟨rfl, rfl⟩)
    | (go_at_call_of 81 (Value.int .u8 101); refine (h101 _ _).mono ?_; rintro e w1 ⟨rfl, rfl⟩)
    | (go_at_call_of 81 (Value.int .u8 69); refine (h69 _ _).mono ?_; rintro e w1 ⟨rfl, rfl⟩)
    | (go_at_call_of 81 (Value.int .u8 43); refine (h43 _ _).mono ?_; rintro e w1 ⟨rfl, rfl⟩)
    | (go_at_call_of 81 (Value.int .u8 43); refine (h43b _ _).mono ?_; rintro e w1 ⟨rfl, rfl⟩)
    | (go_at_call_of 81 (Value.int .u8 45); refine (h45b _ _).mono ?_; rintro e w1 ⟨rfl, rfl⟩)
    | (go_at_call 82; refine (hd _ _).mono ?_; rintro e w1 ⟨rfl, rfl⟩)
    | (go_at_call 82; refine (hd1 _ _).mono ?_; rintro e w1 ⟨rfl, rfl⟩))
            go_meet
            exact ⟨by rw [e0]; rfl, rfl⟩
          | false =>
            go_wp2_with (first
    | (go_at_call_of 81 (Value.int .u8 45); refine (h45 _ _).mono ?_; rintro e w1 ⟨rfl, rfl⟩)
    | (go_at_call_of 81 (Value.int .u8 46); refine (h46 _ _).mono ?_; rintro e w1 ⟨rfl, rfl⟩)
    | (go_at_call_of 81 (Value.int .u8 101); refine (h101 _ _).mono ?_; rintro e w1 ⟨rfl, rfl⟩)
    | (go_at_call_of 81 (Value.int .u8 69); refine (h69 _ _).mono ?_; rintro e w1 ⟨rfl, rfl⟩)
    | (go_at_call_of 81 (Value.int .u8 43); refine (h43 _ _).mono ?_; rintro e w1 ⟨rfl, rfl⟩)
    | (go_at_call_of 81 (Value.int .u8 43); refine (h43b _ _).mono ?_; rintro e w1 ⟨rfl, rfl⟩)
    | (go_at_call_of 81 (Value.int .u8 45); refine (h45b _ _).mono ?_; rintro e w1 ⟨rfl, rfl⟩)
    | (go_at_call 82; refine (hd _ _).mono ?_; rintro e w1 ⟨rfl, rfl⟩)
    | (go_at_call 82; refine (hd1 _ _).mono ?_; rintro e w1 ⟨rfl, rfl⟩))
            go_meet
            exact ⟨by rw [e0]; rfl, rfl⟩
        case rest =>
        obtain ⟨rfl, rfl⟩ := hcut
        go_upto_if 62 with (fail)
        go_cut [6] (fun v wx => v = .int .i64 n4 ∧ w = wx)
        case first =>
          cases e0 : (isAt s.data.toList (n2 + 1) 43 || isAt s.data.toList (n2 + 1) 45) with
          | true =>
            have E1 := Lib.hid e0
            clear e0
            go_wp2_with (first
    | (go_at_call_of 81 (Value.int .u8 45); refine (h45 _ _).mono ?_; rintro e w1 ⟨rfl, rfl⟩)
    | (go_at_call_of 81 (Value.int .u8 46); refine (h46 _ _).mono ?_; rintro e w1 ⟨rfl, rfl⟩)
    | (go_at_call_of 81 (Value.int .u8 101); refine (h101 _ _).mono ?_; rintro e w1 ⟨rfl, rfl⟩)
    | (go_at_call_of 81 (Value.int .u8 69); refine (h69 _ _).mono ?_; rintro e w1 ⟨rfl, rfl⟩)
    | (go_at_call_of 81 (Value.int .u8 43); refine (h43 _ _).mono ?_; rintro e w1 ⟨rfl, rfl⟩)
    | (go_at_call 82; refine (hd _ _).mono ?_; rintro e w1 ⟨rfl, rfl⟩)
    | (go_at_call 82; refine (hd1 _ _).mono ?_; rintro e w1 ⟨rfl, rfl⟩))
            go_meet
            exact ⟨by rw [← H4.out, E1.out]; go_num, rfl⟩
          | false =>
            have E1 := Lib.hid e0
            clear e0
            go_wp2_with (first
    | (go_at_call_of 81 (Value.int .u8 45); refine (h45 _ _).mono ?_; rintro e w1 ⟨rfl, rfl⟩)
    | (go_at_call_of 81 (Value.int .u8 46); refine (h46 _ _).mono ?_; rintro e w1 ⟨rfl, rfl⟩)
    | (go_at_call_of 81 (Value.int .u8 101); refine (h101 _ _).mono ?_; rintro e w1 ⟨rfl, rfl⟩)
    | (go_at_call_of 81 (Value.int .u8 69); refine (h69 _ _).mono ?_; rintro e w1 ⟨rfl, rfl⟩)
    | (go_at_call_of 81 (Value.int .u8 43); refine (h43 _ _).mono ?_; rintro e w1 ⟨rfl, rfl⟩)
    | (go_at_call 82; refine (hd _ _).mono ?_; rintro e w1 ⟨rfl, rfl⟩)
    | (go_at_call 82; refine (hd1 _ _).mono ?_; rintro e w1 ⟨rfl, rfl⟩))
            go_meet
            exact ⟨by rw [← H4.out, E1.out]; go_num, rfl⟩
        case rest =>
        obtain ⟨rfl, rfl⟩ := hcut
        cases e2 : digAt s.data.toList n4 with
        | true =>
          have hN3 : runE s.data.toList n4 = n3 := by rw [← H3.out, E0.out, e2]; rfl
          have hl4 := hdl _ e2
          go_wp2_with (first
    | (go_at_call_of 81 (Value.int .u8 45); refine (h45 _ _).mono ?_; rintro e w1 ⟨rfl, rfl⟩)
    | (go_at_call_of 81 (Value.int .u8 46); refine (h46 _ _).mono ?_; rintro e w1 ⟨rfl, rfl⟩)
    | (go_at_call_of 81 (Value.int .u8 101); refine (h101 _ _).mono ?_; rintro e w1 ⟨rfl, rfl⟩)
    | (go_at_call_of 81 (Value.int .u8 69); refine (h69 _ _).mono ?_; rintro e w1 ⟨rfl, rfl⟩)
    | (go_at_call_of 81 (Value.int .u8 43); refine (h43 _ _).mono ?_; rintro e w1 ⟨rfl, rfl⟩)
    | (go_at_call 82; refine (hd _ _).mono ?_; rintro e w1 ⟨rfl, rfl⟩)
    | (go_at_call 82; refine (hd1 _ _).mono ?_; rintro e w1 ⟨rfl, rfl⟩))
          go_loopw [6] (fun v wr => ∃ j : Nat, v = .int .i64 j ∧ runE s.data.toList j = n3 ∧ j ≤ s.size ∧ w = wr) (fun v _ => s.size - (RowKit.intOf v).toNat)
          case atStart => exact ⟨_, rfl, hN3, by omega, rfl⟩
          case round =>
            obtain ⟨j, rfl, hj, hjs, rfl⟩ := hrel
            have HJ := Lib.hid hj
            clear hj
            cases e1 : digAt s.data.toList j with
            | true =>
              have hl1 := hdl _ e1
              go_wp2_with (first
    | (go_at_call_of 81 (Value.int .u8 45); refine (h45 _ _).mono ?_; rintro e w1 ⟨rfl, rfl⟩)
    | (go_at_call_of 81 (Value.int .u8 46); refine (h46 _ _).mono ?_; rintro e w1 ⟨rfl, rfl⟩)
    | (go_at_call_of 81 (Value.int .u8 101); refine (h101 _ _).mono ?_; rintro e w1 ⟨rfl, rfl⟩)
    | (go_at_call_of 81 (Value.int .u8 69); refine (h69 _ _).mono ?_; rintro e w1 ⟨rfl, rfl⟩)
    | (go_at_call_of 81 (Value.int .u8 43); refine (h43 _ _).mono ?_; rintro e w1 ⟨rfl, rfl⟩)
    | (go_at_call 82; refine (hd _ _).mono ?_; rintro e w1 ⟨rfl, rfl⟩)
    | (go_at_call 82; refine (hd1 _ _).mono ?_; rintro e w1 ⟨rfl, rfl⟩))
              go_roundw
              case rel => exact ⟨j + 1, by go_num, by rw [← runE_yes e1]; exact HJ.out, by omega, trivial⟩
              case measure => simp [RowKit.intOf]; omega
            | false =>
              go_wp2_with (first
    | (go_at_call_of 81 (Value.int .u8 45); refine (h45 _ _).mono ?_; rintro e w1 ⟨rfl, rfl⟩)
    | (go_at_call_of 81 (Value.int .u8 46); refine (h46 _ _).mono ?_; rintro e w1 ⟨rfl, rfl⟩)
    | (go_at_call_of 81 (Value.int .u8 101); refine (h101 _ _).mono ?_; rintro e w1 ⟨rfl, rfl⟩)
    | (go_at_call_of 81 (Value.int .u8 69); refine (h69 _ _).mono ?_; rintro e w1 ⟨rfl, rfl⟩)
    | (go_at_call_of 81 (Value.int .u8 43); refine (h43 _ _).mono ?_; rintro e w1 ⟨rfl, rfl⟩)
    | (go_at_call 82; refine (hd _ _).mono ?_; rintro e w1 ⟨rfl, rfl⟩)
    | (go_at_call 82; refine (hd1 _ _).mono ?_; rintro e w1 ⟨rfl, rfl⟩))
              go_meet
              exact ⟨by rw [← HJ.out, runE_no e1], rfl⟩
        | false =>
          go_wp2_with (first
    | (go_at_call_of 81 (Value.int .u8 45); refine (h45 _ _).mono ?_; rintro e w1 ⟨rfl, rfl⟩)
    | (go_at_call_of 81 (Value.int .u8 46); refine (h46 _ _).mono ?_; rintro e w1 ⟨rfl, rfl⟩)
    | (go_at_call_of 81 (Value.int .u8 101); refine (h101 _ _).mono ?_; rintro e w1 ⟨rfl, rfl⟩)
    | (go_at_call_of 81 (Value.int .u8 69); refine (h69 _ _).mono ?_; rintro e w1 ⟨rfl, rfl⟩)
    | (go_at_call_of 81 (Value.int .u8 43); refine (h43 _ _).mono ?_; rintro e w1 ⟨rfl, rfl⟩)
    | (go_at_call 82; refine (hd _ _).mono ?_; rintro e w1 ⟨rfl, rfl⟩)
    | (go_at_call 82; refine (hd1 _ _).mono ?_; rintro e w1 ⟨rfl, rfl⟩))
          go_meet
          exact ⟨by rw [← H3.out, E0.out, e2]; rfl, rfl⟩
      | false =>
        have E0 := Lib.hid e0
        clear e0
        go_wp2_with (first
    | (go_at_call_of 81 (Value.int .u8 45); refine (h45 _ _).mono ?_; rintro e w1 ⟨rfl, rfl⟩)
    | (go_at_call_of 81 (Value.int .u8 46); refine (h46 _ _).mono ?_; rintro e w1 ⟨rfl, rfl⟩)
    | (go_at_call_of 81 (Value.int .u8 101); refine (h101 _ _).mono ?_; rintro e w1 ⟨rfl, rfl⟩)
    | (go_at_call_of 81 (Value.int .u8 69); refine (h69 _ _).mono ?_; rintro e w1 ⟨rfl, rfl⟩)
    | (go_at_call_of 81 (Value.int .u8 43); refine (h43 _ _).mono ?_; rintro e w1 ⟨rfl, rfl⟩)
    | (go_at_call 82; refine (hd _ _).mono ?_; rintro e w1 ⟨rfl, rfl⟩)
    | (go_at_call 82; refine (hd1 _ _).mono ?_; rintro e w1 ⟨rfl, rfl⟩))
        go_meet
        exact ⟨by rw [← H3.out, E0.out]; rfl, rfl⟩
    case rest =>
    obtain ⟨rfl, rfl⟩ := hcut
    go_wp2_with (first
    | (go_at_call_of 81 (Value.int .u8 45); refine (h45 _ _).mono ?_; rintro e w1 ⟨rfl, rfl⟩)
    | (go_at_call_of 81 (Value.int .u8 46); refine (h46 _ _).mono ?_; rintro e w1 ⟨rfl, rfl⟩)
    | (go_at_call_of 81 (Value.int .u8 101); refine (h101 _ _).mono ?_; rintro e w1 ⟨rfl, rfl⟩)
    | (go_at_call_of 81 (Value.int .u8 69); refine (h69 _ _).mono ?_; rintro e w1 ⟨rfl, rfl⟩)
    | (go_at_call_of 81 (Value.int .u8 43); refine (h43 _ _).mono ?_; rintro e w1 ⟨rfl, rfl⟩)
    | (go_at_call 82; refine (hd _ _).mono ?_; rintro e w1 ⟨rfl, rfl⟩)
    | (go_at_call 82; refine (hd1 _ _).mono ?_; rintro e w1 ⟨rfl, rfl⟩))
    go_ret
    exact ⟨ret_int (by omega), rfl⟩
end Go.Proofs.Jt
