/- The walks of the reference's Broken and numbered. -/
import Derived.Test.YtphiceebhncflaaDoorR2
namespace Go.Proofs.Jt
open Go.RowKit Go.Proofs Go.Lib Go.Proofs.Utf

theorem valid_parts (l : List UInt8) (hne : l ≠ []) : validD l = (isPt l && validD (l.drop (headW l))) := by
  rw [validD_step l hne]
  unfold isPt headW
  by_cases h : (decodeL l).1 = 65533 ∧ (decodeL l).2 = 1
  · rw [if_pos h]; simp [h]
  · rw [if_neg h]; simp [h]
theorem drop_ne (s : ByteArray) (i : Nat) (hi : i < s.size) : s.data.toList.drop i ≠ [] := by
  intro e
  have := congrArg List.length e
  rw [List.length_drop, ← Lib.size_eq] at this
  simp at this
  omega
def brokenI (l : List UInt8) : Int := if validD l then -1 else (br l 0 : Int)
theorem headW_size (s : ByteArray) (i : Nat) (hi : i < s.size) : 1 ≤ headW (s.data.toList.drop i) ∧ i + headW (s.data.toList.drop i) ≤ s.size := by
  have h1 := headW_pos (s.data.toList.drop i)
  have h2 := headW_le (s.data.toList.drop i) (List.length_pos_iff.2 (drop_ne s i hi))
  rw [List.length_drop, ← Lib.size_eq] at h2
  omega
set_option maxRecDepth 100000 in
set_option maxHeartbeats 1000000 in
theorem broken_ref (s : ByteArray) (w : World) (hs : s.size ≤ 16777216) : Calls Tryd.prog 35 #[.string s] w fun e w' => e = .returned (.int .i64 (brokenI s.data.toList)) ∧ w' = w := by
  obtain ⟨r, hr⟩ : ∃ r, brokenI s.data.toList = r := ⟨_, rfl⟩
  rw [hr]
  unfold brokenI at hr
  have HR := Lib.hid hr
  clear hr
  have hst := fun i hi w => step_any s i w hs hi
  go_enter Tryd.func35, Tryd.ntmps35
  go_wp2
  go_loopw [3] (fun v wr => ∃ i : Nat, v = .int .i64 i ∧ i ≤ s.size ∧ validD s.data.toList = validD (s.data.toList.drop i) ∧ br s.data.toList 0 = br (s.data.toList.drop i) i ∧ wr = w) (fun v _ => s.size - (RowKit.intOf v).toNat)
  case atStart => exact ⟨0, rfl, Nat.zero_le _, rfl, rfl, rfl⟩
  case round =>
    obtain ⟨i, rfl, hi, hv, hb, rfl⟩ := hrel
    have HV := Lib.hid hv
    have HB := Lib.hid hb
    clear hv hb
    by_cases hlt : (i : Int) < (s.size : Int)
    · have hi' : i < s.size := by omega
      have hc := hst i hi' wr
      have hw := headW_size s i hi'
      have hne := drop_ne s i hi'
      have hvp := valid_parts _ hne
      have hbs := br_step (s.data.toList.drop i) i hne
      unfold stepL at hc
      cases hp : isPt (s.data.toList.drop i) with
      | true =>
        rw [hp, if_pos rfl] at hc
        rw [hp, Bool.true_and, List.drop_drop] at hvp
        rw [hp, if_pos rfl, List.drop_drop] at hbs
        obtain ⟨m, hm⟩ : ∃ m, headW (s.data.toList.drop i) = m := ⟨_, rfl⟩
        rw [hm] at hc hw hvp hbs
        have u1 : ((m : Int) == 0) = false := beq_eq_false_iff_ne.2 (by omega)
        have HVP := Lib.hid hvp
        have HBS := Lib.hid hbs
        clear hst hvp hbs hp hm hne
        go_wp2_with (first
          | (go_at_call 58; refine hc.mono ?_; rintro e w1 ⟨rfl, rfl⟩))
        go_roundw
        case rel => exact ⟨i + m, by go_num, by omega, by rw [HV.out, HVP.out], by rw [HB.out, HBS.out], trivial⟩
        case measure => simp [RowKit.intOf]; omega
      | false =>
        rw [hp, if_neg (by decide)] at hc
        rw [hp, Bool.false_and] at hvp
        rw [hp, if_neg (by decide)] at hbs
        have hr : r = (i : Int) := by rw [← HR.out, HV.out, hvp, if_neg (by decide), HB.out, hbs]
        clear hst hvp hbs hp hne hw
        go_wp2_with (first
          | (go_at_call 58; refine hc.mono ?_; rintro e w1 ⟨rfl, rfl⟩))
        go_ret
        exact ⟨ret_int hr.symm, rfl⟩
    · have hd : s.data.toList.drop i = [] := List.drop_eq_nil_of_le (by rw [← Lib.size_eq]; omega)
      have hr : r = -1 := by rw [← HR.out, HV.out, hd]; rfl
      clear hst hd
      go_wp2
      go_ret
      exact ⟨ret_int (by omega), rfl⟩
end Go.Proofs.Jt
