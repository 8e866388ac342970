/- The walk of the reference's quoted. -/
import Derived.Test.YtphiceebhncflaaDoorR8
namespace Go.Proofs.Jt
open Go.RowKit Go.Proofs Go.Lib Go.Proofs.Utf

def quV (Q : Option (List UInt8 × Nat)) (i : Nat) : Value := match Q with | none => .tuple #[.string ⟨#[]⟩, .int .i64 0] | some r => .tuple #[.string ⟨r.1.toArray⟩, .int .i64 ((i + r.2 : Nat) : Int)]
def qAt (l A : List UInt8) (j : Nat) : Option (List UInt8 × Nat) := (qq (l.drop j)).map fun r => (A ++ r.1, j + r.2)
theorem append_list (A B : ByteArray) : (A ++ B).data.toList = A.data.toList ++ B.data.toList := by
  rw [ByteArray.data_append, Array.toList_append]
set_option maxRecDepth 100000 in
set_option maxHeartbeats 2000000 in
theorem quoted_ref (s : ByteArray) (i : Nat) (w : World) (hs : s.size ≤ 16777216) (hi : i < s.size) : Calls Tryd.prog 59 #[.string s, .int .i64 i] w fun e w' => e = .returned (quV (qAt s.data.toList [] (i + 1)) 0) ∧ Below w.heap.size w w' := by
  obtain ⟨Q, hQ⟩ : ∃ Q, qAt s.data.toList [] (i + 1) = Q := ⟨_, rfl⟩
  rw [hQ]
  have hesc := fun j hj w => escape_any s j w hs hj
  have HQ := Lib.hid hQ
  clear hQ
  go_enter Tryd.func59, Tryd.ntmps59
  go_wp2
  go_loopw [1, 6, 7, 8] (fun v a _ _ wr => ∃ (j : Nat) (A : ByteArray), v = .int .i64 j ∧ a = .string A ∧ j ≤ s.size ∧ A.size ≤ 4 * j ∧ qAt s.data.toList A.data.toList j = Q ∧ Below w.heap.size w wr) (fun v _ _ _ _ => s.size - (RowKit.intOf v).toNat)
  case atStart => exact ⟨i + 1, ⟨#[]⟩, by go_num, rfl, by omega, by simp [ByteArray.size], HQ.out, Below.refl _ _⟩
  case round =>
    obtain ⟨j, A, rfl, rfl, hj, hAs, hq, hB⟩ := hrel
    have HQ2 := Lib.hid hq
    clear hq
    by_cases hlt : (j : Int) < (s.size : Int)
    · have hj' : j < s.size := by omega
      have hdc := drop_cons s j hj'
      have hcut : (s.extract j (j + 1)).data.toList = [s[j]] := by
        rw [Lib.extract_data, hdc]
        simp
      by_cases h34 : s[j] = 34
      · have t1 : ((s[j].toNat : Int) == 34) = true := by rw [h34]; rfl
        have hr : Q = some (A.data.toList, j + 1) := by
          rw [← HQ2.out]
          unfold qAt
          rw [hdc, h34, qq_end]
          simp
        have hA : (⟨A.data.toList.toArray⟩ : ByteArray) = A := by simp
        have HR := Lib.hid hr
        have HA := Lib.hid hA
        clear hdc hcut h34 hesc hr hA
        go_wp2
        go_ret2
        refine ⟨ret_val ?_, hB⟩
        rw [HR.out]
        simp [quV]
      · have t1 : ((s[j].toNat : Int) == 34) = false := byte_not h34
        by_cases h32 : s[j].toNat < 32
        · have t2 : decide ((s[j].toNat : Int) < 32) = true := by simp; omega
          have hr : Q = none := by
            rw [← HQ2.out]
            unfold qAt
            rw [hdc, qq_ctl _ _ h32]
            rfl
          have HR := Lib.hid hr
          clear hdc hcut h34 hesc hr h32
          go_wp2
          go_ret2
          refine ⟨ret_val ?_, hB⟩
          rw [HR.out]
          rfl
        · have t2 : decide ((s[j].toNat : Int) < 32) = false := by simp; omega
          by_cases h92 : s[j] = 92
          · have t3 : ((s[j].toNat : Int) != 92) = false := by rw [h92]; rfl
            have hc : ∀ w, Calls Tryd.prog 80 #[.string s, .int .i64 ((j : Int) + 1)] w fun e w' => e = .returned (escV s.data.toList (j + 1)) ∧ Below w.heap.size w w' := fun w => hesc (j + 1) (by omega) w
            have hqe := qq_esc (s.data.toList.drop (j + 1))
            rw [← h92, ← hdc] at hqe
            have hasc := esc_ascii (s.data.toList.drop (j + 1))
            have hle := esc_le (s.data.toList.drop (j + 1))
            rw [List.length_drop, ← Lib.size_eq] at hle
            obtain ⟨x, m, hxm⟩ : ∃ x m, escR (s.data.toList.drop (j + 1)) = (x, m) := ⟨_, _, rfl⟩
            rw [hxm] at hqe hasc hle
            simp only at hqe hasc hle
            by_cases hm : m = 0
            · rw [if_pos hm] at hqe
              have hr : Q = none := by
                rw [← HQ2.out]
                unfold qAt
                rw [hqe]
                rfl
              have hev : escV s.data.toList (j + 1) = .tuple #[.string ⟨#[]⟩, .int .i64 0] := escV_none (by rw [hxm]; exact hm)
              rw [hev] at hc
              have HR := Lib.hid hr
              clear hdc hcut h34 hesc hr h32 h92 hqe hasc hle hxm hev hm
              go_wp2_with (first | (go_at_call 80; refine (hc _).mono ?_; rintro e w1 ⟨rfl, hb1⟩))
              go_ret2
              refine ⟨ret_val ?_, hB.trans (hb1.mono hB.size)⟩
              rw [HR.out]
              rfl
            · rw [if_neg hm] at hqe
              have hlen := enc_len4 x (hasc.2.1 hm)
              have hev : escV s.data.toList (j + 1) = .tuple #[.string ⟨(encodeRune x).toArray⟩, .int .i64 ((j + 1 + m : Nat) : Int)] := escV_some hxm hm
              rw [hev] at hc
              have hr : qAt s.data.toList (A ++ ⟨(encodeRune x).toArray⟩).data.toList (j + 1 + m) = Q := by
                rw [← HQ2.out, append_list]
                unfold qAt
                rw [hqe, Option.map_map, List.drop_drop]
                congr 1
                funext r
                simp only [Function.comp, List.append_assoc, Prod.mk.injEq, true_and]
                omega
              obtain ⟨E, hE⟩ : ∃ E : ByteArray, (⟨(encodeRune x).toArray⟩ : ByteArray) = E := ⟨_, rfl⟩
              have hEs : E.size ≤ 4 := by rw [← hE]; simpa [ByteArray.size] using hlen
              rw [hE] at hr hc
              obtain ⟨k, hk⟩ : ∃ k, j + 1 + m = k := ⟨_, rfl⟩
              rw [hk] at hr hc
              have HR := Lib.hid hr
              have u1 : ((k : Int) == 0) = false := beq_eq_false_iff_ne.2 (by omega)
              have hk1 : j + 2 ≤ k := by omega
              have hk2 : k ≤ s.size := by omega
              clear hdc hcut h34 hesc hr h32 h92 hqe hasc hle hxm hev hm hlen hE hk
              go_wp2_with (first | (go_at_call 80; refine (hc _).mono ?_; rintro e w1 ⟨rfl, hb1⟩))
              go_roundw
              case rel => exact ⟨k, _, rfl, rfl, by omega, by rw [ByteArray.size_append]; omega, HR.out, hB.trans (hb1.mono hB.size)⟩
              case measure => simp [RowKit.intOf]; omega
          · have t3 : ((s[j].toNat : Int) != 92) = true := by simp only [bne, show ((s[j].toNat : Int) == 92) = false from byte_not h92, Bool.not_false]
            have hr : qAt s.data.toList (A ++ s.extract j (j + 1)).data.toList (j + 1) = Q := by
              rw [← HQ2.out, append_list, hcut]
              unfold qAt
              rw [hdc, qq_byte _ _ h34 h32 h92, Option.map_map]
              congr 1
              funext r
              simp only [Function.comp, List.append_assoc, List.singleton_append, Prod.mk.injEq, true_and]
              omega
            have HR := Lib.hid hr
            have hes : (s.extract j (j + 1)).size = 1 := by rw [ByteArray.size_extract]; omega
            clear hdc hcut h34 hesc hr h32 h92
            go_wp2
            go_roundw
            case rel => exact ⟨j + 1, _, by go_num, rfl, by omega, by rw [ByteArray.size_append, hes]; omega, HR.out, hB⟩
            case measure => simp [RowKit.intOf]; omega
    · have hd : s.data.toList.drop j = [] := List.drop_eq_nil_of_le (by rw [← Lib.size_eq]; omega)
      have hr : Q = none := by
        rw [← HQ2.out]
        unfold qAt
        rw [hd, qq_nil]
        rfl
      have HR := Lib.hid hr
      clear hd hesc hr
      go_wp2
      go_ret2
      refine ⟨ret_val ?_, hB⟩
      rw [HR.out]
      rfl
end Go.Proofs.Jt
