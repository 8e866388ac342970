/- The reference's Int. Printed by gen_i3.py. -/
import Derived.Test.YtaiaiiepbpbmmaaGreatDoorI2
namespace Go.Proofs.Jt
open Go.RowKit Go.Maps Go.Lib Go.Proofs.Utf Go.Proofs

theorem ext_tail (S : ByteArray) : (S.extract 1 S.size).data.toList = S.data.toList.tail := by
 rw [Lib.extract_data, List.drop_one, List.take_of_length_le]
 rw [List.length_tail, Lib.size_eq]
 exact Nat.le_refl _
/-- what the loop has read -/
theorem intL_end {s : List UInt8} (h : wholeD (bodyL s) = true) (hm : s.head? = some 45) (hl : nvL 0 (bodyL s) ≤ 9223372036854775808) : intL s = some (-(nvL 0 (bodyL s) : Int)) := by
 unfold intL
 rw [if_pos h, if_pos hm, if_pos hl]
theorem intL_end2 {s : List UInt8} (h : wholeD (bodyL s) = true) (hm : ¬ s.head? = some 45) (hl : nvL 0 (bodyL s) < 9223372036854775808) : intL s = some (nvL 0 (bodyL s) : Int) := by
 unfold intL
 rw [if_pos h, if_neg hm, if_pos hl]
theorem intL_end3 {s : List UInt8} (hm : ¬ s.head? = some 45) (hl : ¬ nvL 0 (bodyL s) < 9223372036854775808) : intL s = none := by
 unfold intL
 rw [if_neg hm, if_neg hl]
 split <;> rfl
set_option maxRecDepth 100000 in
set_option maxHeartbeats 8000000 in
theorem rint_any {w : World} (k : Int) (S : ByteArray) {kp ip : Option Addr} {kn kc n ic : Nat} (hs : S.size ≤ 16777216) (o : Option Int) (ho : (if k = 3 then intL S.data.toList else none) = o) :
 Calls Tryz.prog 30 #[.agg #[.int .i64 k, .string S, .slice kp kn kc, .slice ip n ic]] w fun e w' => e = .returned (.tuple #[.int .i64 (o.getD 0), .bool o.isSome]) ∧ Below w.heap.size w w' := by
 obtain ⟨W, hW⟩ : ∃ W, w.alloc (.cells #[.int .i64 k, .string S, .slice kp kn kc, .slice ip n ic] 25) = W := ⟨_, rfl⟩
 have bW := alloc_b hW
 obtain ⟨c0, c1, c2, c3⟩ := box_of hW W (Below.refl _ _)
 have HBW := Lib.hid bW
 clear bW
 have hslen : S.data.toList.length = S.size := by rw [Array.length_toList]; rfl
 by_cases hS0 : S.size = 0
 · obtain rfl := nil_of_size hS0
   have : o = none := by
    rw [← ho]
    split
    · exact intL_none_of (by rfl)
    · rfl
   subst this
   clear ho hs hslen hS0
   by_cases k3 : k = 3
   · subst k3
     go_enter Tryz.func30, Tryz.ntmps30
     go_wp2_with fail
     go_ret2
     exact ⟨rfl, HBW.out⟩
   · have q1 : (k == 3) = false := beq_eq_false_iff_ne.2 k3
     have q2 : (k != 3) = true := by simp [k3]
     clear k3
     go_enter Tryz.func30, Tryz.ntmps30
     go_wp2_with fail
     go_ret2
     exact ⟨rfl, HBW.out⟩
 · have hS1 : 0 < S.size := by omega
   have hSi : (S.size : Int) > 0 := by omega
   have hh : S.data.toList.head? = some 45 ↔ S[0].toNat = 45 := by
    rw [List.head?_eq_getElem?, lget S 0 hS1]
    constructor
    · intro e; rw [Option.some.inj e]; rfl
    · intro e; exact congrArg some (UInt8.toNat_inj.1 e)
   by_cases hc : S[0].toNat = 45
   · obtain ⟨D, hD⟩ : ∃ D : ByteArray, S.extract 1 S.size = D := ⟨_, rfl⟩
     have hDl : D.data.toList = bodyL S.data.toList := by
      rw [← hD, ext_tail]
      exact (if_pos (hh.2 hc)).symm
     have t45 : ((S[0].toNat : Int) == 45) = true := by rw [hc]; rfl
     have hhd := hh.2 hc
     have hcut : (1 : Int) ≤ (S.size : Int) := by omega
     have hDs : D.size ≤ 16777216 := by
      have := body_len S.data.toList
      rw [Lib.size_eq, hDl]
      omega
     have hdlen : D.data.toList.length = D.size := by rw [Array.length_toList]; rfl
     have HDL := Lib.hid hDl
     have HHD := Lib.hid hhd
     have HDLEN := Lib.hid hdlen
     clear hDl hhd hdlen hh hslen hc
     by_cases k3 : k = 3
     · subst k3
       rw [if_pos rfl] at ho
       by_cases hn : D.size = 0
       · obtain ⟨E, hE⟩ : ∃ E : ByteArray, D = E := ⟨_, rfl⟩
         have hE0 : E = ⟨#[]⟩ := by rw [← hE]; exact nil_of_size hn
         have : o = none := by rw [← ho]; exact intL_none_of (by rw [← HDL.out, hE, hE0]; rfl)
         subst this
         rw [hE] at hD
         subst hE0
         clear ho HDL HHD HDLEN
         go_enter Tryz.func30, Tryz.ntmps30
         go_upto_region 5 with fail
         go_wp2_with fail
         go_ret2
         exact ⟨rfl, HBW.out⟩
       · have hd1' : 0 < D.size := by omega
         obtain ⟨n1, n2, n3⟩ := some_of_size hd1'
         have hd1 : 0 < D.size := by omega
         have hd0 : 0 < (D.size : Int) := by omega
         clear hn
         by_cases h19 : (D.size : Int) > 19
         · have : o = none := by rw [← ho]; exact intL_long (by rw [← HDL.out, HDLEN.out]; omega)
           subst this
           clear ho HDL HHD HDLEN
           go_enter Tryz.func30, Tryz.ntmps30
           go_upto_region 5 with fail
           go_wp2_with fail
           go_ret2
           exact ⟨rfl, HBW.out⟩
         · obtain ⟨c, hc⟩ : ∃ c : Nat, D[0].toNat = c := ⟨_, rfl⟩
           have hh : D.data.toList.head? = some 48 ↔ c = 48 := by
            rw [List.head?_eq_getElem?, lget D 0 hd1]
            constructor
            · intro e; rw [← hc, Option.some.inj e]; rfl
            · intro e; rw [e] at hc; exact congrArg some (UInt8.toNat_inj.1 hc)
           have HH := Lib.hid hh
           clear hh
           by_cases h1 : (D.size : Int) > 1
           · by_cases h48 : c = 48
             · have : o = none := by
                rw [← ho]
                refine intL_none_of ?_
                rw [← HDL.out]
                unfold wholeD
                rw [decide_eq_true (HH.out.2 h48), decide_eq_true (show 1 < D.data.toList.length by rw [HDLEN.out]; omega)]
                simp
               subst this
               have t1 : ((D[0].toNat : Int) == 48) = true := by rw [hc, h48]; rfl
               clear ho HDL HHD HDLEN HH hc h48
               go_enter Tryz.func30, Tryz.ntmps30
               go_upto_region 5 with fail
               go_wp2_with fail
               go_ret2
               exact ⟨rfl, HBW.out⟩
             · have t1 : ((D[0].toNat : Int) == 48) = false := by rw [hc]; exact beq_eq_false_iff_ne.2 (by omega)
               have HZ : Hid (D.data.toList.all isDig = true → wholeD D.data.toList = true) := Lib.hid fun ha => by
                unfold wholeD
                rw [ha, decide_eq_true (show D.data.toList ≠ [] from fun e => by have := HDLEN.out; rw [e, List.length_nil] at this; omega), decide_eq_false (fun e => h48 (HH.out.1 e))]
                rfl
               clear HH hc h48
               go_enter Tryz.func30, Tryz.ntmps30
               go_upto_region 5 with fail
               go_wp2_with fail
               go_loopw [7, 8] (fun nv iv wr => ∃ i m : Nat, iv = .int .i64 i ∧ i ≤ D.size ∧ nv = .int .i64 (-(m : Int)) ∧ nvL 0 (D.data.toList.take i) = m ∧ m ≤ 9223372036854775808 ∧ (D.data.toList.take i).all isDig = true ∧ wr = W) (fun _ iv _ => D.size - (RowKit.intOf iv).toNat)
               case atStart => exact ⟨0, 0, rfl, Nat.zero_le _, rfl, rfl, by decide, rfl, rfl⟩
               case round =>
                obtain ⟨i, m, rfl, hi, rfl, hm, hml, hall, rfl⟩ := hrel
                by_cases hin : (i : Int) < (D.size : Int)
                · have hin2 : i < D.size := by omega
                  obtain ⟨b, hb⟩ : ∃ b : Nat, D[i].toNat = b := ⟨_, rfl⟩
                  have hb8 : b ≤ 255 := by rw [← hb]; exact Nat.le_of_lt_succ D[i].toNat_lt
                  have hgi := lget D i hin2
                  have HGI := Lib.hid hgi
                  have HB := Lib.hid hb
                  have HM := Lib.hid hm
                  have HALL := Lib.hid hall
                  have hdig : isDig D[i] = decide (48 ≤ b ∧ b ≤ 57) := by rw [← hb]; rfl
                  have HDIG := Lib.hid hdig
                  have HO := Lib.hid ho
                  have hbad : (isDig D[i] = false ∨ 9223372036854775808 < m * 10 + (b - 48)) → o = none := fun h => by
                   rw [← HO.out]
                   refine intL_bad (i := i) (c := D[i]) (by rw [← HDL.out]; exact HGI.out) ?_
                   rw [← HDL.out, HM.out, HB.out]
                   exact h
                  have HBAD := Lib.hid hbad
                  have wb : ((D[i].toNat : Nat) : Int) = (b : Int) := by rw [hb]
                  clear hgi hm hall hdig hbad ho
                  by_cases d1 : b < 48
                  · have z1 : decide ((b : Int) - 48 < 0) = true := decide_eq_true (by omega)
                    have z2 : (b : Int) < 48 := by omega
                    have : o = none := HBAD.out (.inl (by rw [HDIG.out]; exact decide_eq_false (by omega)))
                    subst this
                    clear HBAD HO
                    go_wp2_with fail
                    go_ret2
                    exact ⟨rfl, HBW.out⟩
                  · by_cases d2 : 57 < b
                    · have : o = none := HBAD.out (.inl (by rw [HDIG.out]; exact decide_eq_false (by omega)))
                      subst this
                      have z1 : ¬ (b : Int) - 48 < 0 := by omega
                      have z2 : (b : Int) - 48 > 9 := by omega
                      clear HBAD HO
                      go_wp2_with fail
                      go_ret2
                      exact ⟨rfl, HBW.out⟩
                    · have z1 : ¬ (b : Int) - 48 < 0 := by omega
                      have z2 : ¬ (b : Int) - 48 > 9 := by omega
                      by_cases d3 : 922337203685477580 < m
                      · have : o = none := HBAD.out (.inr (by omega))
                        subst this
                        have z3 : -(m : Int) < -922337203685477580 := by omega
                        clear HBAD HO
                        go_wp2_with fail
                        go_ret2
                        exact ⟨rfl, HBW.out⟩
                      · have z3 : ¬ -(m : Int) < -922337203685477580 := by omega
                        by_cases d4 : 9223372036854775808 < m * 10 + (b - 48)
                        · have : o = none := HBAD.out (.inr d4)
                          subst this
                          have z4 : 10 * -(m : Int) < -9223372036854775808 + ((b : Int) - 48) := by omega
                          clear HBAD HO
                          go_wp2_with fail
                          go_ret2
                          exact ⟨rfl, HBW.out⟩
                        · have z4 : ¬ 10 * -(m : Int) < -9223372036854775808 + ((b : Int) - 48) := by omega
                          have HN : Hid (nvL 0 (D.data.toList.take (i + 1)) = m * 10 + (b - 48)) := Lib.hid (by rw [nvL_take HGI.out, HM.out, HB.out])
                          have HA : Hid ((D.data.toList.take (i + 1)).all isDig = true) := Lib.hid (by
                           rw [List.take_add_one, HGI.out, List.all_append, HALL.out]
                           show (true && (isDig D[i] && true)) = true
                           rw [HDIG.out, decide_eq_true (show 48 ≤ b ∧ b ≤ 57 by omega)]
                           rfl)
                          clear HBAD
                          go_wp2_with fail
                          go_roundw
                          case rel => exact ⟨i + 1, m * 10 + (b - 48), by go_num, by omega, by first | (congr 1; omega) | go_num, HN.out, by omega, HA.out, by trivial⟩
                          case measure => simp [RowKit.intOf]; omega
                · have hii : i = D.size := by omega
                  have hfull : D.data.toList.take i = D.data.toList := List.take_of_length_le (by rw [HDLEN.out]; omega)
                  rw [hfull] at hm hall
                  have hwh := HZ.out hall
                  rw [HDL.out] at hm hwh
                  clear hfull hall
                  have : o = some (-(m : Int)) := by rw [← ho, intL_end hwh HHD.out (by omega), hm]
                  subst this
                  clear ho hm hwh
                  go_wp2_with fail
                  go_ret2
                  exact ⟨rfl, HBW.out⟩
           · have HZ : Hid (D.data.toList.all isDig = true → wholeD D.data.toList = true) := Lib.hid fun ha => by
              unfold wholeD
              rw [ha, decide_eq_true (show D.data.toList ≠ [] from fun e => by have := HDLEN.out; rw [e, List.length_nil] at this; omega), decide_eq_false (show ¬ 1 < D.data.toList.length by rw [HDLEN.out]; omega)]
              simp
             clear HH hc
             go_enter Tryz.func30, Tryz.ntmps30
             go_upto_region 5 with fail
             go_wp2_with fail
             go_loopw [7, 8] (fun nv iv wr => ∃ i m : Nat, iv = .int .i64 i ∧ i ≤ D.size ∧ nv = .int .i64 (-(m : Int)) ∧ nvL 0 (D.data.toList.take i) = m ∧ m ≤ 9223372036854775808 ∧ (D.data.toList.take i).all isDig = true ∧ wr = W) (fun _ iv _ => D.size - (RowKit.intOf iv).toNat)
             case atStart => exact ⟨0, 0, rfl, Nat.zero_le _, rfl, rfl, by decide, rfl, rfl⟩
             case round =>
              obtain ⟨i, m, rfl, hi, rfl, hm, hml, hall, rfl⟩ := hrel
              by_cases hin : (i : Int) < (D.size : Int)
              · have hin2 : i < D.size := by omega
                obtain ⟨b, hb⟩ : ∃ b : Nat, D[i].toNat = b := ⟨_, rfl⟩
                have hb8 : b ≤ 255 := by rw [← hb]; exact Nat.le_of_lt_succ D[i].toNat_lt
                have hgi := lget D i hin2
                have HGI := Lib.hid hgi
                have HB := Lib.hid hb
                have HM := Lib.hid hm
                have HALL := Lib.hid hall
                have hdig : isDig D[i] = decide (48 ≤ b ∧ b ≤ 57) := by rw [← hb]; rfl
                have HDIG := Lib.hid hdig
                have HO := Lib.hid ho
                have hbad : (isDig D[i] = false ∨ 9223372036854775808 < m * 10 + (b - 48)) → o = none := fun h => by
                 rw [← HO.out]
                 refine intL_bad (i := i) (c := D[i]) (by rw [← HDL.out]; exact HGI.out) ?_
                 rw [← HDL.out, HM.out, HB.out]
                 exact h
                have HBAD := Lib.hid hbad
                have wb : ((D[i].toNat : Nat) : Int) = (b : Int) := by rw [hb]
                clear hgi hm hall hdig hbad ho
                by_cases d1 : b < 48
                · have z1 : decide ((b : Int) - 48 < 0) = true := decide_eq_true (by omega)
                  have z2 : (b : Int) < 48 := by omega
                  have : o = none := HBAD.out (.inl (by rw [HDIG.out]; exact decide_eq_false (by omega)))
                  subst this
                  clear HBAD HO
                  go_wp2_with fail
                  go_ret2
                  exact ⟨rfl, HBW.out⟩
                · by_cases d2 : 57 < b
                  · have : o = none := HBAD.out (.inl (by rw [HDIG.out]; exact decide_eq_false (by omega)))
                    subst this
                    have z1 : ¬ (b : Int) - 48 < 0 := by omega
                    have z2 : (b : Int) - 48 > 9 := by omega
                    clear HBAD HO
                    go_wp2_with fail
                    go_ret2
                    exact ⟨rfl, HBW.out⟩
                  · have z1 : ¬ (b : Int) - 48 < 0 := by omega
                    have z2 : ¬ (b : Int) - 48 > 9 := by omega
                    by_cases d3 : 922337203685477580 < m
                    · have : o = none := HBAD.out (.inr (by omega))
                      subst this
                      have z3 : -(m : Int) < -922337203685477580 := by omega
                      clear HBAD HO
                      go_wp2_with fail
                      go_ret2
                      exact ⟨rfl, HBW.out⟩
                    · have z3 : ¬ -(m : Int) < -922337203685477580 := by omega
                      by_cases d4 : 9223372036854775808 < m * 10 + (b - 48)
                      · have : o = none := HBAD.out (.inr d4)
                        subst this
                        have z4 : 10 * -(m : Int) < -9223372036854775808 + ((b : Int) - 48) := by omega
                        clear HBAD HO
                        go_wp2_with fail
                        go_ret2
                        exact ⟨rfl, HBW.out⟩
                      · have z4 : ¬ 10 * -(m : Int) < -9223372036854775808 + ((b : Int) - 48) := by omega
                        have HN : Hid (nvL 0 (D.data.toList.take (i + 1)) = m * 10 + (b - 48)) := Lib.hid (by rw [nvL_take HGI.out, HM.out, HB.out])
                        have HA : Hid ((D.data.toList.take (i + 1)).all isDig = true) := Lib.hid (by
                         rw [List.take_add_one, HGI.out, List.all_append, HALL.out]
                         show (true && (isDig D[i] && true)) = true
                         rw [HDIG.out, decide_eq_true (show 48 ≤ b ∧ b ≤ 57 by omega)]
                         rfl)
                        clear HBAD
                        go_wp2_with fail
                        go_roundw
                        case rel => exact ⟨i + 1, m * 10 + (b - 48), by go_num, by omega, by first | (congr 1; omega) | go_num, HN.out, by omega, HA.out, by trivial⟩
                        case measure => simp [RowKit.intOf]; omega
              · have hii : i = D.size := by omega
                have hfull : D.data.toList.take i = D.data.toList := List.take_of_length_le (by rw [HDLEN.out]; omega)
                rw [hfull] at hm hall
                have hwh := HZ.out hall
                rw [HDL.out] at hm hwh
                clear hfull hall
                have : o = some (-(m : Int)) := by rw [← ho, intL_end hwh HHD.out (by omega), hm]
                subst this
                clear ho hm hwh
                go_wp2_with fail
                go_ret2
                exact ⟨rfl, HBW.out⟩
     · have : o = none := by rw [← ho, if_neg k3]
       subst this
       have q1 : (k == 3) = false := beq_eq_false_iff_ne.2 k3
       have q2 : (k != 3) = true := by simp [k3]
       clear ho k3 HDL HHD HDLEN
       go_enter Tryz.func30, Tryz.ntmps30
       go_upto_region 5 with fail
       go_wp2_with fail
       go_ret2
       exact ⟨rfl, HBW.out⟩
   · have hDl : S.data.toList = bodyL S.data.toList := by
      exact (if_neg (fun e => hc (hh.1 e))).symm
     have t45 : ((S[0].toNat : Int) == 45) = false := beq_eq_false_iff_ne.2 (by omega)
     have hhd : ¬ S.data.toList.head? = some 45 := fun e => hc (hh.1 e)
     have hDs : S.size ≤ 16777216 := by
      have := body_len S.data.toList
      rw [Lib.size_eq, hDl]
      omega
     have hdlen : S.data.toList.length = S.size := by rw [Array.length_toList]; rfl
     have HDL := Lib.hid hDl
     have HHD := Lib.hid hhd
     have HDLEN := Lib.hid hdlen
     clear hDl hhd hdlen hh hslen hc
     by_cases k3 : k = 3
     · subst k3
       rw [if_pos rfl] at ho
       by_cases hn : S.size = 0
       · exact absurd hn hS0
       · have hd1' : 0 < S.size := by omega
         obtain ⟨n1, n2, n3⟩ := some_of_size hd1'
         have hd1 : 0 < S.size := by omega
         have hd0 : 0 < (S.size : Int) := by omega
         clear hn
         by_cases h19 : (S.size : Int) > 19
         · have : o = none := by rw [← ho]; exact intL_long (by rw [← HDL.out, HDLEN.out]; omega)
           subst this
           clear ho HDL HHD HDLEN
           go_enter Tryz.func30, Tryz.ntmps30
           go_upto_region 5 with fail
           go_wp2_with fail
           go_ret2
           exact ⟨rfl, HBW.out⟩
         · obtain ⟨c, hc⟩ : ∃ c : Nat, S[0].toNat = c := ⟨_, rfl⟩
           have hh : S.data.toList.head? = some 48 ↔ c = 48 := by
            rw [List.head?_eq_getElem?, lget S 0 hd1]
            constructor
            · intro e; rw [← hc, Option.some.inj e]; rfl
            · intro e; rw [e] at hc; exact congrArg some (UInt8.toNat_inj.1 hc)
           have HH := Lib.hid hh
           clear hh
           by_cases h1 : (S.size : Int) > 1
           · by_cases h48 : c = 48
             · have : o = none := by
                rw [← ho]
                refine intL_none_of ?_
                rw [← HDL.out]
                unfold wholeD
                rw [decide_eq_true (HH.out.2 h48), decide_eq_true (show 1 < S.data.toList.length by rw [HDLEN.out]; omega)]
                simp
               subst this
               have t1 : ((S[0].toNat : Int) == 48) = true := by rw [hc, h48]; rfl
               clear ho HDL HHD HDLEN HH hc h48
               go_enter Tryz.func30, Tryz.ntmps30
               go_upto_region 5 with fail
               go_wp2_with fail
               go_ret2
               exact ⟨rfl, HBW.out⟩
             · have t1 : ((S[0].toNat : Int) == 48) = false := by rw [hc]; exact beq_eq_false_iff_ne.2 (by omega)
               have HZ : Hid (S.data.toList.all isDig = true → wholeD S.data.toList = true) := Lib.hid fun ha => by
                unfold wholeD
                rw [ha, decide_eq_true (show S.data.toList ≠ [] from fun e => by have := HDLEN.out; rw [e, List.length_nil] at this; omega), decide_eq_false (fun e => h48 (HH.out.1 e))]
                rfl
               clear HH hc h48
               go_enter Tryz.func30, Tryz.ntmps30
               go_upto_region 5 with fail
               go_wp2_with fail
               go_loopw [7, 8] (fun nv iv wr => ∃ i m : Nat, iv = .int .i64 i ∧ i ≤ S.size ∧ nv = .int .i64 (-(m : Int)) ∧ nvL 0 (S.data.toList.take i) = m ∧ m ≤ 9223372036854775808 ∧ (S.data.toList.take i).all isDig = true ∧ wr = W) (fun _ iv _ => S.size - (RowKit.intOf iv).toNat)
               case atStart => exact ⟨0, 0, rfl, Nat.zero_le _, rfl, rfl, by decide, rfl, rfl⟩
               case round =>
                obtain ⟨i, m, rfl, hi, rfl, hm, hml, hall, rfl⟩ := hrel
                by_cases hin : (i : Int) < (S.size : Int)
                · have hin2 : i < S.size := by omega
                  obtain ⟨b, hb⟩ : ∃ b : Nat, S[i].toNat = b := ⟨_, rfl⟩
                  have hb8 : b ≤ 255 := by rw [← hb]; exact Nat.le_of_lt_succ S[i].toNat_lt
                  have hgi := lget S i hin2
                  have HGI := Lib.hid hgi
                  have HB := Lib.hid hb
                  have HM := Lib.hid hm
                  have HALL := Lib.hid hall
                  have hdig : isDig S[i] = decide (48 ≤ b ∧ b ≤ 57) := by rw [← hb]; rfl
                  have HDIG := Lib.hid hdig
                  have HO := Lib.hid ho
                  have hbad : (isDig S[i] = false ∨ 9223372036854775808 < m * 10 + (b - 48)) → o = none := fun h => by
                   rw [← HO.out]
                   refine intL_bad (i := i) (c := S[i]) (by rw [← HDL.out]; exact HGI.out) ?_
                   rw [← HDL.out, HM.out, HB.out]
                   exact h
                  have HBAD := Lib.hid hbad
                  have wb : ((S[i].toNat : Nat) : Int) = (b : Int) := by rw [hb]
                  clear hgi hm hall hdig hbad ho
                  by_cases d1 : b < 48
                  · have z1 : decide ((b : Int) - 48 < 0) = true := decide_eq_true (by omega)
                    have z2 : (b : Int) < 48 := by omega
                    have : o = none := HBAD.out (.inl (by rw [HDIG.out]; exact decide_eq_false (by omega)))
                    subst this
                    clear HBAD HO
                    go_wp2_with fail
                    go_ret2
                    exact ⟨rfl, HBW.out⟩
                  · by_cases d2 : 57 < b
                    · have : o = none := HBAD.out (.inl (by rw [HDIG.out]; exact decide_eq_false (by omega)))
                      subst this
                      have z1 : ¬ (b : Int) - 48 < 0 := by omega
                      have z2 : (b : Int) - 48 > 9 := by omega
                      clear HBAD HO
                      go_wp2_with fail
                      go_ret2
                      exact ⟨rfl, HBW.out⟩
                    · have z1 : ¬ (b : Int) - 48 < 0 := by omega
                      have z2 : ¬ (b : Int) - 48 > 9 := by omega
                      by_cases d3 : 922337203685477580 < m
                      · have : o = none := HBAD.out (.inr (by omega))
                        subst this
                        have z3 : -(m : Int) < -922337203685477580 := by omega
                        clear HBAD HO
                        go_wp2_with fail
                        go_ret2
                        exact ⟨rfl, HBW.out⟩
                      · have z3 : ¬ -(m : Int) < -922337203685477580 := by omega
                        by_cases d4 : 9223372036854775808 < m * 10 + (b - 48)
                        · have : o = none := HBAD.out (.inr d4)
                          subst this
                          have z4 : 10 * -(m : Int) < -9223372036854775808 + ((b : Int) - 48) := by omega
                          clear HBAD HO
                          go_wp2_with fail
                          go_ret2
                          exact ⟨rfl, HBW.out⟩
                        · have z4 : ¬ 10 * -(m : Int) < -9223372036854775808 + ((b : Int) - 48) := by omega
                          have HN : Hid (nvL 0 (S.data.toList.take (i + 1)) = m * 10 + (b - 48)) := Lib.hid (by rw [nvL_take HGI.out, HM.out, HB.out])
                          have HA : Hid ((S.data.toList.take (i + 1)).all isDig = true) := Lib.hid (by
                           rw [List.take_add_one, HGI.out, List.all_append, HALL.out]
                           show (true && (isDig S[i] && true)) = true
                           rw [HDIG.out, decide_eq_true (show 48 ≤ b ∧ b ≤ 57 by omega)]
                           rfl)
                          clear HBAD
                          go_wp2_with fail
                          go_roundw
                          case rel => exact ⟨i + 1, m * 10 + (b - 48), by go_num, by omega, by first | (congr 1; omega) | go_num, HN.out, by omega, HA.out, by trivial⟩
                          case measure => simp [RowKit.intOf]; omega
                · have hii : i = S.size := by omega
                  have hfull : S.data.toList.take i = S.data.toList := List.take_of_length_le (by rw [HDLEN.out]; omega)
                  rw [hfull] at hm hall
                  have hwh := HZ.out hall
                  rw [HDL.out] at hm hwh
                  clear hfull hall
                  by_cases hmx : m = 9223372036854775808
                  · have : o = none := by rw [← ho]; exact intL_end3 HHD.out (by omega)
                    subst this
                    have e1 : (-(m : Int) == -9223372036854775808) = true := by rw [hmx]; rfl
                    clear ho hm hwh
                    go_wp2_with fail
                    go_ret2
                    exact ⟨rfl, HBW.out⟩
                  · have : o = some (m : Int) := by rw [← ho, intL_end2 hwh HHD.out (by omega), hm]
                    subst this
                    have e1 : (-(m : Int) == -9223372036854775808) = false := beq_eq_false_iff_ne.2 (by omega)
                    clear ho hm hwh
                    go_wp2_with fail
                    go_ret2
                    exact ⟨by simp, HBW.out⟩
           · have HZ : Hid (S.data.toList.all isDig = true → wholeD S.data.toList = true) := Lib.hid fun ha => by
              unfold wholeD
              rw [ha, decide_eq_true (show S.data.toList ≠ [] from fun e => by have := HDLEN.out; rw [e, List.length_nil] at this; omega), decide_eq_false (show ¬ 1 < S.data.toList.length by rw [HDLEN.out]; omega)]
              simp
             clear HH hc
             go_enter Tryz.func30, Tryz.ntmps30
             go_upto_region 5 with fail
             go_wp2_with fail
             go_loopw [7, 8] (fun nv iv wr => ∃ i m : Nat, iv = .int .i64 i ∧ i ≤ S.size ∧ nv = .int .i64 (-(m : Int)) ∧ nvL 0 (S.data.toList.take i) = m ∧ m ≤ 9223372036854775808 ∧ (S.data.toList.take i).all isDig = true ∧ wr = W) (fun _ iv _ => S.size - (RowKit.intOf iv).toNat)
             case atStart => exact ⟨0, 0, rfl, Nat.zero_le _, rfl, rfl, by decide, rfl, rfl⟩
             case round =>
              obtain ⟨i, m, rfl, hi, rfl, hm, hml, hall, rfl⟩ := hrel
              by_cases hin : (i : Int) < (S.size : Int)
              · have hin2 : i < S.size := by omega
                obtain ⟨b, hb⟩ : ∃ b : Nat, S[i].toNat = b := ⟨_, rfl⟩
                have hb8 : b ≤ 255 := by rw [← hb]; exact Nat.le_of_lt_succ S[i].toNat_lt
                have hgi := lget S i hin2
                have HGI := Lib.hid hgi
                have HB := Lib.hid hb
                have HM := Lib.hid hm
                have HALL := Lib.hid hall
                have hdig : isDig S[i] = decide (48 ≤ b ∧ b ≤ 57) := by rw [← hb]; rfl
                have HDIG := Lib.hid hdig
                have HO := Lib.hid ho
                have hbad : (isDig S[i] = false ∨ 9223372036854775808 < m * 10 + (b - 48)) → o = none := fun h => by
                 rw [← HO.out]
                 refine intL_bad (i := i) (c := S[i]) (by rw [← HDL.out]; exact HGI.out) ?_
                 rw [← HDL.out, HM.out, HB.out]
                 exact h
                have HBAD := Lib.hid hbad
                have wb : ((S[i].toNat : Nat) : Int) = (b : Int) := by rw [hb]
                clear hgi hm hall hdig hbad ho
                by_cases d1 : b < 48
                · have z1 : decide ((b : Int) - 48 < 0) = true := decide_eq_true (by omega)
                  have z2 : (b : Int) < 48 := by omega
                  have : o = none := HBAD.out (.inl (by rw [HDIG.out]; exact decide_eq_false (by omega)))
                  subst this
                  clear HBAD HO
                  go_wp2_with fail
                  go_ret2
                  exact ⟨rfl, HBW.out⟩
                · by_cases d2 : 57 < b
                  · have : o = none := HBAD.out (.inl (by rw [HDIG.out]; exact decide_eq_false (by omega)))
                    subst this
                    have z1 : ¬ (b : Int) - 48 < 0 := by omega
                    have z2 : (b : Int) - 48 > 9 := by omega
                    clear HBAD HO
                    go_wp2_with fail
                    go_ret2
                    exact ⟨rfl, HBW.out⟩
                  · have z1 : ¬ (b : Int) - 48 < 0 := by omega
                    have z2 : ¬ (b : Int) - 48 > 9 := by omega
                    by_cases d3 : 922337203685477580 < m
                    · have : o = none := HBAD.out (.inr (by omega))
                      subst this
                      have z3 : -(m : Int) < -922337203685477580 := by omega
                      clear HBAD HO
                      go_wp2_with fail
                      go_ret2
                      exact ⟨rfl, HBW.out⟩
                    · have z3 : ¬ -(m : Int) < -922337203685477580 := by omega
                      by_cases d4 : 9223372036854775808 < m * 10 + (b - 48)
                      · have : o = none := HBAD.out (.inr d4)
                        subst this
                        have z4 : 10 * -(m : Int) < -9223372036854775808 + ((b : Int) - 48) := by omega
                        clear HBAD HO
                        go_wp2_with fail
                        go_ret2
                        exact ⟨rfl, HBW.out⟩
                      · have z4 : ¬ 10 * -(m : Int) < -9223372036854775808 + ((b : Int) - 48) := by omega
                        have HN : Hid (nvL 0 (S.data.toList.take (i + 1)) = m * 10 + (b - 48)) := Lib.hid (by rw [nvL_take HGI.out, HM.out, HB.out])
                        have HA : Hid ((S.data.toList.take (i + 1)).all isDig = true) := Lib.hid (by
                         rw [List.take_add_one, HGI.out, List.all_append, HALL.out]
                         show (true && (isDig S[i] && true)) = true
                         rw [HDIG.out, decide_eq_true (show 48 ≤ b ∧ b ≤ 57 by omega)]
                         rfl)
                        clear HBAD
                        go_wp2_with fail
                        go_roundw
                        case rel => exact ⟨i + 1, m * 10 + (b - 48), by go_num, by omega, by first | (congr 1; omega) | go_num, HN.out, by omega, HA.out, by trivial⟩
                        case measure => simp [RowKit.intOf]; omega
              · have hii : i = S.size := by omega
                have hfull : S.data.toList.take i = S.data.toList := List.take_of_length_le (by rw [HDLEN.out]; omega)
                rw [hfull] at hm hall
                have hwh := HZ.out hall
                rw [HDL.out] at hm hwh
                clear hfull hall
                by_cases hmx : m = 9223372036854775808
                · have : o = none := by rw [← ho]; exact intL_end3 HHD.out (by omega)
                  subst this
                  have e1 : (-(m : Int) == -9223372036854775808) = true := by rw [hmx]; rfl
                  clear ho hm hwh
                  go_wp2_with fail
                  go_ret2
                  exact ⟨rfl, HBW.out⟩
                · have : o = some (m : Int) := by rw [← ho, intL_end2 hwh HHD.out (by omega), hm]
                  subst this
                  have e1 : (-(m : Int) == -9223372036854775808) = false := beq_eq_false_iff_ne.2 (by omega)
                  clear ho hm hwh
                  go_wp2_with fail
                  go_ret2
                  exact ⟨by simp, HBW.out⟩
     · have : o = none := by rw [← ho, if_neg k3]
       subst this
       have q1 : (k == 3) = false := beq_eq_false_iff_ne.2 k3
       have q2 : (k != 3) = true := by simp [k3]
       clear ho k3 HDL HHD HDLEN
       go_enter Tryz.func30, Tryz.ntmps30
       go_upto_region 5 with fail
       go_wp2_with fail
       go_ret2
       exact ⟨rfl, HBW.out⟩
end Go.Proofs.Jt
