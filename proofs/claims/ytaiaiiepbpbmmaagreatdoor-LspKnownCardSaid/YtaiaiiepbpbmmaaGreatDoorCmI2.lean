/- Which whole number a value is: json.Int and the reference's Int. Printed by gen_i2.py. -/
import Derived.Test.YtaiaiiepbpbmmaaGreatDoorCmVF2
import Derived.Test.YtaiaiiepbpbmmaaGreatDoorCmI1
import Derived.Test.YtaiaiiepbpbmmaaGreatDoorCmShelf2
import Derived.Lib.SmallJoins
namespace Go.Proofs.Jt
open Go.RowKit Go.Maps Go.Lib Go.Proofs.Utf Go.Proofs

/-- the sentinel of a number that is too great -/
def ErrV (w : World) : Prop := ∃ (tp : TypeId) (p : Value), w.var? Tryz.prog "strconv.ErrRange" = some #[.iface tp p]
theorem ErrV.below {w w' : World} (h : ErrV w) (hb : Below w.heap.size w w') : ErrV w' := by
 obtain ⟨tp, p, h⟩ := h
 exact ⟨tp, p, Go.Joins.var_stays (g := 6) (by kernel_rfl) h hb (Nat.le_refl _)⟩
theorem body_len (s : List UInt8) : (bodyL s).length ≤ s.length := by
 unfold bodyL
 split
 · rw [List.length_tail]; omega
 · exact Nat.le_refl _
theorem lget (s : ByteArray) (i : Nat) (h : i < s.size) : s.data.toList[i]? = some s[i] := by
 rw [Array.getElem?_toList]
 exact Array.getElem?_eq_getElem (xs := s.data) h
theorem nil_of_size {D : ByteArray} (h : D.size = 0) : D = ⟨#[]⟩ := by
 apply ByteArray.ext
 exact Array.eq_empty_of_size_eq_zero h
theorem some_of_size {D : ByteArray} (h : 0 < D.size) : ¬ D.toList = [] ∧ D.toList.isEmpty = false ∧ ¬ D = ⟨#[]⟩ := by
 have h1 : ¬ D.toList = [] := fun e => by
  rw [ByteArray.toList_eq] at e
  have := congrArg List.length e
  rw [Array.length_toList] at this
  have h2 : D.data.size = D.size := rfl
  rw [List.length_nil] at this
  omega
 exact ⟨h1, by cases hl : D.toList with | nil => exact absurd hl h1 | cons _ _ => rfl, fun e => by rw [e] at h; exact absurd h (by decide)⟩
theorem bw_below {w w' : World} (h : w' = w ∨ ∃ t, w' = Lib.bytesWorld w 5 t) : Below w.heap.size w w' := by
 rcases h with h | ⟨t, h⟩
 · rw [h]; exact Below.refl _ _
 · rw [h]; exact bytesWorld_below _ _ _
set_option maxRecDepth 100000 in
set_option maxHeartbeats 4000000 in
theorem int_any {w : World} (k : Int) (S : ByteArray) {kp ip : Option Addr} {kn kc n ic : Nat} (hE : ErrV w) (hs : S.size ≤ 16777216) (o : Option Int) (ho : (if k = 3 then intL S.data.toList else none) = o) :
 Calls Tryz.prog 29 #[.agg #[.int .i64 k, .string S, .slice kp kn kc, .slice ip n ic]] w fun e w' => e = .returned (.tuple #[.int .i64 (o.getD 0), .bool o.isSome]) ∧ Below w.heap.size w w' := by
 obtain ⟨W, hW⟩ : ∃ W, w.alloc (.cells #[.int .i64 k, .string S, .slice kp kn kc, .slice ip n ic] 25) = W := ⟨_, rfl⟩
 have bW := alloc_b hW
 obtain ⟨c0, c1, c2, c3⟩ := box_of hW W (Below.refl _ _)
 have HBX := Lib.hid (box_of hW)
 have HBW := Lib.hid bW
 have HE : Hid (∀ V, Below W.heap.size W V → ErrV V) := Lib.hid fun V hV => hE.below (Below.on bW hV)
 obtain ⟨D, hD⟩ : ∃ D : ByteArray, (⟨(Lib.trimPrefix S.data.toList [45]).toArray⟩ : ByteArray) = D := ⟨_, rfl⟩
 have hDl : D.data.toList = bodyL S.data.toList := by rw [← hD, ← trim_sign]
 have hp : ∀ w, Calls Tryz.prog 86 #[.string S, .string ⟨#[45]⟩] w fun e w' => e = .returned (.string D) ∧ w' = w := fun w => by rw [← hD]; exact Tryz.strings_TrimPrefix S ⟨#[45]⟩ w
 have hDs : D.size ≤ 16777216 := by
  have := body_len S.data.toList
  rw [Lib.size_eq, hDl]
  rw [Lib.size_eq] at hs
  omega
 have HDL := Lib.hid hDl
 clear hD bW hE hDl
 by_cases k3 : k = 3
 · subst k3
   rw [if_pos rfl] at ho
   by_cases hn : D.size = 0
   · obtain rfl := nil_of_size hn
     have : o = none := by rw [← ho]; exact intL_none_of (by rw [← HDL.out]; rfl)
     subst this
     clear hn ho HE HDL hDs hs
     go_enter Tryz.func29, Tryz.ntmps29
     go_wp2_with (first
      | (go_at_call 86; refine (hp _).mono ?_; rintro e w1 ⟨rfl, hw1⟩; rw [hw1]))
     go_ret2
     exact ⟨rfl, HBW.out⟩
   · obtain ⟨n1, n2, n3⟩ := some_of_size (D := D) (by omega)
     have hd0 : 0 < (D.size : Int) := by omega
     have hd1 : 0 < D.size := by omega
     have ht : ∀ w, Calls Tryz.prog 87 #[.string D, .string digB] w fun e w' => e = .returned (.string ⟨(trimS D.data.toList digB.data.toList).toArray⟩) ∧ Below w.heap.size w w' := fun w => Any.strings_Trim_laid Tryz.lays160 (by kernel_rfl) D digB w (by omega) (by decide) (ascii_of_all (by decide))
     by_cases hall : D.data.toList.all isDig = true
     · rw [(trim_digits dig_in _).2 hall] at ht
       unfold digB at ht
       obtain ⟨c, hc⟩ : ∃ c : Nat, D[0].toNat = c := ⟨_, rfl⟩
       have hh : D.data.toList.head? = some 48 ↔ c = 48 := by
        have h1 : D.data.toList[0]? = some D[0] := lget D 0 hd1
        rw [List.head?_eq_getElem?, h1]
        constructor
        · intro e; rw [← hc, Option.some.inj e]; rfl
        · intro e; rw [e] at hc; exact congrArg some (UInt8.toNat_inj.1 hc)
       have hlen : D.data.toList.length = D.size := by rw [Array.length_toList]; rfl
       by_cases hbad : c = 48 ∧ 1 < D.size
       · have : o = none := by
          rw [← ho]
          refine intL_none_of ?_
          rw [← HDL.out]
          unfold wholeD
          rw [decide_eq_true (hh.2 hbad.1), decide_eq_true (show 1 < D.data.toList.length by omega)]
          simp
         subst this
         have hb1 := hbad.1
         have hb2 : (D.size : Int) > 1 := by omega
         subst hb1
         have t1 : ((D[0].toNat : Int) == 48) = true := by rw [hc]; rfl
         clear hh hall ho hbad HE
         go_enter Tryz.func29, Tryz.ntmps29
         go_wp2_with (first
          | (go_at_call 86; refine (hp _).mono ?_; rintro e w1 ⟨rfl, hw1⟩; rw [hw1])
          | (go_at_call 87; refine (ht _).mono ?_; rintro e w2 ⟨rfl, hb2⟩))
         go_ret2
         exact ⟨rfl, Below.on HBW.out hb2⟩
       · have hwh : wholeD (bodyL S.data.toList) = true := by
          rw [← HDL.out]
          unfold wholeD
          rw [hall, decide_eq_true (show D.data.toList ≠ [] from fun e => by rw [e] at hlen; simp at hlen; omega)]
          by_cases h48 : c = 48
          · rw [decide_eq_false (show ¬ 1 < D.data.toList.length by omega)]
            simp
          · rw [decide_eq_false (fun e => h48 (hh.1 e))]
            rfl
         have hpw := parse_whole hwh
         rw [ho] at hpw
         have h63 : S.size ≤ 9223372036854775806 := by omega
         have h48 : S.size ≤ 281474976710656 := by omega
         by_cases h48c : c = 48
         · have h1 : ¬ (D.size : Int) > 1 := by omega
           have t1 : ((D[0].toNat : Int) == 48) = true := by rw [hc, h48c]; rfl
           cases o
           case some v =>
            have hok : ∀ w, Calls Tryz.prog 88 #[.string S, .int .i64 10, .int .i64 64] w fun e w' => e = .returned (.tuple #[.int .i64 v, .nilIface]) ∧ (w' = w ∨ ∃ t, w' = Lib.bytesWorld w 5 t) := fun w => Tryz.strconv_ParseInt_10_at64_ok S h63 v hpw w
            clear hh hall ho hbad HE hpw hwh
            go_enter Tryz.func29, Tryz.ntmps29
            go_wp2_with (first
             | (go_at_call 86; refine (hp _).mono ?_; rintro e w1 ⟨rfl, hw1⟩; rw [hw1])
             | (go_at_call 87; refine (ht _).mono ?_; rintro e w2 ⟨rfl, hb2⟩; obtain ⟨d0, d1, d2, d3⟩ := HBX.out w2 hb2)
             | (go_at_call 88; refine (hok _).mono ?_; rintro e w3 ⟨rfl, hw3⟩; have hb3 := bw_below hw3))
            go_ret2
            exact ⟨rfl, Below.on HBW.out (Below.on hb2 hb3)⟩
           case none =>
            have hok : ∀ w, ErrV w → Calls Tryz.prog 88 #[.string S, .int .i64 10, .int .i64 64] w fun e w' => ∃ (z : Int) (tp : TypeId) (p : Value), e = .returned (.tuple #[.int .i64 z, .iface tp p]) ∧ Below w.heap.size w w' := fun w hE => by
             obtain ⟨tp, p, hv⟩ := hE
             refine (Tryz.strconv_ParseInt_10_at64_range_var S h48 hpw tp p w hv).mono ?_
             rintro e w' ⟨N, rfl, _, _, hb⟩
             exact ⟨_, _, _, rfl, hb⟩
            clear hh hall ho hbad hpw hwh
            go_enter Tryz.func29, Tryz.ntmps29
            go_wp2_with (first
             | (go_at_call 86; refine (hp _).mono ?_; rintro e w1 ⟨rfl, hw1⟩; rw [hw1])
             | (go_at_call 87; refine (ht _).mono ?_; rintro e w2 ⟨rfl, hb2⟩; obtain ⟨d0, d1, d2, d3⟩ := HBX.out w2 hb2; have he2 := HE.out w2 hb2)
             | (go_at_call 88; refine (hok _ he2).mono ?_; rintro e w3 ⟨z, tp, p, rfl, hb3⟩))
            go_ret2
            exact ⟨rfl, Below.on HBW.out (Below.on hb2 hb3)⟩
         · have t1 : ((D[0].toNat : Int) == 48) = false := by rw [hc]; exact beq_eq_false_iff_ne.2 (by omega)
           cases o
           case some v =>
            have hok : ∀ w, Calls Tryz.prog 88 #[.string S, .int .i64 10, .int .i64 64] w fun e w' => e = .returned (.tuple #[.int .i64 v, .nilIface]) ∧ (w' = w ∨ ∃ t, w' = Lib.bytesWorld w 5 t) := fun w => Tryz.strconv_ParseInt_10_at64_ok S h63 v hpw w
            clear hh hall ho hbad HE hpw hwh
            go_enter Tryz.func29, Tryz.ntmps29
            go_wp2_with (first
             | (go_at_call 86; refine (hp _).mono ?_; rintro e w1 ⟨rfl, hw1⟩; rw [hw1])
             | (go_at_call 87; refine (ht _).mono ?_; rintro e w2 ⟨rfl, hb2⟩; obtain ⟨d0, d1, d2, d3⟩ := HBX.out w2 hb2)
             | (go_at_call 88; refine (hok _).mono ?_; rintro e w3 ⟨rfl, hw3⟩; have hb3 := bw_below hw3))
            go_ret2
            exact ⟨rfl, Below.on HBW.out (Below.on hb2 hb3)⟩
           case none =>
            have hok : ∀ w, ErrV w → Calls Tryz.prog 88 #[.string S, .int .i64 10, .int .i64 64] w fun e w' => ∃ (z : Int) (tp : TypeId) (p : Value), e = .returned (.tuple #[.int .i64 z, .iface tp p]) ∧ Below w.heap.size w w' := fun w hE => by
             obtain ⟨tp, p, hv⟩ := hE
             refine (Tryz.strconv_ParseInt_10_at64_range_var S h48 hpw tp p w hv).mono ?_
             rintro e w' ⟨N, rfl, _, _, hb⟩
             exact ⟨_, _, _, rfl, hb⟩
            clear hh hall ho hbad hpw hwh
            go_enter Tryz.func29, Tryz.ntmps29
            go_wp2_with (first
             | (go_at_call 86; refine (hp _).mono ?_; rintro e w1 ⟨rfl, hw1⟩; rw [hw1])
             | (go_at_call 87; refine (ht _).mono ?_; rintro e w2 ⟨rfl, hb2⟩; obtain ⟨d0, d1, d2, d3⟩ := HBX.out w2 hb2; have he2 := HE.out w2 hb2)
             | (go_at_call 88; refine (hok _ he2).mono ?_; rintro e w3 ⟨z, tp, p, rfl, hb3⟩))
            go_ret2
            exact ⟨rfl, Below.on HBW.out (Below.on hb2 hb3)⟩
     · have hT : ∃ T : ByteArray, (⟨(trimS D.data.toList digB.data.toList).toArray⟩ : ByteArray) = T ∧ 0 < T.size := by
        refine ⟨_, rfl, ?_⟩
        rw [Lib.size_eq]
        show 0 < (trimS D.data.toList digB.data.toList).length
        refine List.length_pos_iff.2 fun e => hall ((trim_digits dig_in _).1 e)
       obtain ⟨T, hTe, hTs⟩ := hT
       rw [hTe] at ht
       unfold digB at ht
       obtain ⟨m1, m2, m3⟩ := some_of_size hTs
       have : o = none := by
        rw [← ho]
        refine intL_none_of ?_
        rw [← HDL.out]
        unfold wholeD
        rw [Bool.eq_false_iff.2 hall]
        simp
       subst this
       clear hall ho hTe hTs HE
       go_enter Tryz.func29, Tryz.ntmps29
       go_wp2_with (first
        | (go_at_call 86; refine (hp _).mono ?_; rintro e w1 ⟨rfl, hw1⟩; rw [hw1])
        | (go_at_call 87; refine (ht _).mono ?_; rintro e w2 ⟨rfl, hb2⟩))
       go_ret2
       exact ⟨rfl, Below.on HBW.out hb2⟩
 · have : o = none := by rw [← ho, if_neg k3]
   subst this
   have q1 : (k == 3) = false := beq_eq_false_iff_ne.2 k3
   have q2 : (k != 3) = true := by simp [k3]
   clear ho HE
   go_enter Tryz.func29, Tryz.ntmps29
   go_wp2_with (first
    | (go_at_call 86; refine (hp _).mono ?_; rintro e w1 ⟨rfl, hw1⟩; rw [hw1]))
   go_ret2
   exact ⟨rfl, HBW.out⟩
end Go.Proofs.Jt
