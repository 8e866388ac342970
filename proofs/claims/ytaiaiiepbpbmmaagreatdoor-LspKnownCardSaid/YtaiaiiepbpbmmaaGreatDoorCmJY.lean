/- Merged texts: J6, J7. -/
import Derived.Test.YtaiaiiepbpbmmaaGreatDoorCmJA
import Derived.Shelf.Strings.MapGrows
/- J6: jtext's quoted. -/
namespace Go.Proofs.Jt
open Go.RowKit Go.Proofs Go.Lib Go.Proofs.Utf

theorem decodeGo_at (s : ByteArray) (a : Nat) (h : a < s.size) : Lib.decodeGo (s.extract a s.size) = decodeL (s.data.toList.drop a) := by
 unfold Lib.decodeGo decodeL
 have hz : (s.extract a s.size).size ≠ 0 := by rw [ByteArray.size_extract]; omega
 rw [if_neg hz]
 congr 1
 apply ByteArray.ext
 apply Array.toList_inj.1
 rw [Lib.extract_to_end]
def qV : Option (List UInt8 × Nat) → Value
 | none => .tuple #[.string ⟨#[]⟩, .int .i64 0]
 | some r => .tuple #[.string ⟨r.1.toArray⟩, .int .i64 ((r.2 + 1 : Nat) : Int)]
set_option maxRecDepth 100000 in
theorem quoted_other (s : ByteArray) (w : World) (h : 0 < s.size) (h0 : s[0] ≠ 34) :
 Calls Tryz.prog 161 #[.string s] w fun e w' => e = .returned (.tuple #[.string ⟨#[]⟩, .int .i64 0]) ∧ w = w' := by
 have t0 : ((s[0].toNat : Int) != 34) = true := by
  have e : ((s[0].toNat : Int) == 34) = false := byte_not h0
  simp only [bne, e, Bool.not_false]
 clear h0
 go_enter Tryz.func161, Tryz.ntmps161
 go_wp2
 go_ret2
 exact ⟨rfl, rfl⟩
theorem fresh66 (w : World) : Lib.IsBuilderF 201 5 w.heap.size w.heap.size (Lib.byteCells []) (w.alloc (.cells #[.pointer none, .slice none 0 0] 201)) := Lib.IsBuilderF.of (Lib.fresh_isBuilder 201 5 w)
theorem ret_qV {v : Value} {o : Option (List UInt8 × Nat)} (h : v = qV o) : Ending.returned v = .returned (qV o) := by rw [h]
set_option maxRecDepth 100000 in
set_option maxHeartbeats 4000000 in
theorem quoted_walk (s : ByteArray) (w : World) (hT : Tabs w) (hs : s.size ≤ 16777216) (h : 0 < s.size) (h0 : s[0] = 34) (hv : validD (s.data.toList.drop 1) = true) (Q : Option (List UInt8 × Nat)) (hQ : qq (s.data.toList.drop 1) = Q) :
 Calls Tryz.prog 161 #[.string s] w fun e w' => e = .returned (qV Q) ∧ Below w.heap.size w w' := by
 have t0 : ((s[0].toNat : Int) != 34) = false := by rw [h0]; rfl
 have hI0 := fresh66 w
 have d0 : Below w.heap.size w (w.alloc (.cells #[.pointer none, .slice none 0 0] 201)) := (Below.refl _ _).alloc (Nat.le_refl _) _
 clear h0
 go_enter Tryz.func161, Tryz.ntmps161
 go_wp2
 go_loopw [5] (fun v wr => ∃ (i : Nat) (acc : List UInt8), v = .int .i64 i ∧ 1 ≤ i ∧ i ≤ s.size ∧ Lib.IsBuilderF 201 5 w.heap.size w.heap.size (Lib.byteCells acc) wr ∧ Below w.heap.size w wr ∧ validD (s.data.toList.drop i) = true ∧ acc.length ≤ 4 * i ∧
  (qq (s.data.toList.drop i)).map (fun r => (acc ++ r.1, r.2 + (i - 1))) = Q) (fun v _ => s.size - (RowKit.intOf v).toNat)
 case atStart => exact ⟨1, [], rfl, Nat.le_refl _, h, hI0, d0, hv, Nat.zero_le _, by rw [hQ]; cases Q <;> rfl⟩
 case round =>
  obtain ⟨i, acc, rfl, hi1, hi, hI, hB, hvi, hacc, hq⟩ := hrel
  have HV := Lib.hid hvi
  have HQ := Lib.hid hq
  clear hvi hq
  by_cases hlt : (i : Int) < (s.size : Int)
  · have hne : s.data.toList.drop i ≠ [] := by
     intro e
     have := congrArg List.length e
     rw [List.length_drop, ← Lib.size_eq] at this
     simp at this
     omega
    have hpt := (valid_step _ hne HV.out).1
    have hvn := (valid_step _ hne HV.out).2
    unfold headW at hvn
    obtain ⟨eb, hle, hwp⟩ := dec_point_bytes _ hne hpt
    rw [List.drop_drop] at hvn
    rw [List.length_drop, ← Lib.size_eq] at hle
    have hdec := fun w hT => Tryz.utf8_DecodeRuneInString (s.extract i s.size) w hT
    rw [decodeGo_at s i (by omega)] at hdec
    have hrp := dec_point _ hne
    have hqp := qq_point _ hne hpt
    obtain ⟨b, t, hbt⟩ := List.exists_cons_of_ne_nil hne
    have ht : t = s.data.toList.drop (i + 1) := by
     have := congrArg List.tail hbt
     rw [List.tail_drop] at this
     exact this.symm
    have hf34 := dec_first b t 34 (by omega)
    have hf92 := dec_first b t 92 (by omega)
    rw [← hbt] at hf34 hf92
    have hlow : (decodeL (s.data.toList.drop i)).1 < 32 → b.toNat < 32 := by
     intro h'
     by_cases hb : b.toNat < 128
     · rw [hbt, decodeL_ascii b t hb] at h'; exact h'
     · have := dec_high b t (by omega)
       rw [← hbt] at this; omega
    rw [List.drop_drop] at hqp
    obtain ⟨r, hr⟩ : ∃ r, (decodeL (s.data.toList.drop i)).1 = r := ⟨_, rfl⟩
    obtain ⟨n, hn⟩ : ∃ n, (decodeL (s.data.toList.drop i)).2 = n := ⟨_, rfl⟩
    simp only [hr, hn] at hvn eb hle hwp hdec hrp hqp hf34 hf92 hlow
    have HVN := Lib.hid hvn
    have HEB := Lib.hid eb
    have HQP := Lib.hid hqp
    have HBT := Lib.hid hbt
    have HTT := Lib.hid ht
    have hTw := hT.below hB
    clear hr hn hvn eb hqp hbt ht
    by_cases h34 : r = 34
    · have t34 : ((r : Int) == 34) = true := by rw [h34]; rfl
      have hb34 := hf34.1 h34
      clear h34 hf34 hf92 hrp
      go_wp2_with (first
       | (go_at_call 189; refine (hdec _ hTw.1).mono ?_; rintro e w1 ⟨rfl, hb1⟩; have hI1 := hI.below hb1)
       | (go_at_call 135; refine (Tryz.Builder_String_any_k w.heap.size w.heap.size acc _ hI1 (hB.trans (hb1.mono hB.size)).size).mono ?_; rintro e w2 ⟨rfl, hI2, hb2, hk2⟩))
      have hz := hB.size
      refine bodyPost_ret (v := .tuple #[.string ⟨acc.toArray⟩, .int .i64 ((i : Int) + 1)]) (by simp [results, Tryz.results161, go_sem]) rfl ⟨ret_qV ?_, (hB.trans (hb1.mono hz)).trans hb2⟩
      have e := HQ.out
      rw [HBT.out, show b = 34 from UInt8.toNat_inj.1 hb34, qq_end] at e
      rw [← e]
      simp [qV]
      omega
    · have t34 : ((r : Int) == 34) = false := beq_eq_false_iff_ne.2 (by omega)
      by_cases h32 : r < 32
      · have t32 : (r : Int) < 32 := by omega
        have hb32 := hlow h32
        go_wp2_with (first
         | (go_at_call 189; refine (hdec _ hTw.1).mono ?_; rintro e w1 ⟨rfl, hb1⟩))
        go_ret2
        refine ⟨?_, hB.trans (hb1.mono hB.size)⟩
        have e := HQ.out
        rw [HBT.out, qq_ctl b t hb32] at e
        rw [← e]
        rfl
      · have t32 : ¬ (r : Int) < 32 := by omega
        by_cases h92 : r = 92
        · have t92 : ((r : Int) == 92) = true := by rw [h92]; rfl
          have hb92 : b = 92 := UInt8.toNat_inj.1 (hf92.1 h92)
          have hesc := fun w hT => escaped_any (s.extract (i + 1) s.size) w hT (by rw [ByteArray.size_extract]; omega)
          rw [Lib.extract_to_end, ← HTT.out] at hesc
          have hea := esc_ascii t
          have hel := esc_le t
          have htl : t.length + (i + 1) = s.size := by
           have := HTT.out
           have h2 := congrArg List.length this
           rw [List.length_drop, ← Lib.size_eq] at h2
           omega
          have hqe := qq_esc t
          obtain ⟨x, hx⟩ : ∃ x, (escR t).1 = x := ⟨_, rfl⟩
          obtain ⟨m, hm⟩ : ∃ m, (escR t).2 = m := ⟨_, rfl⟩
          simp only [hx, hm] at hesc hea hel hqe
          have HQE := Lib.hid hqe
          obtain ⟨hea1, hea2, hea3⟩ := hea
          clear h92 hf92 hf34 hrp hx hm hqe hlow
          by_cases hm0 : m = 0
          · have tm0 : ((m : Int) == 0) = true := by rw [hm0]; rfl
            go_wp2_with (first
             | (go_at_call 189; refine (hdec _ hTw.1).mono ?_; rintro e w1 ⟨rfl, hb1⟩; have hT1 := hTw.below hb1)
             | (go_at_call 207; refine (hesc _ hT1).mono ?_; rintro e w2 ⟨rfl, hb2⟩))
            go_ret2
            have hz := hB.size
            have hz1 := hb1.size
            refine ⟨?_, (hB.trans (hb1.mono hz)).trans (hb2.mono (by omega))⟩
            have e := HQ.out
            rw [HBT.out, hb92, HQE.out, if_pos hm0] at e
            rw [← e]
            rfl
          · have tm0 : ((m : Int) == 0) = false := beq_eq_false_iff_ne.2 (by omega)
            have hpx := hea2 hm0
            have hx1 : -2147483648 ≤ x ∧ x ≤ 2147483647 := by unfold IsPoint at hpx; omega
            have hx4 := enc_len4 x hpx
            have hz := hB.size
            go_wp2_with (first
             | (go_at_call 189; refine (hdec _ hTw.1).mono ?_; rintro e w1 ⟨rfl, hb1⟩; have hT1 := hTw.below hb1; have hI1 := hI.below hb1; have hz1 := hb1.size)
             | (go_at_call 207; refine (hesc _ hT1).mono ?_; rintro e w2 ⟨rfl, hb2⟩; have hI2 := hI1.below hb2; have hz2 := hb2.size)
             | (go_at_call 183; refine (Tryz.Builder_WriteRune_k w.heap.size w.heap.size _ x hx1.1 hx1.2 _ hI2 (by rw [Lib.byteCells_length]; omega) (by omega)).mono ?_; rintro e w3 ⟨rfl, hI3, hb3, hk3⟩))
            go_roundw
            case rel =>
             refine ⟨i + (1 + m), acc ++ encodeRune x, by go_num, by omega, by omega, ?_, ((hB.trans (hb1.mono hz)).trans (hb2.mono (by omega))).trans hb3, ?_, by rw [List.length_append]; omega, ?_⟩
             · rw [Lib.byteCells_append, Lib.byteCells_encodeRune]; exact Or.inr hI3
             · have hv2 := HV.out
               rw [HBT.out] at hv2
               have hv3 := valid_drop_ascii m t hea1 (valid_ascii b t (by rw [hb92]; decide) hv2)
               rw [HTT.out, List.drop_drop] at hv3
               rw [show i + (1 + m) = i + 1 + m by omega]
               exact hv3
             · have e := HQ.out
               rw [HBT.out, hb92, HQE.out, if_neg hm0, HTT.out, List.drop_drop, Option.map_map] at e
               rw [← e, show i + (1 + m) = i + 1 + m by omega]
               congr 1
               funext q
               simp only [Function.comp, List.append_assoc, Prod.mk.injEq, true_and]
               omega
            case measure => simp [RowKit.intOf]; omega
        · have t92 : ((r : Int) == 92) = false := beq_eq_false_iff_ne.2 (by omega)
          have hx4 : (encodeRune (r : Int)).length ≤ n := by
           have := HEB.out
           rw [this, List.length_take]; omega
          have hz := hB.size
          have hr1 : (r : Int) ≤ 2147483647 := by
           rcases hrp with h | h
           · omega
           · unfold IsPoint at h; omega
          have hn4 : (encodeRune (r : Int)).length ≤ 4 := by
           rcases hrp with h | h
           · exact enc_len4 _ (by unfold IsPoint; omega)
           · exact enc_len4 _ h
          clear hf92 hf34 hrp hlow
          go_wp2_with (first
           | (go_at_call 189; refine (hdec _ hTw.1).mono ?_; rintro e w1 ⟨rfl, hb1⟩; have hT1 := hTw.below hb1; have hI1 := hI.below hb1; have hz1 := hb1.size)
           | (go_at_call 183; refine (Tryz.Builder_WriteRune_k w.heap.size w.heap.size _ r (by omega) hr1 _ hI1 (by rw [Lib.byteCells_length]; omega) (by omega)).mono ?_; rintro e w3 ⟨rfl, hI3, hb3, hk3⟩))
          go_roundw
          case rel =>
           refine ⟨i + n, acc ++ encodeRune r, by go_num, by omega, by omega, ?_, (hB.trans (hb1.mono hz)).trans hb3, HVN.out, by rw [List.length_append]; omega, ?_⟩
           · rw [Lib.byteCells_append, Lib.byteCells_encodeRune]; exact Or.inr hI3
           · have e := HQ.out
             rw [HQP.out h34 h32 h92, Option.map_map] at e
             rw [← e]
             congr 1
             funext q
             simp only [Function.comp, List.append_assoc, Prod.mk.injEq, true_and]
             omega
          case measure => simp [RowKit.intOf]; omega
  · have hd : s.data.toList.drop i = [] := List.drop_eq_nil_of_le (by rw [← Lib.size_eq]; omega)
    go_wp2
    go_ret2
    refine ⟨?_, hB⟩
    have e := HQ.out
    rw [hd, qq_nil] at e
    rw [← e]
    rfl
end Go.Proofs.Jt
/- J7: jtext's broken. -/
namespace Go.Proofs.Jt
open Go.RowKit Go.Proofs Go.Lib Go.Proofs.Utf

theorem ret_nat {a b : Nat} (h : a = b) : Ending.returned (.int .i64 (a : Int)) = .returned (.int .i64 (b : Int)) := by rw [h]
set_option maxHeartbeats 1000000 in
set_option maxRecDepth 100000 in
theorem broken_any (s : ByteArray) (w : World) (_hs : s.size ≤ 16777216) :
 Calls Tryz.prog 157 #[.string s] w fun e w' => e = .returned (.int .i64 (br s.data.toList 0 : Nat)) ∧ Below w.heap.size w w' := by
 go_enter Tryz.func157, Tryz.ntmps157
 go_wp2
 go_loopw [] (fun w' => ∃ pos : Nat, w' = w.iter s pos ∧ br (s.data.toList.drop pos) pos = br s.data.toList 0 ∧ pos ≤ s.size) (fun w' => s.size - w'.iterPos w.heap.size)
 case atStart => exact ⟨0, rfl, by simp, Nat.zero_le _⟩
 case round =>
  obtain ⟨pos, rfl, hc, hp0⟩ := hrel
  by_cases hp : pos < s.size
  · have hnx : ∀ ty, (Instr.next (.pointer (some ⟨w.heap.size, 0, none⟩)) true ty).run Tryz.prog (w.iter s pos) = _ := fun ty => run_next_any w s pos ty hp
    have hle := dec_le s pos hp
    have hpos := dec_pos s pos
    have hne : s.data.toList.drop pos ≠ [] := by
     intro e
     have := congrArg List.length e
     rw [List.length_drop, ← Lib.size_eq] at this
     simp at this
     omega
    have hst := br_step _ pos hne
    unfold headW at hst
    rw [decodeL_drop, List.drop_drop] at hst
    have hcp : (decodeL (s.data.toList.drop pos)).1 = 65533 → _ := fun h => fffd_prefix _ hne h
    rw [decodeL_drop] at hcp
    have hpf := Tryz.strings_HasPrefix (s.extract pos s.size) ⟨#[239, 191, 189]⟩
    rw [Lib.extract_to_end] at hpf
    have hno := fun h => (isPt_no (s.data.toList.drop pos) h)
    have hnp : (Utf8.decode s pos).1 ≠ 65533 → isPt (s.data.toList.drop pos) = true := fun h => by
     cases hx : isPt (s.data.toList.drop pos) with
     | true => rfl
     | false =>
      unfold isPt at hx
      have := of_decide_eq_false hx
      rw [decodeL_drop] at this
      exact absurd (Classical.not_not.1 this).1 h
    have HC := Lib.hid hc
    have HS := Lib.hid hst
    clear hc hst hno
    by_cases hr : (Utf8.decode s pos).1 = 65533
    · have tr : (((Utf8.decode s pos).1 : Int) == 65533) = true := by rw [hr]; rfl
      have hcp' := hcp hr
      simp only [] at hpf
      rw [hcp'] at hpf
      clear hcp hcp' hnp hr
      cases hpt : isPt (s.data.toList.drop pos) with
      | true =>
       rw [hpt] at hpf
       go_wp2_with (first
        | (go_at_call 168; refine (hpf _).mono ?_; rintro e w' ⟨rfl, rfl⟩))
       go_roundw
       case rel =>
        refine ⟨pos + (Utf8.decode s pos).2, rfl, ?_, hle⟩
        rw [← HC.out, HS.out, hpt]
        rfl
       case measure =>
        simp
        omega
      | false =>
       rw [hpt] at hpf
       go_wp2_with (first
        | (go_at_call 168; refine (hpf _).mono ?_; rintro e w' ⟨rfl, rfl⟩))
       go_ret
       refine ⟨ret_nat ?_, below_iter _ _ _⟩
       rw [← HC.out, HS.out, hpt]
       rfl
    · have tr : (((Utf8.decode s pos).1 : Int) == 65533) = false := beq_eq_false_iff_ne.2 (by omega)
      have hpt := Lib.hid (hnp hr)
      clear hcp hnp hr hpf
      go_wp2
      go_roundw
      case rel =>
       refine ⟨pos + (Utf8.decode s pos).2, rfl, ?_, hle⟩
       rw [← HC.out, HS.out, hpt.out]
       rfl
      case measure =>
       simp
       omega
  · have hnx : ∀ ty, (Instr.next (.pointer (some ⟨w.heap.size, 0, none⟩)) true ty).run Tryz.prog (w.iter s pos) = _ := fun ty => run_next_end w s pos ty hp
    rw [List.drop_eq_nil_of_le (by rw [← Lib.size_eq]; omega), br_nil] at hc
    have HC := Lib.hid hc
    clear hc
    go_wp2
    go_ret
    refine ⟨ret_nat ?_, below_iter _ _ _⟩
    rw [← HC.out]
    omega
end Go.Proofs.Jt
