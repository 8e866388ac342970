/- Merged texts: Q1, Q2. -/
import Derived.Test.YtaiaiiepbpbmmaaGreatDoorPX
import Derived.Test.YtaiaiiepbpbmmaaGreatDoorP13
import Derived.Test.YtaiaiiepbpbmmaaGreatDoorQT
/- Q1: emendref24: Number, by emendref01's Size and Text. -/
namespace Go.Proofs.Rp
open Go.RowKit Go.Maps Go.Lib Go.Proofs.Utf Go.Proofs.Jt Go.Proofs

theorem u64_neg {n : Int} (h0 : -9223372036854775808 ≤ n) (hn : n < 0) : IntKind.u64.wrap n = n + 18446744073709551616 := by
 rw [show n = (n + 18446744073709551616) - 18446744073709551616 by omega]
 unfold IntKind.wrap
 simp [IntKind.signed, IntKind.bits]
 omega
theorem u64_back {n : Int} (h0 : -9223372036854775808 ≤ n) (hn : n < 0) : IntKind.u64.wrap (-(n + 18446744073709551616)) = (n.natAbs : Int) := by
 unfold IntKind.wrap
 simp [IntKind.signed, IntKind.bits]
 omega
set_option maxRecDepth 100000 in
theorem rsize_any (n : Int) (h0 : -9223372036854775808 ≤ n) (h1 : n ≤ 9223372036854775807) (w : World) : Calls Tryz.prog 203 #[.int .i64 n] w fun e w' => e = .returned (.int .u64 (n.natAbs : Nat)) ∧ Below w.heap.size w w' := by
 by_cases hn : n < 0
 · have e1 := u64_neg h0 hn
   have e2 := u64_back h0 hn
   go_enter Tryz.func203, Tryz.ntmps203
   go_wp2_with fail
   go_ret
   exact ⟨rfl, Below.refl _ _⟩
 · have e1 : IntKind.u64.wrap n = (n.natAbs : Int) := by rw [IntWalk.u64_in _ (by omega)]; omega
   go_enter Tryz.func203, Tryz.ntmps203
   go_wp2_with fail
   go_ret
   exact ⟨rfl, Below.refl _ _⟩
theorem nat_beq1 {n : Nat} (h : ¬ n = 0) : ((n : Int) == 0) = false := beq_eq_false_iff_ne.2 (by omega)
theorem digit_back (V : World) (g c : Nat) (hc : c < 256) (h : V.heap[g]? = some (.cells #[.int .u8 (c : Nat)] 5 (0, 0))) : (convert 189 9 (.slice (some ⟨g, 0, none⟩) 1 1)).run Tryz.prog V = .ok (.string ⟨#[UInt8.ofNat c]⟩) V := by
 have e : (UInt8.ofNat c).toNat = c := by rw [UInt8.toNat_ofNat']; omega
 refine run_convert_bytes_back (P := Tryz.prog) V 189 9 5 ⟨g, 0, none⟩ 1 [UInt8.ofNat c] (by kernel_rfl) (by kernel_rfl) (by kernel_rfl) fun j hj => ?_
 obtain rfl : j = 0 := by simpa using hj
 simp [World.cell?, Addr.add, h, e]
set_option maxRecDepth 100000 in
set_option maxHeartbeats 4000000 in
theorem rtext01_any (n : Int) (h0 : -9223372036854775808 ≤ n) (h1 : n ≤ 9223372036854775807) (I : ByteArray) (hI : (⟨(itoa n).toArray⟩ : ByteArray) = I) (w : World) : Calls Tryz.prog 155 #[.int .i64 n] w fun e w' => e = .returned (.string I) ∧ Below w.heap.size w w' := by
 have HI := Lib.hid hI
 have hlen := digits_len 20 n.natAbs (by omega)
 have HL := Lib.hid hlen
 clear hI hlen
 go_enter Tryz.func155, Tryz.ntmps155
 go_wp2_with (first
  | (go_at_call 203; refine (rsize_any n h0 h1 _).mono ?_; rintro e w1 ⟨rfl, hb1⟩))
 go_loopw [3, 4] (fun uv sv wr => ∃ (u : Nat) (S : ByteArray), uv = .int .u64 u ∧ sv = .string S ∧ decDigits n.natAbs = decDigits u ++ S.data.toList ∧ u ≤ 9223372036854775808 ∧ Below w.heap.size w wr) (fun uv _ _ => (RowKit.intOf uv).toNat)
 case atStart => exact ⟨n.natAbs, ⟨#[]⟩, rfl, rfl, by simp, by omega, hb1⟩
 case round =>
  obtain ⟨u, S, rfl, rfl, hd, hu, hB⟩ := hrel
  have hSl : S.size ≤ 21 := by
   have := HL.out
   rw [hd, List.length_append] at this
   rw [Lib.size_eq]
   omega
  obtain ⟨d, hdd⟩ : ∃ d, u % 10 = d := ⟨_, rfl⟩
  obtain ⟨c, hcc⟩ : ∃ c, 48 + d = c := ⟨_, rfl⟩
  obtain ⟨q, hqq⟩ : ∃ q, u / 10 = q := ⟨_, rfl⟩
  have hd10 : d < 10 := by omega
  have hr : ((u : Int)).tmod 10 = (d : Int) := by rw [Int.tmod_eq_emod_of_nonneg (by omega)]; omega
  have hw1 : IntKind.u64.wrap (48 + (d : Int)) = (c : Int) := by rw [IntWalk.u64_in _ (by omega)]; omega
  have hw2 : IntKind.u8.wrap (c : Int) = (c : Int) := IntWalk.u8_in _ (by omega)
  have hq1 : IntKind.u64.wrap ((u : Int).tdiv 10) = (q : Int) := by rw [IntWalk.u64_quo _ _ (by omega)]; omega
  have hq2 : (u : Int) / 10 = (q : Int) := by omega
  obtain ⟨V, hV⟩ : ∃ V, wr.alloc (.cells #[.int .u8 (c : Nat)] 5) = V := ⟨_, rfl⟩
  have hbV := alloc_b hV
  have hcv := digit_back V wr.heap.size c (by omega) (by rw [← hV]; exact alloc_at wr _)
  by_cases q0 : q = 0
  · have t0 : ((q : Int) == 0) = true := by simp [q0]
    have hfin : decDigits n.natAbs = UInt8.ofNat c :: S.data.toList := by
     rw [hd, decDigits, dif_pos (by omega), show u = d by omega, hcc]
     rfl
    have HF := Lib.hid hfin
    have HB := Lib.hid (Below.on hB hbV)
    clear hfin q0 hd hB
    by_cases hn : n < 0
    · go_wp2_with fail
      go_ret
      refine ⟨?_, HB.out⟩
      rw [← HI.out]
      unfold itoa
      rw [if_pos hn, HF.out]
      rfl
    · go_wp2_with fail
      go_ret
      refine ⟨?_, HB.out⟩
      rw [← HI.out]
      unfold itoa
      rw [if_neg (by omega), show n.toNat = n.natAbs by omega, HF.out]
      rfl
  · have t0 : ((q : Int) == 0) = false := nat_beq1 q0
    have hnx : Hid (decDigits n.natAbs = decDigits q ++ UInt8.ofNat c :: S.data.toList) := Lib.hid (by
     rw [hd, decDigits, dif_neg (by omega), hqq, hdd, hcc, List.append_assoc]
     rfl)
    have HB := Lib.hid (Below.on hB hbV)
    clear hd hB
    go_wp2_with fail
    go_roundw
    case rel => exact ⟨q, _, rfl, rfl, by rw [hnx.out]; rfl, by omega, HB.out⟩
    case measure => simp [RowKit.intOf]; omega
end Go.Proofs.Rp
/- Q2: emendref24: Text, Number, an id's value, May, Words. Printed by gen_q2.py. -/
namespace Go.Proofs.Rp
open Go.RowKit Go.Maps Go.Lib Go.Proofs.Utf Go.Proofs.Jt Go.Proofs

set_option maxRecDepth 100000 in
theorem rnumber_any (n : Int) (h0 : -9223372036854775808 ≤ n) (h1 : n ≤ 9223372036854775807) (I : ByteArray) (hI : (⟨(itoa n).toArray⟩ : ByteArray) = I) (w : World) : Calls Tryz.prog 109 #[.int .i64 n] w fun e w' => e = .returned (.agg #[.int .i64 3, .string I, .slice none 0 0, .slice none 0 0]) ∧ Below w.heap.size w w' := by
 obtain ⟨W, hW⟩ : ∃ W, w.alloc (.cells #[.int .i64 0, .string ⟨#[]⟩, .slice none 0 0, .slice none 0 0] 25) = W := ⟨_, rfl⟩
 have bW := alloc_b hW
 have hJ : JBox W w.heap.size := by rw [← hW]; exact JBox.alloc _ _ _ _ _
 have hf := rtext01_any n h0 h1 I hI W
 have HJ := Lib.hid hJ
 have HB := Lib.hid bW
 clear bW hJ hI
 go_enter Tryz.func109, Tryz.ntmps109
 go_wp2_with (first
  | (go_at_call 155; refine hf.mono ?_; rintro e w1 ⟨rfl, hb1⟩; have hj1 : JBox w1 w.heap.size := HJ.out.same (hb1.block _ HJ.out.lt); have HJ1 := Lib.hid hj1; clear hj1)
  | (refine store_val rfl (.tmp 2) (.tmp 5) rfl w.heap.size rfl (.int .i64 3) (.string I) (.slice none 0 0) (.slice none 0 0) rfl rfl HJ1.out (fun V hV hgV _ => ?_)))
 refine bodyPost_ret (ret_val Tryz.results109 rfl hV) rfl ?_
 exact ⟨rfl, below_gbz (Below.on HB.out hb1) (Nat.le_refl _) hgV⟩
set_option maxRecDepth 100000 in
set_option maxHeartbeats 2000000 in
theorem rmay_any (i : IdV) (S : ByteArray) (hS : (⟨i.s.toArray⟩ : ByteArray) = S) (w : World) : Calls Tryz.prog 102 #[.agg #[.int .i64 i.k, .int .i64 i.n, .string S]] w fun e w' => e = .returned (.bool i.may) ∧ Below w.heap.size w w' := by
 obtain ⟨k, n, s⟩ := i
 dsimp only at hS ⊢
 obtain ⟨W, hW⟩ : ∃ W, w.alloc (.cells #[.int .i64 k, .int .i64 n, .string S] 62) = W := ⟨_, rfl⟩
 have bW := alloc_b hW
 obtain ⟨c0, c1, c2⟩ := box3_of hW W (Below.refl _ _)
 have hm : (⟨k, n, s⟩ : IdV).may = ((decide (k = 0) && decide (n = 0) && decide (s = [])) || (decide (k = 1) && decide (s = [])) || (decide (k = 2) && decide (n = 0))) := rfl
 rw [hm]
 have HB := Lib.hid bW
 clear bW hm
 by_cases k0 : k = 0
 · subst k0
   by_cases n0 : n = 0
   · subst n0
     rcases nilS hS with ⟨rfl, rfl⟩ | ⟨s1, s2, s3⟩
     · go_enter Tryz.func102, Tryz.ntmps102
       go_wp2_with fail
       go_ret
       exact ⟨rfl, HB.out⟩
     · rw [decide_eq_false s1]
       clear hS
       go_enter Tryz.func102, Tryz.ntmps102
       go_wp2_with fail
       go_ret
       exact ⟨rfl, HB.out⟩
   · have m1 : (n == 0) = false := beq_eq_false_iff_ne.2 n0
     rw [decide_eq_false n0]
     clear hS
     go_enter Tryz.func102, Tryz.ntmps102
     go_wp2_with fail
     go_ret
     exact ⟨rfl, HB.out⟩
 · have q0 : (k == 0) = false := beq_eq_false_iff_ne.2 k0
   rw [decide_eq_false k0]
   by_cases k1 : k = 1
   · subst k1
     rcases nilS hS with ⟨rfl, rfl⟩ | ⟨s1, s2, s3⟩
     · go_enter Tryz.func102, Tryz.ntmps102
       go_wp2_with fail
       go_ret
       exact ⟨rfl, HB.out⟩
     · rw [decide_eq_false s1]
       clear hS
       go_enter Tryz.func102, Tryz.ntmps102
       go_wp2_with fail
       go_ret
       exact ⟨rfl, HB.out⟩
   · have q1 : (k == 1) = false := beq_eq_false_iff_ne.2 k1
     rw [decide_eq_false k1]
     by_cases k2 : k = 2
     · subst k2
       by_cases n0 : n = 0
       · subst n0
         clear hS
         go_enter Tryz.func102, Tryz.ntmps102
         go_wp2_with fail
         go_ret
         exact ⟨rfl, HB.out⟩
       · have m1 : (n == 0) = false := beq_eq_false_iff_ne.2 n0
         rw [decide_eq_false n0]
         clear hS
         go_enter Tryz.func102, Tryz.ntmps102
         go_wp2_with fail
         go_ret
         exact ⟨rfl, HB.out⟩
     · have q2 : (k == 2) = false := beq_eq_false_iff_ne.2 k2
       rw [decide_eq_false k2]
       clear hS
       by_cases kn : k < 0
       · go_enter Tryz.func102, Tryz.ntmps102
         go_wp2_with fail
         go_ret
         exact ⟨rfl, HB.out⟩
       · have kg : 2 < k := by omega
         go_enter Tryz.func102, Tryz.ntmps102
         go_wp2_with fail
         go_ret
         exact ⟨rfl, HB.out⟩
set_option maxRecDepth 100000 in
set_option maxHeartbeats 2000000 in
theorem rvalue24_any (i : IdV) (S V : ByteArray) (hS : (⟨i.s.toArray⟩ : ByteArray) = S) (hV : (⟨i.val.str.toArray⟩ : ByteArray) = V) (h0 : -9223372036854775808 ≤ i.n) (h1 : i.n ≤ 9223372036854775807) (w : World) :
 Calls Tryz.prog 105 #[.agg #[.int .i64 i.k, .int .i64 i.n, .string S]] w fun e w' => e = .returned (.agg #[.int .i64 i.val.kind, .string V, .slice none 0 0, .slice none 0 0]) ∧ Below w.heap.size w w' := by
 obtain ⟨k, n, s⟩ := i
 dsimp only at hS h0 h1 ⊢
 obtain ⟨W1, hW1⟩ : ∃ W, w.alloc (.cells #[.int .i64 k, .int .i64 n, .string S] 62) = W := ⟨_, rfl⟩
 obtain ⟨W, hW⟩ : ∃ W, W1.alloc (.cells #[.int .i64 0, .string ⟨#[]⟩, .slice none 0 0, .slice none 0 0] 25) = W := ⟨_, rfl⟩
 have bW1 := alloc_b hW1
 have bW2 := alloc_b hW
 have hz1 : W1.heap.size = w.heap.size + 1 := by rw [← hW1]; simp
 have hz : W1.heap.size = w.heap.size + 1 := hz1
 obtain ⟨c0, c1, c2⟩ := box3_of hW1 W bW2
 have hJ : JBox W (w.heap.size + 1) := by rw [← hW, ← hz1]; exact JBox.alloc _ _ _ _ _
 have HJ := Lib.hid hJ
 have HB := Lib.hid (Below.on bW1 bW2)
 subst hW1
 clear bW1 bW2 hJ
 by_cases k1 : k = 1
 · have hv : (IdV.mk k n s).val = numJ n := if_pos k1
   rw [hv] at hV ⊢
   subst k1
   have hc := rnumber_any n h0 h1 V hV W
   rw [show (numJ n).kind = 3 from rfl]
   clear hV hv hS
   go_enter Tryz.func105, Tryz.ntmps105
   go_wp2_with (first
    | (go_at_call 109; refine hc.mono ?_; rintro e w1 ⟨rfl, hb1⟩; have hj1 : JBox w1 (w.heap.size + 1) := HJ.out.same (hb1.block _ HJ.out.lt); have HJ1 := Lib.hid hj1; clear hj1)
    | (refine store_val rfl (.tmp 2) (.tmp 8) rfl (w.heap.size + 1) rfl (.int .i64 3) (.string V) (.slice none 0 0) (.slice none 0 0) rfl rfl HJ1.out (fun V hV hgV _ => ?_)))
   refine bodyPost_ret (ret_val Tryz.results105 rfl hV) rfl ?_
   exact ⟨rfl, below_gbz (Below.on HB.out hb1) (by omega) hgV⟩
 · have q1 : (k == 1) = false := beq_eq_false_iff_ne.2 k1
   by_cases k2 : k = 2
   · have hv : (IdV.mk k n s).val = txtV s := by unfold IdV.val; rw [if_neg k1, if_pos k2]
     rw [hv] at hV ⊢
     subst k2
     have hVS : V = S := by rw [← hV, ← hS]; rfl
     subst hVS
     have hc := rtxt_any V W
     rw [show (txtV s).kind = 4 from rfl]
     clear hV hv hS
     go_enter Tryz.func105, Tryz.ntmps105
     go_wp2_with (first
      | (go_at_call 97; refine hc.mono ?_; rintro e w1 ⟨rfl, hb1⟩; have hj1 : JBox w1 (w.heap.size + 1) := HJ.out.same (hb1.block _ HJ.out.lt); have HJ1 := Lib.hid hj1; clear hj1)
      | (refine store_val rfl (.tmp 2) (.tmp 14) rfl (w.heap.size + 1) rfl (.int .i64 4) (.string V) (.slice none 0 0) (.slice none 0 0) rfl rfl HJ1.out (fun V hV hgV _ => ?_)))
     refine bodyPost_ret (ret_val Tryz.results105 rfl hV) rfl ?_
     exact ⟨rfl, below_gbz (Below.on HB.out hb1) (by omega) hgV⟩
   · have hv : (IdV.mk k n s).val = jn 0 := by unfold IdV.val; rw [if_neg k1, if_neg k2]
     rw [hv] at hV ⊢
     have hVn : V = ⟨#[]⟩ := by rw [← hV]; rfl
     subst hVn
     have q2 : (k == 2) = false := beq_eq_false_iff_ne.2 k2
     rw [show (jn 0).kind = 0 from rfl]
     clear hV hv hS
     go_enter Tryz.func105, Tryz.ntmps105
     go_wp2_with (first
      | (refine store_val rfl (.tmp 2) (.tmp 15) rfl (w.heap.size + 1) rfl (.int .i64 0) (.string ⟨#[]⟩) (.slice none 0 0) (.slice none 0 0) rfl rfl HJ.out (fun V hV hgV _ => ?_)))
     refine bodyPost_ret (ret_val Tryz.results105 rfl hV) rfl ?_
     exact ⟨rfl, below_gbz HB.out (by omega) hgV⟩
set_option maxRecDepth 100000 in
set_option maxHeartbeats 4000000 in
theorem rwords_any (c : Int) (WB : ByteArray) (hWB : (⟨(wordsV c).toArray⟩ : ByteArray) = WB) (w : World) : Calls Tryz.prog 48 #[.int .i64 c] w fun e w' => e = .returned (.string WB) ∧ Below w.heap.size w w' := by
 by_cases e0 : c = -32700
 · subst e0
   obtain rfl : (⟨#[112, 97, 114, 115, 101, 32, 101, 114, 114, 111, 114]⟩ : ByteArray) = WB := hWB.symm.trans rfl |>.symm
   go_enter Tryz.func48, Tryz.ntmps48
   go_wp2_with fail
   go_ret
   exact ⟨rfl, Below.refl _ _⟩
 have q0 : (c == -32700) = false := beq_eq_false_iff_ne.2 e0
 by_cases e1 : c = -32600
 · subst e1
   obtain rfl : (⟨#[105, 110, 118, 97, 108, 105, 100, 32, 114, 101, 113, 117, 101, 115, 116]⟩ : ByteArray) = WB := hWB.symm.trans rfl |>.symm
   go_enter Tryz.func48, Tryz.ntmps48
   go_wp2_with fail
   go_ret
   exact ⟨rfl, Below.refl _ _⟩
 have q1 : (c == -32600) = false := beq_eq_false_iff_ne.2 e1
 by_cases e2 : c = -32601
 · subst e2
   obtain rfl : (⟨#[109, 101, 116, 104, 111, 100, 32, 110, 111, 116, 32, 102, 111, 117, 110, 100]⟩ : ByteArray) = WB := hWB.symm.trans rfl |>.symm
   go_enter Tryz.func48, Tryz.ntmps48
   go_wp2_with fail
   go_ret
   exact ⟨rfl, Below.refl _ _⟩
 have q2 : (c == -32601) = false := beq_eq_false_iff_ne.2 e2
 by_cases e3 : c = -32602
 · subst e3
   obtain rfl : (⟨#[105, 110, 118, 97, 108, 105, 100, 32, 112, 97, 114, 97, 109, 115]⟩ : ByteArray) = WB := hWB.symm.trans rfl |>.symm
   go_enter Tryz.func48, Tryz.ntmps48
   go_wp2_with fail
   go_ret
   exact ⟨rfl, Below.refl _ _⟩
 have q3 : (c == -32602) = false := beq_eq_false_iff_ne.2 e3
 by_cases e4 : c = -32002
 · subst e4
   obtain rfl : (⟨#[115, 101, 114, 118, 101, 114, 32, 110, 111, 116, 32, 105, 110, 105, 116, 105, 97, 108, 105, 122, 101, 100]⟩ : ByteArray) = WB := hWB.symm.trans rfl |>.symm
   go_enter Tryz.func48, Tryz.ntmps48
   go_wp2_with fail
   go_ret
   exact ⟨rfl, Below.refl _ _⟩
 have q4 : (c == -32002) = false := beq_eq_false_iff_ne.2 e4
 by_cases e5 : c = -32800
 · subst e5
   obtain rfl : (⟨#[114, 101, 113, 117, 101, 115, 116, 32, 99, 97, 110, 99, 101, 108, 108, 101, 100]⟩ : ByteArray) = WB := hWB.symm.trans rfl |>.symm
   go_enter Tryz.func48, Tryz.ntmps48
   go_wp2_with fail
   go_ret
   exact ⟨rfl, Below.refl _ _⟩
 have q5 : (c == -32800) = false := beq_eq_false_iff_ne.2 e5
 by_cases e6 : c = -32801
 · subst e6
   obtain rfl : (⟨#[99, 111, 110, 116, 101, 110, 116, 32, 109, 111, 100, 105, 102, 105, 101, 100]⟩ : ByteArray) = WB := hWB.symm.trans rfl |>.symm
   go_enter Tryz.func48, Tryz.ntmps48
   go_wp2_with fail
   go_ret
   exact ⟨rfl, Below.refl _ _⟩
 have q6 : (c == -32801) = false := beq_eq_false_iff_ne.2 e6
 by_cases e7 : c = -32803
 · subst e7
   obtain rfl : (⟨#[114, 101, 113, 117, 101, 115, 116, 32, 102, 97, 105, 108, 101, 100]⟩ : ByteArray) = WB := hWB.symm.trans rfl |>.symm
   go_enter Tryz.func48, Tryz.ntmps48
   go_wp2_with fail
   go_ret
   exact ⟨rfl, Below.refl _ _⟩
 have q7 : (c == -32803) = false := beq_eq_false_iff_ne.2 e7
 by_cases e8 : c = -32050
 · subst e8
   obtain rfl : (⟨#[115, 101, 114, 118, 101, 114, 32, 98, 117, 115, 121]⟩ : ByteArray) = WB := hWB.symm.trans rfl |>.symm
   go_enter Tryz.func48, Tryz.ntmps48
   go_wp2_with fail
   go_ret
   exact ⟨rfl, Below.refl _ _⟩
 have q8 : (c == -32050) = false := beq_eq_false_iff_ne.2 e8
 obtain rfl : (⟨#[]⟩ : ByteArray) = WB := by
  rw [← hWB, wordsV_none (by
   unfold codesL
   simp only [List.mem_cons, List.not_mem_nil, or_false, not_or]
   exact ⟨e0, e1, e2, e3, e4, e5, e6, e7, e8⟩)]
 clear hWB
 go_enter Tryz.func48, Tryz.ntmps48
 go_wp2_with fail
 go_ret
 exact ⟨rfl, Below.refl _ _⟩
end Go.Proofs.Rp
