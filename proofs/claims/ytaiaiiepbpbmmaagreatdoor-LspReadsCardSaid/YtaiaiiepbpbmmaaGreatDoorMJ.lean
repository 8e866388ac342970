/- The reference's Digits and id. Printed by gen_mj.py. -/
import Derived.Test.YtaiaiiepbpbmmaaGreatDoorKB
import Derived.Test.YtaiaiiepbpbmmaaGreatDoorI3
import Derived.Test.YtaiaiiepbpbmmaaGreatDoorZX
namespace Go.Proofs.Ls
open Go.RowKit Go.Maps Go.Lib Go.Proofs.Utf Go.Proofs.Jt Go.Proofs

theorem u64_neg {n : Int} (h0 : -9223372036854775808 ≤ n) (hn : n < 0) : IntKind.u64.wrap n = n + 18446744073709551616 := by
  rw [show n = (n + 18446744073709551616) - 18446744073709551616 by omega]
  unfold IntKind.wrap
  simp [IntKind.signed, IntKind.bits]
  omega
theorem u64_back {n : Int} (h0 : -9223372036854775808 ≤ n) (hn : n < 0) : IntKind.u64.wrap (-(n + 18446744073709551616)) = (n.natAbs : Int) := by
  unfold IntKind.wrap
  simp [IntKind.signed, IntKind.bits]
  omega
theorem digs_len : ∀ (k u : Nat), u < 10 ^ (k + 1) → (decDigits u).length ≤ k + 1
  | 0, u, h => by rw [decDigits, dif_pos (by simpa using h)]; exact Nat.le_refl _
  | k + 1, u, h => by
    rw [decDigits]
    split
    · show 1 ≤ _; omega
    · have := digs_len k (u / 10) (by rw [Nat.pow_succ] at h; omega)
      rw [List.length_append, List.length_singleton]
      omega
theorem nat_beq1 {n : Nat} (h : ¬ n = 0) : ((n : Int) == 0) = false := beq_eq_false_iff_ne.2 (by omega)
theorem digit_back (V : World) (g c : Nat) (hc : c < 256) (h : V.heap[g]? = some (.cells #[.int .u8 (c : Nat)] 5 (0, 0))) : (convert 189 9 (.slice (some ⟨g, 0, none⟩) 1 1)).run Tryz.prog V = .ok (.string ⟨#[UInt8.ofNat c]⟩) V := by
  have e : (UInt8.ofNat c).toNat = c := by rw [UInt8.toNat_ofNat']; omega
  refine run_convert_bytes_back (P := Tryz.prog) V 189 9 5 ⟨g, 0, none⟩ 1 [UInt8.ofNat c] (by kernel_rfl) (by kernel_rfl) (by kernel_rfl) fun j hj => ?_
  obtain rfl : j = 0 := by simpa using hj
  simp [World.cell?, Addr.add, h, e]
set_option maxRecDepth 100000 in
set_option maxHeartbeats 4000000 in
theorem digits129 (n : Int) (h0 : -9223372036854775808 ≤ n) (h1 : n ≤ 9223372036854775807) (I : ByteArray) (hI : (⟨(itoa n).toArray⟩ : ByteArray) = I) (w : World) : Calls Tryz.prog 129 #[.int .i64 n] w fun e w' => e = .returned (.string I) ∧ Below w.heap.size w w' := by
  have HI := Lib.hid hI
  have hlen := digs_len 20 n.natAbs (by omega)
  have HL := Lib.hid hlen
  clear hI hlen
  by_cases hn : n < 0
  · have e1 := u64_neg h0 hn
    have e2 := u64_back h0 hn
    go_enter Tryz.func129, Tryz.ntmps129
    go_wp2_with fail
    go_loopw [3, 5] (fun uv sv wr => ∃ (u : Nat) (S : ByteArray), uv = .int .u64 u ∧ sv = .string S ∧ decDigits n.natAbs = decDigits u ++ S.data.toList ∧ u ≤ 9223372036854775808 ∧ Below w.heap.size w wr) (fun uv _ _ => (RowKit.intOf uv).toNat)
    case atStart => exact ⟨n.natAbs, ⟨#[]⟩, rfl, rfl, by simp, by omega, Below.refl _ _⟩
    case round =>
      obtain ⟨u, S, rfl, rfl, hd, hu, hB⟩ := hrel
      have hSl : S.size ≤ 21 := by
        have := HL.out
        rw [hd, List.length_append] at this
        rw [Lib.size_eq]
        omega
      obtain ⟨d, hdd⟩ : ∃ d, u % 10 = d := ⟨_, rfl⟩
      obtain ⟨c, hcc⟩ : ∃ c, 48 + d = c := ⟨_, rfl⟩
      obtain ⟨q, hqq⟩ : ∃ q, u / 10 = q := ⟨_, rfl⟩
      have hd10 : d < 10 := by omega
      have hr : ((u : Int)).tmod 10 = (d : Int) := by rw [Int.tmod_eq_emod_of_nonneg (by omega)]; omega
      have hw1 : IntKind.u64.wrap (48 + (d : Int)) = (c : Int) := by rw [IntWalk.u64_in _ (by omega)]; omega
      have hw2 : IntKind.u8.wrap (c : Int) = (c : Int) := IntWalk.u8_in _ (by omega)
      have hq1 : IntKind.u64.wrap ((u : Int).tdiv 10) = (q : Int) := by rw [IntWalk.u64_quo _ _ (by omega)]; omega
      have hq2 : (u : Int) / 10 = (q : Int) := by omega
      obtain ⟨V, hV⟩ : ∃ V, wr.alloc (.cells #[.int .u8 (c : Nat)] 5) = V := ⟨_, rfl⟩
      have hbV := alloc_b hV
      have hcv := digit_back V wr.heap.size c (by omega) (by rw [← hV]; exact alloc_at wr _)
      by_cases q0 : q = 0
      · have t0 : ((q : Int) == 0) = true := by simp [q0]
        have hfin : decDigits n.natAbs = UInt8.ofNat c :: S.data.toList := by
          rw [hd, decDigits, dif_pos (by omega), show u = d by omega, hcc]
          rfl
        have HF := Lib.hid hfin
        have HB := Lib.hid (Below.on hB hbV)
        clear hfin q0 hd hB
        go_wp2_with fail
        go_ret
        refine ⟨?_, HB.out⟩
        rw [← HI.out]
        unfold itoa
        rw [if_pos hn, HF.out]
        rfl
      · have t0 : ((q : Int) == 0) = false := nat_beq1 q0
        have hnx : Hid (decDigits n.natAbs = decDigits q ++ UInt8.ofNat c :: S.data.toList) := Lib.hid (by
          rw [hd, decDigits, dif_neg (by omega), hqq, hdd, hcc, List.append_assoc]
          rfl)
        have HB := Lib.hid (Below.on hB hbV)
        clear hd hB
        go_wp2_with fail
        go_roundw
        case rel => exact ⟨q, _, rfl, rfl, by rw [hnx.out]; rfl, by omega, HB.out⟩
        case measure => simp [RowKit.intOf]; omega
  · have e1 : IntKind.u64.wrap n = (n.natAbs : Int) := by rw [IntWalk.u64_in _ (by omega)]; omega
    go_enter Tryz.func129, Tryz.ntmps129
    go_wp2_with fail
    go_loopw [3, 5] (fun uv sv wr => ∃ (u : Nat) (S : ByteArray), uv = .int .u64 u ∧ sv = .string S ∧ decDigits n.natAbs = decDigits u ++ S.data.toList ∧ u ≤ 9223372036854775808 ∧ Below w.heap.size w wr) (fun uv _ _ => (RowKit.intOf uv).toNat)
    case atStart => exact ⟨n.natAbs, ⟨#[]⟩, rfl, rfl, by simp, by omega, Below.refl _ _⟩
    case round =>
      obtain ⟨u, S, rfl, rfl, hd, hu, hB⟩ := hrel
      have hSl : S.size ≤ 21 := by
        have := HL.out
        rw [hd, List.length_append] at this
        rw [Lib.size_eq]
        omega
      obtain ⟨d, hdd⟩ : ∃ d, u % 10 = d := ⟨_, rfl⟩
      obtain ⟨c, hcc⟩ : ∃ c, 48 + d = c := ⟨_, rfl⟩
      obtain ⟨q, hqq⟩ : ∃ q, u / 10 = q := ⟨_, rfl⟩
      have hd10 : d < 10 := by omega
      have hr : ((u : Int)).tmod 10 = (d : Int) := by rw [Int.tmod_eq_emod_of_nonneg (by omega)]; omega
      have hw1 : IntKind.u64.wrap (48 + (d : Int)) = (c : Int) := by rw [IntWalk.u64_in _ (by omega)]; omega
      have hw2 : IntKind.u8.wrap (c : Int) = (c : Int) := IntWalk.u8_in _ (by omega)
      have hq1 : IntKind.u64.wrap ((u : Int).tdiv 10) = (q : Int) := by rw [IntWalk.u64_quo _ _ (by omega)]; omega
      have hq2 : (u : Int) / 10 = (q : Int) := by omega
      obtain ⟨V, hV⟩ : ∃ V, wr.alloc (.cells #[.int .u8 (c : Nat)] 5) = V := ⟨_, rfl⟩
      have hbV := alloc_b hV
      have hcv := digit_back V wr.heap.size c (by omega) (by rw [← hV]; exact alloc_at wr _)
      by_cases q0 : q = 0
      · have t0 : ((q : Int) == 0) = true := by simp [q0]
        have hfin : decDigits n.natAbs = UInt8.ofNat c :: S.data.toList := by
          rw [hd, decDigits, dif_pos (by omega), show u = d by omega, hcc]
          rfl
        have HF := Lib.hid hfin
        have HB := Lib.hid (Below.on hB hbV)
        clear hfin q0 hd hB
        go_wp2_with fail
        go_ret
        refine ⟨?_, HB.out⟩
        rw [← HI.out]
        unfold itoa
        rw [if_neg (by omega), show n.toNat = n.natAbs by omega, HF.out]
        rfl
      · have t0 : ((q : Int) == 0) = false := nat_beq1 q0
        have hnx : Hid (decDigits n.natAbs = decDigits q ++ UInt8.ofNat c :: S.data.toList) := Lib.hid (by
          rw [hd, decDigits, dif_neg (by omega), hqq, hdd, hcc, List.append_assoc]
          rfl)
        have HB := Lib.hid (Below.on hB hbV)
        clear hd hB
        go_wp2_with fail
        go_roundw
        case rel => exact ⟨q, _, rfl, rfl, by rw [hnx.out]; rfl, by omega, HB.out⟩
        case measure => simp [RowKit.intOf]; omega
/-- an id's text, and whether it has none -/
def idR (k : Int) (S : List UInt8) : List UInt8 × Bool :=
  match (if k = 3 then intL S else none) with
  | some n => (itoa n, false)
  | none => if k = 4 then (quoteR S, !validD S) else ([], true)
theorem intL_range {s : List UInt8} {n : Int} (h : intL s = some n) : -9223372036854775808 ≤ n ∧ n ≤ 9223372036854775807 := intV_range (x := .mk 3 s [] []) h
set_option maxRecDepth 100000 in
set_option maxHeartbeats 4000000 in
theorem id78 {w : World} (k : Int) (S : ByteArray) {kp ip : Option Addr} {kn kc n ic : Nat} (hs : S.size ≤ 16777216) (s : List UInt8) (bad : Bool) (hi : idR k S.data.toList = (s, bad)) :
    Calls Tryz.prog 78 #[.agg #[.int .i64 k, .string S, .slice kp kn kc, .slice ip n ic]] w fun e w' => ∃ R : ByteArray, e = .returned (.tuple #[.string R, .bool (!bad)]) ∧ (bad = false → R = ⟨s.toArray⟩) ∧ Below w.heap.size w w' := by
  obtain ⟨W, hW⟩ : ∃ W, w.alloc (.cells #[.int .i64 k, .string S, .slice kp kn kc, .slice ip n ic] 25) = W := ⟨_, rfl⟩
  have bW := alloc_b hW
  obtain ⟨c0, c1, c2, c3⟩ := box_of hW W (Below.refl _ _)
  have HX := Lib.hid (box_of hW)
  obtain ⟨o, ho⟩ : ∃ o, (if k = 3 then intL S.data.toList else none) = o := ⟨_, rfl⟩
  have hint := rint_any (w := W) (kp := kp) (ip := ip) (kn := kn) (kc := kc) (n := n) (ic := ic) k S hs o ho
  unfold idR at hi
  rw [ho] at hi
  have HBW := Lib.hid bW
  cases o with
  | some m =>
    simp only [Prod.mk.injEq] at hi
    obtain ⟨rfl, rfl⟩ := hi
    have hr : -9223372036854775808 ≤ m ∧ m ≤ 9223372036854775807 := by
      split at ho
      · exact intL_range ho
      · cases ho
    obtain ⟨I, hI⟩ : ∃ B : ByteArray, (⟨(itoa m).toArray⟩ : ByteArray) = B := ⟨_, rfl⟩
    have HD : Hid (∀ V, Calls Tryz.prog 129 #[.int .i64 m] V fun e w' => e = .returned (.string I) ∧ Below V.heap.size V w') := Lib.hid fun V => digits129 m hr.1 hr.2 I hI V
    have HI := Lib.hid hI
    clear hr hI ho hs bW
    go_enter Tryz.func78, Tryz.ntmps78
    go_wp2_with (first
      | (go_at_call 30; refine hint.mono ?_; rintro e w1 ⟨rfl, hb1⟩; have hD := HD.out w1)
      | (go_at_call 129; refine hD.mono ?_; rintro e w2 ⟨rfl, hb2⟩))
    go_ret2
    exact ⟨I, rfl, fun _ => HI.out.symm, Below.on (Below.on HBW.out hb1) hb2⟩
  | none =>
    by_cases k4 : k = 4
    · simp only [if_pos k4, Prod.mk.injEq] at hi
      obtain ⟨rfl, rfl⟩ := hi
      have t1 : (k != 4) = false := by simp [k4]
      have HQ : Hid (∀ V, Calls Tryz.prog 130 #[.string S] V fun e w' => ∃ X : ByteArray, e = .returned (.tuple #[.string X, .int .i64 (if validD S.data.toList then (0 : Int) else 8)]) ∧ Below V.heap.size V w' ∧ (validD S.data.toList = true → X.data.toList = quoteL S.data.toList)) := Lib.hid fun V => rquote_err S V hs
      have HK := Lib.hid k4
      clear ho hs bW k4
      cases hv : validD S.data.toList with
      | true =>
        rw [hv] at HQ
        have HQV := Lib.hid hv
        clear hv
        go_enter Tryz.func78, Tryz.ntmps78
        go_wp2_with (first
          | (go_at_call 30; refine hint.mono ?_; rintro e w1 ⟨rfl, hb1⟩; clear c0 c1 c2 c3; obtain ⟨c0, c1, c2, c3⟩ := HX.out w1 hb1; have hQ := HQ.out w1)
          | (go_at_call 130; refine hQ.mono ?_; rintro e w2 ⟨R, rfl, hb2, hR⟩; have HR := Lib.hid hR; clear hR))
        go_ret2
        refine ⟨R, rfl, fun _ => ?_, Below.on (Below.on HBW.out hb1) hb2⟩
        unfold quoteR
        rw [if_pos HQV.out, ← HR.out trivial]
      | false =>
        rw [hv] at HQ
        clear hv
        go_enter Tryz.func78, Tryz.ntmps78
        go_wp2_with (first
          | (go_at_call 30; refine hint.mono ?_; rintro e w1 ⟨rfl, hb1⟩; clear c0 c1 c2 c3; obtain ⟨c0, c1, c2, c3⟩ := HX.out w1 hb1; have hQ := HQ.out w1)
          | (go_at_call 130; refine hQ.mono ?_; rintro e w2 ⟨R, rfl, hb2, _⟩))
        go_ret2
        exact ⟨R, rfl, fun h => (by cases h), Below.on (Below.on HBW.out hb1) hb2⟩
    · simp only [if_neg k4, Prod.mk.injEq] at hi
      obtain ⟨rfl, rfl⟩ := hi
      have t1 : (k != 4) = true := by simp [k4]
      clear ho hs bW k4
      go_enter Tryz.func78, Tryz.ntmps78
      go_wp2_with (first
        | (go_at_call 30; refine hint.mono ?_; rintro e w1 ⟨rfl, hb1⟩; clear c0 c1 c2 c3; obtain ⟨c0, c1, c2, c3⟩ := HX.out w1 hb1))
      go_ret2
      exact ⟨⟨#[]⟩, rfl, fun h => (by cases h), Below.on HBW.out hb1⟩
end Go.Proofs.Ls
