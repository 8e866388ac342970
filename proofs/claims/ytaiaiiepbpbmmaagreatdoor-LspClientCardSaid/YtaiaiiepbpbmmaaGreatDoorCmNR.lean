/- LspClient: the walk. Printed by gen_nr.py. -/
import Derived.Test.YtaiaiiepbpbmmaaGreatDoorCmKP
import Derived.Test.YtaiaiiepbpbmmaaGreatDoorCmKE
namespace Go.Proofs.Ls
open Go.RowKit Go.Maps Go.Lib Go.Proofs.Utf Go.Proofs.Jt Go.Proofs
open Go.Proofs.YtaiaiiepbpbmmaaGreatDoor (offP offset_any)

set_option maxRecDepth 100000 in
set_option maxHeartbeats 64000000 in
theorem lspClient_walk {w : World} (hE : ∀ V, Below w.heap.size w V → Env V) (T : ByteArray) {l : List SpV} {p : Option Addr} {c : Nat} (hs : SplP w p l) (ht : ∀ s ∈ l, s.text.length ≤ maxLen) :
    Calls Tryz.prog 12 #[.string T, .slice p l.length c] w fun e w' => e = .returned (.bool true) ∧ Below w.heap.size w w' := by
  obtain ⟨W1, hW1⟩ : ∃ W, w.alloc (.cells #[.string ⟨#[117]⟩, .string T, .int .i64 3] 93) = W := ⟨_, rfl⟩
  obtain ⟨W2, hW2⟩ : ∃ W, W1.alloc (.cells #[.string ⟨#[117]⟩, .int .i64 3, .slice p l.length c] 95) = W := ⟨_, rfl⟩
  obtain ⟨W3, hW3⟩ : ∃ W, W2.alloc (.cells #[.int .i64 0, .string ⟨#[]⟩, .bool false, .int .i64 0, .int .i64 0, .string ⟨#[]⟩, .slice (some ⟨w.heap.size + 1, 0, none⟩) 1 1, .slice none 0 0] 99) = W := ⟨_, rfl⟩
  obtain ⟨W, hW⟩ : ∃ W, W3.alloc (.cells #[.string ⟨#[117]⟩, .string T, .int .i64 3] 93) = W := ⟨_, rfl⟩
  have bW1 := alloc_b hW1
  have bW2 := alloc_b hW2
  have bW3 := alloc_b hW3
  have bW4 := alloc_b hW
  have z1 : W1.heap.size = w.heap.size + 1 := by rw [← hW1]; simp
  have z2 : W2.heap.size = w.heap.size + 2 := by rw [← hW2]; simp; omega
  have z3 : W3.heap.size = w.heap.size + 3 := by rw [← hW3]; simp; omega
  have b34 := Below.on bW3 bW4
  have b24 := Below.on bW2 b34
  have bW := Below.on bW1 b24
  have r1 := (b24.block _ (ltS (row_at hW1))).trans (row_at hW1)
  have re := (b34.block _ (ltS (row_at hW2))).trans (row_at hW2)
  rw [z1] at re
  have ra := (bW4.block _ (ltS (row_at hW3))).trans (row_at hW3)
  rw [z2] at ra
  have rd := row_at hW
  rw [z3] at rd
  have hzW : W.heap.size = w.heap.size + 4 := by rw [← hW]; simp; omega
  have HRE := Lib.hid re
  have HD : Hid (∀ V, Below W.heap.size W V → V.cell? ⟨w.heap.size, 0, none⟩ = some (.string ⟨#[117]⟩) ∧ V.cell? ⟨w.heap.size, 1, none⟩ = some (.string T) ∧ V.cell? ⟨w.heap.size, 2, none⟩ = some (.int .i64 3)) := Lib.hid fun V hV => by
    have := (hV.block _ (ltS r1)).trans r1
    refine ⟨?_, ?_, ?_⟩ <;> simp [World.cell?, this]
  have HAN : Hid (∀ V, Below W.heap.size W V → V.cell? ⟨w.heap.size + 2, 0, none⟩ = some (.int .i64 0) ∧ V.cell? ⟨w.heap.size + 2, 1, none⟩ = some (.string ⟨#[]⟩) ∧ V.cell? ⟨w.heap.size + 2, 2, none⟩ = some (.bool false) ∧ V.cell? ⟨w.heap.size + 2, 3, none⟩ = some (.int .i64 0) ∧ V.cell? ⟨w.heap.size + 2, 4, none⟩ = some (.int .i64 0) ∧ V.cell? ⟨w.heap.size + 2, 5, none⟩ = some (.string ⟨#[]⟩) ∧ V.cell? ⟨w.heap.size + 2, 6, none⟩ = some (.slice (some ⟨w.heap.size + 1, 0, none⟩) 1 1) ∧ V.cell? ⟨w.heap.size + 2, 7, none⟩ = some (.slice none 0 0)) := Lib.hid fun V hV => by
    have := (hV.block _ (ltS ra)).trans ra
    refine ⟨?_, ?_, ?_, ?_, ?_, ?_, ?_, ?_⟩ <;> simp [World.cell?, this]
  obtain ⟨d0, d1, d2⟩ : W3.cell? ⟨w.heap.size, 0, none⟩ = some (.string ⟨#[117]⟩) ∧ W3.cell? ⟨w.heap.size, 1, none⟩ = some (.string T) ∧ W3.cell? ⟨w.heap.size, 2, none⟩ = some (.int .i64 3) := by
    have := ((Below.on bW2 bW3).block _ (ltS (row_at hW1))).trans (row_at hW1)
    refine ⟨?_, ?_, ?_⟩ <;> simp [World.cell?, this]
  obtain ⟨a0, a1, a2, a3, a4, a5, a6, a7⟩ := HAN.out W (Below.refl _ _)
  obtain ⟨b, hb⟩ : ∃ b, largeV T l = b := ⟨_, rfl⟩
  have h57 := large57 rd re (hs.below bW) b hb
  have H15 : Hid (∀ V, Below W.heap.size W V → Calls Tryz.prog 15 #[] V fun e w' => e = .returned (.bool true) ∧ Below V.heap.size V w') := Lib.hid fun V hV => awake15 (fun V' hV' => hE V' (Below.on (Below.on bW hV) hV'))
  have HB := Lib.hid bW
  have HE := Lib.hid hE
  have HS := Lib.hid hs
  have HT := Lib.hid ht
  have HW3 := Lib.hid hW3
  clear hW3 bW1 bW2 bW3 bW4 b34 b24 bW r1 re ra rd hE hs ht
  cases b with
  | true =>
    clear hb
    go_enter Tryz.func12, Tryz.ntmps12
    go_upto_region 3 with fail
    have hW3 := HW3.out
    rw [hW3]
    go_wp2_with (first
      | (go_at_call 57; refine h57.mono ?_; rintro e w1 ⟨rfl, hb1⟩; have h15 := H15.out w1 hb1)
      | (go_at_call 15; refine h15.mono ?_; rintro e w2 ⟨rfl, hb2⟩))
    go_ret
    exact ⟨rfl, Below.on HB.out (Below.on hb1 hb2)⟩
  | false =>
    obtain ⟨hT6, hl12, ht2⟩ := largeV_not hb
    have HT2 := Lib.hid ht2
    have H58 : Hid (∀ V, Below W.heap.size W V → Calls Tryz.prog 58 #[.int .i64 (T.size : Int), .slice p l.length c] V fun e w' => e = .returned (.int .i64 (if fits T.size l 0 = true then 0 else 2)) ∧ Below V.heap.size V w') := Lib.hid fun V hV => check58 (n := (T.size : Int)) (by omega) (HS.out.below (Below.on HB.out hV)) (by omega)
    clear hb ht2
    by_cases hf : fits T.size l 0 = true
    · have H58' : Hid (∀ V, Below W.heap.size W V → Calls Tryz.prog 58 #[.int .i64 (T.size : Int), .slice p l.length c] V fun e w' => e = .returned (.int .i64 0) ∧ Below V.heap.size V w') := Lib.hid fun V hV => by
        have := H58.out V hV
        rw [if_pos hf] at this
        exact this
      have HFI := Lib.hid hf
      clear hf
      go_enter Tryz.func12, Tryz.ntmps12
      go_upto_region 3 with fail
      have hW3 := HW3.out
      rw [hW3]
      go_wp2_with (first
        | (go_at_call 57; refine h57.mono ?_; rintro e w1 ⟨rfl, hb1⟩; have h58 := H58'.out w1 hb1)
        | (go_at_call 58; refine h58.mono ?_; rintro e w2 ⟨rfl, hb2⟩))
      have hb12 := Below.on hb1 hb2
      clear h57 h58 hb1 hb2 H58 H58' d0 d1 d2 a0 a1 a2 a3 a4 a5 a6 a7
      go_loopw [7] (fun iv wr => ∃ i : Nat, iv = .int .i64 i ∧ i ≤ l.length ∧ (∀ s ∈ l.take i, goodS T s) ∧ Below W.heap.size W wr) (fun iv _ => l.length - (RowKit.intOf iv).toNat)
      case atStart => exact ⟨0, rfl, Nat.zero_le _, (fun s hs => by cases hs), hb12⟩
      case round =>
        obtain ⟨i, rfl, hi, hg, hB⟩ := hrel
        clear hb12
        have HG := Lib.hid hg
        clear hg
        have H60 : Hid (∀ (q : Int) (V : World), Calls Tryz.prog 60 #[.string T, .int .i64 q] V fun e w' => e = .returned (.agg #[.int .i64 (atV T q).1, .int .i64 (atV T q).2]) ∧ Below V.heap.size V w') := Lib.hid fun q V => atC_any T (by omega) q V V (Below.refl _ _)
        by_cases hin : (i : Int) < (l.length : Int)
        · obtain ⟨s, hs1⟩ : ∃ s, l[i]? = some s := ⟨_, List.getElem?_eq_getElem (by omega)⟩
          obtain ⟨a, rfl, hsc⟩ := HS.out i s hs1
          have hsc := hsc.below (Below.on HB.out hB)
          have HSC := Lib.hid hsc
          obtain ⟨g0, g1, _, _⟩ := hsc
          obtain ⟨q1, hq1⟩ : ∃ q, (offP T (atV T s.fr).1 (atV T s.fr).2).1 = q := ⟨_, rfl⟩
          obtain ⟨q2, hq2⟩ : ∃ q, (offP T (atV T s.till).1 (atV T s.till).2).1 = q := ⟨_, rfl⟩
          have h60a := H60.out s.fr wr
          have h60b := H60.out s.till
          have h59a : ∀ V : World, Calls Tryz.prog 59 #[.string T, .agg #[.int .i64 (atV T s.fr).1, .int .i64 (atV T s.fr).2]] V fun e w' => e = .returned (.tuple #[.int .i64 q1, .int .i64 0]) ∧ Below V.heap.size V w' := fun V => by
            have hin := atV_in T (by omega) s.fr
            have := offset_any T (atV T s.fr).1 (atV T s.fr).2 V (by omega)
            rw [hq1, offP_ok T _ _ hin.1.1 hin.2.1] at this
            exact this
          have h59b : ∀ V : World, Calls Tryz.prog 59 #[.string T, .agg #[.int .i64 (atV T s.till).1, .int .i64 (atV T s.till).2]] V fun e w' => e = .returned (.tuple #[.int .i64 q2, .int .i64 0]) ∧ Below V.heap.size V w' := fun V => by
            have hin := atV_in T (by omega) s.till
            have := offset_any T (atV T s.till).1 (atV T s.till).2 V (by omega)
            rw [hq2, offP_ok T _ _ hin.1.1 hin.2.1] at this
            exact this
          obtain ⟨⟨l1, c1⟩, hx1⟩ : ∃ x, atV T s.fr = x := ⟨_, rfl⟩
          obtain ⟨⟨l2, c2⟩, hx2⟩ : ∃ x, atV T s.till = x := ⟨_, rfl⟩
          rw [hx1] at h60a h59a
          rw [hx2] at h60b h59b
          have H60b := Lib.hid h60b
          have H59a := Lib.hid h59a
          have H59b := Lib.hid h59b
          have HQ := Lib.hid (And.intro hq1 hq2)
          have HS1 := Lib.hid hs1
          have HBR := Lib.hid hB
          clear h60b h59a h59b hq1 hq2 hx1 hx2 hs1 hB H60
          by_cases e1 : q1 = s.fr
          · have t1 : (q1 != s.fr) = false := by simp [e1]
            by_cases e2 : q2 = s.till
            · have t2 : (q2 != s.till) = false := by simp [e2]
              have HEQ := Lib.hid (And.intro e1 e2)
              clear e1 e2
              go_wp2_with (first
                | (with_reducible (show Calls _ _ _ wr _); go_at_call 60; refine h60a.mono ?_; rintro e w3 ⟨rfl, hb3⟩; have h59a := H59a.out w3)
                | (with_reducible (show Calls _ _ _ w3 _); go_at_call 59; refine h59a.mono ?_; rintro e w4 ⟨rfl, hb4⟩; have b34 := Below.on hb3 hb4; obtain ⟨_, k1, _, _⟩ := HSC.out.below b34; have h60b := H60b.out w4)
                | (with_reducible (show Calls _ _ _ w4 _); go_at_call 60; refine h60b.mono ?_; rintro e w5 ⟨rfl, hb5⟩; have h59b := H59b.out w5)
                | (with_reducible (show Calls _ _ _ w5 _); go_at_call 59; refine h59b.mono ?_; rintro e w6 ⟨rfl, hb6⟩; have b36 := Below.on b34 (Below.on hb5 hb6); obtain ⟨m0, m1, _, _⟩ := HSC.out.below b36; have h15 := H15.out w6 (Below.on HBR.out b36))
                | (go_at_call 15; refine h15.mono ?_; rintro e w7 ⟨rfl, hb7⟩))
              go_roundw
              case rel =>
                refine ⟨i + 1, by go_num, by omega, fun u hu => ?_, Below.on HBR.out b36⟩
                rw [List.take_add_one, HS1.out] at hu
                rcases List.mem_append.1 hu with hu | hu
                · exact HG.out u hu
                · obtain rfl : u = s := by simpa using hu
                  exact ⟨HQ.out.1.trans HEQ.out.1, HQ.out.2.trans HEQ.out.2⟩
              case measure => simp [RowKit.intOf]; omega
            · have t2 : (q2 != s.till) = true := by simp [e2]
              clear e1 e2
              go_wp2_with (first
                | (with_reducible (show Calls _ _ _ wr _); go_at_call 60; refine h60a.mono ?_; rintro e w3 ⟨rfl, hb3⟩; have h59a := H59a.out w3)
                | (with_reducible (show Calls _ _ _ w3 _); go_at_call 59; refine h59a.mono ?_; rintro e w4 ⟨rfl, hb4⟩; have b34 := Below.on hb3 hb4; obtain ⟨_, k1, _, _⟩ := HSC.out.below b34; have h60b := H60b.out w4)
                | (with_reducible (show Calls _ _ _ w4 _); go_at_call 60; refine h60b.mono ?_; rintro e w5 ⟨rfl, hb5⟩; have h59b := H59b.out w5)
                | (with_reducible (show Calls _ _ _ w5 _); go_at_call 59; refine h59b.mono ?_; rintro e w6 ⟨rfl, hb6⟩; have b36 := Below.on b34 (Below.on hb5 hb6); obtain ⟨m0, m1, _, _⟩ := HSC.out.below b36; have h15 := H15.out w6 (Below.on HBR.out b36))
                | (go_at_call 15; refine h15.mono ?_; rintro e w7 ⟨rfl, hb7⟩))
              go_ret
              exact ⟨rfl, Below.on HB.out (Below.on HBR.out (Below.on b36 hb7))⟩
          · have t1 : (q1 != s.fr) = true := by simp [e1]
            clear e1
            go_wp2_with (first
              | (with_reducible (show Calls _ _ _ wr _); go_at_call 60; refine h60a.mono ?_; rintro e w3 ⟨rfl, hb3⟩; have h59a := H59a.out w3)
              | (with_reducible (show Calls _ _ _ w3 _); go_at_call 59; refine h59a.mono ?_; rintro e w4 ⟨rfl, hb4⟩; have b34 := Below.on hb3 hb4; obtain ⟨_, k1, _, _⟩ := HSC.out.below b34; have h60b := H60b.out w4)
              | (with_reducible (show Calls _ _ _ w4 _); go_at_call 60; refine h60b.mono ?_; rintro e w5 ⟨rfl, hb5⟩; have h59b := H59b.out w5)
              | (with_reducible (show Calls _ _ _ w5 _); go_at_call 59; refine h59b.mono ?_; rintro e w6 ⟨rfl, hb6⟩; have b36 := Below.on b34 (Below.on hb5 hb6); obtain ⟨m0, m1, _, _⟩ := HSC.out.below b36; have h15 := H15.out w6 (Below.on HBR.out b36))
              | (go_at_call 15; refine h15.mono ?_; rintro e w7 ⟨rfl, hb7⟩))
            go_ret
            exact ⟨rfl, Below.on HB.out (Below.on HBR.out (Below.on b36 hb7))⟩
        · obtain rfl : i = l.length := by omega
          have hgood : ∀ s ∈ l, goodS T s := fun s hs => HG.out s (by rw [List.take_length]; exact hs)
          have HGD := Lib.hid hgood
          obtain ⟨V1, hV1⟩ : ∃ V, wr.alloc (.cells #[.string ⟨#[117]⟩, .string T, .int .i64 3] 93) = V := ⟨_, rfl⟩
          have hv1 := alloc_b hV1
          have hB1 := Below.on hB hv1
          obtain ⟨d0, d1, d2⟩ := HD.out wr hB
          obtain ⟨a0, a1, a2, a3, a4, a5, a6, a7⟩ := HAN.out V1 hB1
          have hBw1 := Below.on HB.out hB1
          have h61 := told_ren (w := V1) (QU := ⟨#[117]⟩) (us := [117]) (fun V hV => HE.out V (Below.on hBw1 hV)) (atV T) (row_at hV1) ((hB1.block _ (ltS HRE.out)).trans HRE.out) (HS.out.below hBw1) (by omega) (fun s hs => ⟨⟨atV_in T (by omega) s.fr, atV_in T (by omega) s.till⟩, atC_any T (by omega) s.fr V1, atC_any T (by omega) s.till V1, HT.out s hs⟩) (by decide) rfl (by decide)
          have hw1 := changedJ_wt T (by omega) l hl12 HT2.out
          have hw2 := editJ_wt T (by omega) l hl12 HT2.out
          have HB1 := Lib.hid hBw1
          clear hgood HG hv1 hB hB1 hBw1 hin
          go_wp2_with (first
            | (go_at_call 61; refine h61.mono ?_; rintro e w2 ⟨kp, kc, ip, ic, rfl, hkp, hb2⟩
               obtain ⟨V2, hV2⟩ : ∃ V, w2.alloc (.cells #[.int .i64 6, .string ⟨#[]⟩, .slice kp 1 kc, .slice ip 1 ic] 25) = V := ⟨_, rfl⟩
               have hv2 := alloc_b hV2
               have b2 := Below.on HB1.out (Below.on hb2 hv2)
               obtain ⟨d0, d1, d2, d3⟩ := box_of hV2 V2 (Below.refl _ _)
               have hf1 : Calls Tryz.prog 27 #[.agg #[.int .i64 6, .string ⟨#[]⟩, .slice kp 1 kc, .slice ip 1 ic], .string ⟨#[100, 111, 99, 117, 109, 101, 110, 116, 67, 104, 97, 110, 103, 101, 115]⟩] V2 fun e w' => ∃ fp fc gp gc, e = .returned (.tuple #[.agg #[.int .i64 5, .string ⟨#[]⟩, .slice fp 0 fc, .slice gp 1 gc], .bool true]) ∧ KP w' (V2.heap.size ≤ ·) (.mk 5 [] [] [editJ (atV T) [117] 3 l]) fp fc gp gc ∧ Below V2.heap.size V2 w' := (fieldA_is (f := .mk 5 [] [] [editJ (atV T) [117] 3 l]) (b := true) (K := ⟨#[100, 111, 99, 117, 109, 101, 110, 116, 67, 104, 97, 110, 103, 101, 115]⟩) (kp_on' hkp hv2).ki (by omega) rfl rfl rfl rfl V2 (Below.refl _ _)).mono fun _ _ ⟨a, b, c, d, e, f, _, g⟩ => ⟨a, b, c, d, e, f, g⟩
               clear hkp)
            | (with_reducible (show Calls _ _ _ V2 _); go_at_call 27; refine hf1.mono ?_; rintro e w3 ⟨fp, fc, gp, gc, rfl, hkp, hb3⟩
               obtain ⟨V3, hV3⟩ : ∃ V, w3.alloc (.cells #[.int .i64 5, .string ⟨#[]⟩, .slice fp 0 fc, .slice gp 1 gc] 25) = V := ⟨_, rfl⟩
               have hv3 := alloc_b hV3
               have b3 := Below.on b2 (Below.on hb3 hv3)
               obtain ⟨u0, u1, u2, u3⟩ := box_of hV3 V3 (Below.refl _ _)
               obtain ⟨ga, jkp, jkc, jip, jic, hga, hjc, hki⟩ := ki_item0 (kp_on' hkp hv3).ki (y := editJ (atV T) [117] 3 l) rfl
               have j0 : V3.cell? ga = some (.int .i64 6) := hjc.c0
               have j1 : V3.cell? ⟨ga.block, ga.off + 1, none⟩ = some (.string ⟨#[]⟩) := hjc.c1
               have j2 : V3.cell? ⟨ga.block, ga.off + 2, none⟩ = some (.slice jkp 2 jkc) := hjc.c2
               have j3 : V3.cell? ⟨ga.block, ga.off + 3, none⟩ = some (.slice jip 2 jic) := hjc.c3
               have hf2 : Calls Tryz.prog 27 #[.agg #[.int .i64 6, .string ⟨#[]⟩, .slice jkp 2 jkc, .slice jip 2 jic], .string ⟨#[101, 100, 105, 116, 115]⟩] V3 fun e w' => ∃ fp fc gp gc, e = .returned (.tuple #[.agg #[.int .i64 5, .string ⟨#[]⟩, .slice fp 0 fc, .slice gp l.length gc], .bool true]) ∧ KP w' (V3.heap.size ≤ ·) (rowsJ (atV T) l) fp fc gp gc ∧ Below V3.heap.size V3 w' := (fieldA_is (f := rowsJ (atV T) l) (b := true) (K := ⟨#[101, 100, 105, 116, 115]⟩) hki (by omega) rfl rfl rfl rfl V3 (Below.refl _ _)).mono fun _ _ ⟨a, b, c, d, e, f, _, g⟩ => ⟨a, b, c, d, e.trans (by rw [show (rowsJ (atV T) l).items.length = l.length from List.length_map ..]; rfl), f, g⟩
               subst hga
               clear hkp hjc hki)
            | (with_reducible (show Calls _ _ _ V3 _); go_at_call 27; refine hf2.mono ?_; rintro e w4 ⟨fp4, fc4, gp4, gc4, rfl, hkp4, hb4⟩
               obtain ⟨V4, hV4⟩ : ∃ V, w4.alloc (.cells #[.int .i64 5, .string ⟨#[]⟩, .slice fp4 0 fc4, .slice gp4 l.length gc4] 25) = V := ⟨_, rfl⟩
               have hv4 := alloc_b hV4
               have b4 := Below.on b3 (Below.on hb4 hv4)
               have HX4 := Lib.hid (box_of hV4)
               have HK4 := Lib.hid (kp_on' hkp4 hv4).ki
               obtain ⟨x0, x1, x2, x3⟩ := box_of hV4 V4 (Below.refl _ _)
               clear hkp4))
          obtain ⟨i107, hi107, hz107, hs107, hb107⟩ := info_parts info107
          have HB4 := Lib.hid b4
          clear h61 hf1 hf2 d0 d1 d2 d3 a0 a1 a2 a3 a4 a5 a6 a7 u0 u1 u2 u3 j0 j1 j2 j3 x0 x1 x2 x3 b2 b3 b4 hb2 hb3 hb4 hv2 hv3 hv4 hw1 hw2
          go_loopw [17, 18] (fun ov iv wr => ∃ (i : Nat) (op : Option Addr) (oc : Nat), ov = .slice op i oc ∧ iv = .int .i64 i ∧ i ≤ l.length ∧ wr.ownsRow V4.heap.size 107 3 (.slice op i oc) i (splC (l.take i)) ∧ Below V4.heap.size V4 wr) (fun _ iv _ => l.length - (RowKit.intOf iv).toNat)
          case atStart => exact ⟨0, none, 0, rfl, rfl, Nat.zero_le _, World.ownsRow_nil _ _ _ _, Below.refl _ _⟩
          case round =>
            obtain ⟨i, op, oc, rfl, rfl, hi, hrow, hB⟩ := hrel
            obtain ⟨x0, x1, x2, x3⟩ := HX4.out _ hB
            by_cases hin : (i : Int) < (l.length : Int)
            · obtain ⟨s, hs1⟩ : ∃ s, l[i]? = some s := ⟨_, List.getElem?_eq_getElem (by omega)⟩
              have hmem := List.mem_of_getElem? hs1
              obtain ⟨TT, hTT⟩ : ∃ B : ByteArray, (⟨s.text.toArray⟩ : ByteArray) = B := ⟨_, rfl⟩
              obtain ⟨ga4, jkp, jkc, jip, jic, hga, hjc, hki⟩ := ki_item HK4.out (i := i) (y := rowJ (atV T) s) (by show (l.map (rowJ (atV T)))[i]? = _; rw [List.getElem?_map, hs1]; rfl)
              subst hga
              obtain ⟨la, rfl, hlc⟩ := HS.out i s hs1
              have HJC : Hid (∀ V, Below V4.heap.size V4 V → V.cell? (ga4.add (i * 4)) = some (.int .i64 6) ∧ V.cell? ⟨(ga4.add (i * 4)).block, (ga4.add (i * 4)).off + 1, none⟩ = some (.string ⟨#[]⟩) ∧ V.cell? ⟨(ga4.add (i * 4)).block, (ga4.add (i * 4)).off + 2, none⟩ = some (.slice jkp 2 jkc) ∧ V.cell? ⟨(ga4.add (i * 4)).block, (ga4.add (i * 4)).off + 3, none⟩ = some (.slice jip 2 jic)) := Lib.hid fun V hV => by
                have q := hjc.below hV
                exact ⟨q.c0, q.c1, q.c2, q.c3⟩
              have HLC : Hid (∀ V, Below V4.heap.size V4 V → V.cell? (la.add (i * 3)) = some (.int .i64 s.fr) ∧ V.cell? ⟨(la.add (i * 3)).block, (la.add (i * 3)).off + 1, none⟩ = some (.int .i64 s.till) ∧ V.cell? ⟨(la.add (i * 3)).block, (la.add (i * 3)).off + 2, none⟩ = some (.string TT)) := Lib.hid fun V hV => by
                have q := hlc.below (Below.on HB4.out hV)
                exact ⟨q.c0, q.c1, by rw [← hTT]; exact q.c2⟩
              have hwt := rowJ_wt T (by omega) s (HT2.out s hmem)
              have hws := spanJ_wt (atV_in T (by omega) s.fr) (atV_in T (by omega) s.till)
              have HF5 : Hid (∀ V, Below V4.heap.size V4 V → Calls Tryz.prog 27 #[.agg #[.int .i64 6, .string ⟨#[]⟩, .slice jkp 2 jkc, .slice jip 2 jic], .string ⟨#[114, 97, 110, 103, 101]⟩] V fun e w' => ∃ fp fc gp gc, e = .returned (.tuple #[.agg #[.int .i64 6, .string ⟨#[]⟩, .slice fp 2 fc, .slice gp 2 gc], .bool true]) ∧ KP w' (V.heap.size ≤ ·) (spanJ (atV T s.fr) (atV T s.till)) fp fc gp gc ∧ Below V.heap.size V w') := Lib.hid fun V hV => (fieldA_is (f := spanJ (atV T s.fr) (atV T s.till)) (b := true) (K := ⟨#[114, 97, 110, 103, 101]⟩) (hki.stay hV) (by omega) rfl rfl rfl rfl V (Below.refl _ _)).mono fun _ _ ⟨a, b, c, d, e, f, _, g⟩ => ⟨a, b, c, d, e, f, g⟩
              have HF6 : Hid (∀ V, Below V4.heap.size V4 V → Calls Tryz.prog 27 #[.agg #[.int .i64 6, .string ⟨#[]⟩, .slice jkp 2 jkc, .slice jip 2 jic], .string ⟨#[110, 101, 119, 84, 101, 120, 116]⟩] V fun e w' => ∃ fp fc gp gc, e = .returned (.tuple #[.agg #[.int .i64 4, .string TT, .slice fp 0 fc, .slice gp 0 gc], .bool true]) ∧ KP w' (V.heap.size ≤ ·) (strJ s.text) fp fc gp gc ∧ Below V.heap.size V w') := Lib.hid fun V hV => (fieldA_is (f := strJ s.text) (b := true) (K := ⟨#[110, 101, 119, 84, 101, 120, 116]⟩) (hki.stay hV) (by omega) rfl rfl rfl hTT V (Below.refl _ _)).mono fun _ _ ⟨a, b, c, d, e, f, _, g⟩ => ⟨a, b, c, d, e, f, g⟩
              have HGS := Lib.hid (HGD.out s hmem)
              have HWS := Lib.hid hws
              have hf5 := HF5.out wr hB
              obtain ⟨j0, j1, j2, j3⟩ := HJC.out wr hB
              have HROW := Lib.hid hrow
              have HBr := Lib.hid hB
              have HTT := Lib.hid hTT
              have HS1 := Lib.hid hs1
              clear hrow hB hki hjc hlc hmem hTT hs1 hwt hws
              go_upto_region 25 with (first
                | (with_reducible (show Calls _ _ _ wr _); go_at_call 27; refine hf5.mono ?_; rintro e w5 ⟨fp, fc, gp, gc, rfl, hkp5, hb5⟩
                   obtain ⟨V5, hV5⟩ : ∃ V, w5.alloc (.cells #[.int .i64 6, .string ⟨#[]⟩, .slice fp 2 fc, .slice gp 2 gc] 25) = V := ⟨_, rfl⟩
                   have hv5 := alloc_b hV5
                   have b5 := Below.on hb5 hv5
                   have hB5 := Below.on HBr.out b5
                   obtain ⟨x0, x1, x2, x3⟩ := HX4.out V5 hB5
                   obtain ⟨j0, j1, j2, j3⟩ := HJC.out V5 hB5
                   have HR5 := Lib.hid (row_at hV5)
                   have HK5 := Lib.hid (kp_on' hkp5 hv5).ki
                   have hf6 := HF6.out V5 hB5
                   clear hkp5)
                | (with_reducible (show Calls _ _ _ V5 _); go_at_call 27; refine hf6.mono ?_; rintro e w6 ⟨fp', fc', gp', gc', rfl, _, hb6⟩))
              obtain ⟨V6, hV6⟩ : ∃ V, w6.alloc (.cells #[.int .i64 4, .string TT, .slice fp' 0 fc', .slice gp' 0 gc'] 25) = V := ⟨_, rfl⟩
              rw [hV6]
              have hv6 := alloc_b hV6
              have b56 := Below.on hb6 hv6
              have b6 := Below.on b5 b56
              have hr5 := (b56.block _ (ltS HR5.out)).trans HR5.out
              have hr6 := row_at hV6
              have hl5 : wr.heap.size ≤ w5.heap.size := hb5.size
              have hl6 : wr.heap.size ≤ w6.heap.size := by have := b5.size; have := hb6.size; omega
              have bd : Below V6.heap.size V6 V6.drew := (Below.refl _ _).drew
              have hB6 := Below.on HBr.out (Below.on b6 bd)
              have hBw := Below.on HB4.out hB6
              have hk5 := HK5.out.stay (Below.on b56 bd)
              have hrow6 := own_below HROW.out (Below.on b6 bd)
              have h62a : Calls Tryz.prog 62 #[.string T, .agg #[.int .i64 6, .string ⟨#[]⟩, .slice fp 2 fc, .slice gp 2 gc], .string ⟨#[115, 116, 97, 114, 116]⟩] V6.drew fun e w' => e = .returned (.int .i64 s.fr) ∧ Below V6.drew.heap.size V6.drew w' :=
                at62 (fun V hV => HE.out V (Below.on hBw hV)) T (by omega) hk5 (by have := HWS.out; omega) rfl ⟨#[115, 116, 97, 114, 116]⟩ (atV T s.fr) rfl (atV_in T (by omega) s.fr).1 (atV_in T (by omega) s.fr).2 _ HGS.out.1
              have H62b : Hid (∀ V, Below V6.drew.heap.size V6.drew V → Calls Tryz.prog 62 #[.string T, .agg #[.int .i64 6, .string ⟨#[]⟩, .slice fp 2 fc, .slice gp 2 gc], .string ⟨#[101, 110, 100]⟩] V fun e w' => e = .returned (.int .i64 s.till) ∧ Below V.heap.size V w') := Lib.hid fun V hV =>
                at62 (fun V' hV' => HE.out V' (Below.on hBw (Below.on hV hV'))) T (by omega) (hk5.stay hV) (by have := HWS.out; omega) rfl ⟨#[101, 110, 100]⟩ (atV T s.till) rfl (atV_in T (by omega) s.till).1 (atV_in T (by omega) s.till).2 _ HGS.out.2
              have hSD : V6.drew.heap[w5.heap.size]? = some (.cells #[.int .i64 6, .string ⟨#[]⟩, .slice fp 2 fc, .slice gp 2 gc] 25 (0, 0)) ∧ V6.drew.heap[w6.heap.size]? = some (.cells #[.int .i64 4, .string TT, .slice fp' 0 fc', .slice gp' 0 gc'] 25 (0, 0)) := ⟨hr5, hr6⟩
              clear hf5 hf6 hv5 hv6 hk5
              refine wp_region_held_drew (S := (fun V => V.heap[w5.heap.size]? = some (.cells #[.int .i64 6, .string ⟨#[]⟩, .slice fp 2 fc, .slice gp 2 gc] 25 (0, 0)) ∧ V.heap[w6.heap.size]? = some (.cells #[.int .i64 4, .string TT, .slice fp' 0 fc', .slice gp' 0 gc'] 25 (0, 0)))) (by kernel_rfl) hSD (fun hHeld => ?_)
              refine wpAnyH_take (i := 0) (oi := { dst := some 144, op := Op.move (Operand.tmp 17), type := 91, pos := "outright.go:109", after := #[], guard := none }) (v := ?_) rfl (by kernel_rfl) (by kernel_rfl) (by kernel_rfl) (fun _ _ _ h => h) (Or.inl ⟨by rfl, ?_⟩) (by assumption) ?_
              rotate_left
              · intro wx hS; go_simp; with_reducible rfl
              try simp only [Act.put, aSA, aSZ, aSS]
              refine wpAnyH_take (i := 1) (oi := { dst := some 145, op := Op.move (Operand.tmp 0), type := 9, pos := "outright.go:109", after := #[], guard := none }) (v := ?_) rfl (by kernel_rfl) (by kernel_rfl) (by kernel_rfl) (fun _ _ _ h => h) (Or.inl ⟨by rfl, ?_⟩) (by assumption) ?_
              rotate_left
              · intro wx hS; go_simp; with_reducible rfl
              try simp only [Act.put, aSA, aSZ, aSS]
              refine wpAnyH_take (i := 2) (oi := { dst := some 146, op := Op.load 25 (Operand.tmp 19), type := 25, pos := "outright.go:109", after := #[], guard := none }) (v := ?_) rfl (by kernel_rfl) (by kernel_rfl) (by kernel_rfl) (fun _ _ _ h => h) (Or.inl ⟨by rfl, ?_⟩) (by assumption) ?_
              rotate_left
              · intro wx hS; obtain ⟨hp, _⟩ := hS; obtain ⟨k0, k1, k2, k3⟩ := cells4 hp; go_simp; with_reducible rfl
              try simp only [Act.put, aSA, aSZ, aSS]
              refine wpAnyH_take (i := 4) (oi := { dst := some 148, op := Op.move (Operand.tmp 0), type := 9, pos := "outright.go:109", after := #[], guard := none }) (v := ?_) rfl (by kernel_rfl) (by kernel_rfl) (by kernel_rfl) (fun _ _ _ h => h) (Or.inl ⟨by rfl, ?_⟩) (by assumption) ?_
              rotate_left
              · intro wx hS; go_simp; with_reducible rfl
              try simp only [Act.put, aSA, aSZ, aSS]
              refine wpAnyH_take (i := 5) (oi := { dst := some 149, op := Op.load 25 (Operand.tmp 19), type := 25, pos := "outright.go:109", after := #[], guard := none }) (v := ?_) rfl (by kernel_rfl) (by kernel_rfl) (by kernel_rfl) (fun _ _ _ h => h) (Or.inl ⟨by rfl, ?_⟩) (by assumption) ?_
              rotate_left
              · intro wx hS; obtain ⟨hp, _⟩ := hS; obtain ⟨k0, k1, k2, k3⟩ := cells4 hp; go_simp; with_reducible rfl
              try simp only [Act.put, aSA, aSZ, aSS]
              refine wpAnyH_take (i := 7) (oi := { dst := some 151, op := Op.fieldAddr 25 (Operand.tmp 21) 1, type := 0, pos := "outright.go:109", after := #[], guard := none }) (v := ?_) rfl (by kernel_rfl) (by kernel_rfl) (by kernel_rfl) (fun _ _ _ h => h) (Or.inl ⟨by rfl, ?_⟩) (by assumption) ?_
              rotate_left
              · intro wx hS; go_simp; with_reducible rfl
              try simp only [Act.put, aSA, aSZ, aSS]
              refine wpAnyH_take (i := 8) (oi := { dst := some 152, op := Op.load 9 (Operand.tmp 151), type := 9, pos := "outright.go:109", after := #[{ on := 7, ground := Ground.data }], guard := none }) (v := ?_) rfl (by kernel_rfl) (by kernel_rfl) (by kernel_rfl) (fun _ _ _ h => h) (Or.inl ⟨by rfl, ?_⟩) (by assumption) ?_
              rotate_left
              · intro wx hS; obtain ⟨_, hp⟩ := hS; obtain ⟨k0, k1, k2, k3⟩ := cells4 hp; go_simp; with_reducible rfl
              try simp only [Act.put, aSA, aSZ, aSS]
              refine wpAnyH_ready (rs := [3]) (by kernel_rfl) (by simp) (AllReadyH.cons (o := { dst := some 147, op := Op.call { callee := Callee.value (Operand.func 62), args := #[Operand.tmp 145, Operand.tmp 146, Operand.const (Value.string { data := #[115, 116, 97, 114, 116] })], argTypes := #[9, 25, 9] }, type := 3, pos := "outright.go:109", after := #[{ on := 1, ground := Ground.data }, { on := 2, ground := Ground.data }], guard := none }) rfl (fun K' hK => ?_) AllReadyH.nil)
              rw [if_pos (by rfl)]
              go_simp
              go_at_call 62
              refine h62a.mono ?_
              rintro e w7 ⟨rfl, hb7⟩
              have hS7 : w7.heap[w5.heap.size]? = some (.cells #[.int .i64 6, .string ⟨#[]⟩, .slice fp 2 fc, .slice gp 2 gc] 25 (0, 0)) ∧ w7.heap[w6.heap.size]? = some (.cells #[.int .i64 4, .string TT, .slice fp' 0 fc', .slice gp' 0 gc'] 25 (0, 0)) := ⟨(hb7.block _ (ltS hSD.1)).trans hSD.1, (hb7.block _ (ltS hSD.2)).trans hSD.2⟩
              have h62b := H62b.out w7 hb7
              refine hK.out _ _ hS7 (fun hH3 => ?_)
              clear hK K'
              try simp only [Act.put, aSA, aSZ, aSS]
              refine wpAnyH_ready (rs := [6]) (by kernel_rfl) (by simp) (AllReadyH.cons (o := { dst := some 150, op := Op.call { callee := Callee.value (Operand.func 62), args := #[Operand.tmp 148, Operand.tmp 149, Operand.const (Value.string { data := #[101, 110, 100] })], argTypes := #[9, 25, 9] }, type := 3, pos := "outright.go:109", after := #[{ on := 4, ground := Ground.data }, { on := 5, ground := Ground.data }, { on := 3, ground := Ground.chain }], guard := none }) rfl (fun K' hK => ?_) AllReadyH.nil)
              rw [if_pos (by rfl)]
              go_simp
              go_at_call 62
              refine h62b.mono ?_
              rintro e w8 ⟨rfl, hb8⟩
              have hS8 : w8.heap[w5.heap.size]? = some (.cells #[.int .i64 6, .string ⟨#[]⟩, .slice fp 2 fc, .slice gp 2 gc] 25 (0, 0)) ∧ w8.heap[w6.heap.size]? = some (.cells #[.int .i64 4, .string TT, .slice fp' 0 fc', .slice gp' 0 gc'] 25 (0, 0)) := ⟨(hb8.block _ (ltS hS7.1)).trans hS7.1, (hb8.block _ (ltS hS7.2)).trans hS7.2⟩
              have hrow8 := own_below (own_below hrow6 hb7) hb8
              refine hK.out _ _ hS8 (fun hH6 => ?_)
              clear hK K'
              try simp only [Act.put, aSA, aSZ, aSS]
              refine wpAnyH_take (i := 9) (oi := { dst := some 153, op := Op.build 107 #[(0, Operand.tmp 147), (1, Operand.tmp 150), (2, Operand.tmp 152)], type := 107, pos := "outright.go:109", after := #[{ on := 3, ground := Ground.data }, { on := 6, ground := Ground.data }, { on := 8, ground := Ground.data }], guard := none }) (v := ?_) rfl (by kernel_rfl) (by kernel_rfl) (by kernel_rfl) (fun _ _ _ h => h) (Or.inl ⟨by rfl, ?_⟩) (by assumption) ?_
              rotate_left
              · intro wx hS; go_simp; with_reducible rfl
              try simp only [Act.put, aSA, aSZ, aSS]
              refine wpAnyH_ready (rs := [10]) (by kernel_rfl) (by simp) (AllReadyH.cons (o := { dst := some 154, op := Op.buildSlice 91 1 #[(0, Operand.tmp 153)], type := 91, pos := "outright.go:109", after := #[{ on := 9, ground := Ground.data }], guard := none }) rfl (fun K' hK => ?_) AllReadyH.nil)
              rw [if_pos (by rfl)]
              go_simp
              have hS9 : (w8.alloc (.cells #[.int .i64 s.fr, .int .i64 s.till, .string TT] 107)).heap[w5.heap.size]? = some (.cells #[.int .i64 6, .string ⟨#[]⟩, .slice fp 2 fc, .slice gp 2 gc] 25 (0, 0)) ∧ (w8.alloc (.cells #[.int .i64 s.fr, .int .i64 s.till, .string TT] 107)).heap[w6.heap.size]? = some (.cells #[.int .i64 4, .string TT, .slice fp' 0 fc', .slice gp' 0 gc'] 25 (0, 0)) := ⟨((alloc_b rfl).block _ (ltS hS8.1)).trans hS8.1, ((alloc_b rfl).block _ (ltS hS8.2)).trans hS8.2⟩
              refine hK.out _ _ hS9 (fun hH10 => ?_)
              clear hK K'
              try simp only [Act.put, aSA, aSZ, aSS]
              refine wpAnyH_ready (rs := [11]) (by kernel_rfl) (by simp) (AllReadyH.cons (o := { dst := some 155, op := Op.call { callee := Callee.builtin Builtin.append, args := #[Operand.tmp 144, Operand.tmp 154], argTypes := #[91, 91] }, type := 91, pos := "outright.go:109", after := #[{ on := 0, ground := Ground.data }, { on := 10, ground := Ground.data }, { on := 6, ground := Ground.chain }], guard := none }) rfl (fun K' hK => ?_) AllReadyH.nil)
              rw [if_pos (by rfl)]
              refine wp_append_own_at (.tmp 144) (.tmp 154) 91 rfl V4.heap.size 107 i107 _ 3 32 Tryz.underlying91 hi107 hz107 hs107 hb107 rfl (by decide) _ _ _ rfl (hrow8.alloc (.cells #[.int .i64 s.fr, .int .i64 s.till, .string TT] 107)) ⟨w8.heap.size, 0, none⟩ 1 1 [.int .i64 s.fr, .int .i64 s.till, .string TT] rfl rfl (new_cells _ _ _) (fun u hu => by simp only [List.mem_cons, List.not_mem_nil, or_false] at hu; rcases hu with rfl | rfl | rfl <;> rfl) (by unfold maxLen; omega) (by omega) (by have := HBr.out.size; have := b6.size; have := hb7.size; have := hb8.size; have : V6.drew.heap.size = V6.heap.size := rfl; simp; omega) ?_
              intro ov2 wx hi2 hgi hat2
              obtain ⟨op2, oc2, rfl⟩ := row_form hi2
              have hSx : wx.heap[w5.heap.size]? = some (.cells #[.int .i64 6, .string ⟨#[]⟩, .slice fp 2 fc, .slice gp 2 gc] 25 (0, 0)) ∧ wx.heap[w6.heap.size]? = some (.cells #[.int .i64 4, .string TT, .slice fp' 0 fc', .slice gp' 0 gc'] 25 (0, 0)) := ⟨(hgi.block _ (ltS hS9.1) (fun e => by have := (row_lt HROW.out e.symm).2; omega)).trans hS9.1, (hgi.block _ (ltS hS9.2) (fun e => by have := (row_lt HROW.out e.symm).2; omega)).trans hS9.2⟩
              refine hK.out _ _ hSx (fun hH11 => ?_)
              clear hK K'
              try simp only [Act.put, aSA, aSZ, aSS]
              refine wpAnyH_take (i := 12) (oi := { dst := some 17, op := Op.assign (Operand.tmp 155), type := 91, pos := "outright.go:109", after := #[{ on := 11, ground := Ground.data }, { on := 11, ground := Ground.chain }, { on := 0, ground := Ground.phase }, { on := 1, ground := Ground.phase }, { on := 2, ground := Ground.phase }, { on := 3, ground := Ground.phase }, { on := 4, ground := Ground.phase }, { on := 5, ground := Ground.phase }, { on := 6, ground := Ground.phase }, { on := 7, ground := Ground.phase }, { on := 8, ground := Ground.phase }, { on := 9, ground := Ground.phase }, { on := 10, ground := Ground.phase }, { on := 11, ground := Ground.phase }], guard := none }) (v := ?_) rfl (by kernel_rfl) (by kernel_rfl) (by kernel_rfl) (fun _ _ _ h => h) (Or.inl ⟨by rfl, ?_⟩) (by assumption) ?_
              rotate_left
              · intro wx hS; go_simp; with_reducible rfl
              try simp only [Act.put, aSA, aSZ, aSS]
              refine wpAnyH_done (by kernel_rfl) ?_ _
              have hbx := Below.on (Below.on b6 bd) (Below.on hb7 hb8)
              have hBx : Below V4.heap.size V4 wx := below_fr (below_fr HBr.out (Nat.le_refl _) (FrP.of_none (P := fun _ => False) (gb_below' hbx)) (fun _ h => h.elim)) (Nat.le_refl _) ((FrP.of_none (World.grownBy_alloc w8 (.cells #[.int .i64 s.fr, .int .i64 s.till, .string TT] 107) none)).trans (FrP.of_row hgi (fun k hk => hk))) (fun k hk => (row_lt HROW.out hk).1)
              have htk : splC (l.take (i + 1)) = splC (l.take i) ++ [.int .i64 s.fr, .int .i64 s.till, .string TT] := by
                rw [List.take_add_one, HS1.out, ← HTT.out]
                exact splC_snoc _ _
              rw [← htk] at hi2
              have hspl := spl_row hi2 (by rw [List.length_take]; omega)
              obtain ⟨oa, rfl, hoc⟩ := hspl i s (by rw [List.getElem?_take, if_pos (by omega)]; exact HS1.out)
              have HOC : Hid (∀ V, Below wx.heap.size wx V → V.cell? (oa.add (i * 3)) = some (.int .i64 s.fr) ∧ V.cell? ⟨(oa.add (i * 3)).block, (oa.add (i * 3)).off + 1, none⟩ = some (.int .i64 s.till) ∧ V.cell? ⟨(oa.add (i * 3)).block, (oa.add (i * 3)).off + 2, none⟩ = some (.string TT)) := Lib.hid fun V hV => by
                have q := hoc.below hV
                exact ⟨q.c0, q.c1, by rw [← HTT.out]; exact q.c2⟩
              have HI2 := Lib.hid hi2
              have HBX := Lib.hid hBx
              clear hi2 hBx hspl hoc hgi hat2 hrow6 hSD
              go_upto_region 26 with fail
              obtain ⟨y0, y1, y2⟩ := HOC.out wx (Below.refl _ _)
              obtain ⟨v0, v1, v2⟩ := HLC.out wx HBX.out
              go_quiet (fail)
              go_wp2_with fail
              go_roundw
              case rel => exact ⟨i + 1, _, oc2, rfl, by go_num, by omega, own_below HI2.out (below_draws (Below.refl _ _) _), Below.on HBX.out (below_draws (Below.refl _ _) _)⟩
              case measure => simp [RowKit.intOf]; omega
            · obtain rfl : i = l.length := by omega
              rw [List.take_length] at hrow
              have hspl := spl_row hrow rfl
              have hBw := Below.on HB4.out hB
              have hsz : ∀ x ∈ piecesV T 0 l, x.size ≤ 1000000 := fun x hx => by have := piecesV_size T 200 l 0 HT2.out x hx; omega
              obtain ⟨n, hn⟩ : ∃ n, (bytesV (piecesV T 0 l)).length = n := ⟨_, rfl⟩
              have hn2 : n ≤ 65536 := by
                have := bytesV_len T 200 l 0 (Int.le_refl _) HFI.out HT2.out
                rw [hn] at this
                simp at this
                omega
              obtain ⟨R, hR⟩ : ∃ B : ByteArray, (⟨(bytesV (piecesV T 0 l)).toArray⟩ : ByteArray) = B := ⟨_, rfl⟩
              have h63a := apply63 T (by omega) (by omega) hsz HFI.out n hn hn2 (c := oc) hspl
              have H63b : Hid (∀ V, Below wr.heap.size wr V → Calls Tryz.prog 63 #[.string T, .slice p l.length c] V fun e w' => e = .returned (.tuple #[.string R, .int .i64 0]) ∧ Below V.heap.size V w') := Lib.hid fun V hV => by
                rw [← hR]
                exact apply63 T (by omega) (by omega) hsz HFI.out n hn hn2 (HS.out.below (Below.on hBw hV))
              rw [hR] at h63a
              have H15' : Hid (∀ V, Below wr.heap.size wr V → Calls Tryz.prog 15 #[] V fun e w' => e = .returned (.bool true) ∧ Below V.heap.size V w') := Lib.hid fun V hV => awake15 (fun V' hV' => HE.out V' (Below.on (Below.on hBw hV) hV'))
              have hRR : (R.toList == R.toList) = true := by simp
              have HBW := Lib.hid hBw
              clear hrow hspl hB hBw hsz hn hn2 hR x0 x1 x2 x3
              go_wp2_with (first
                | (with_reducible (show Calls _ _ _ wr _); go_at_call 63; refine h63a.mono ?_; rintro e w5 ⟨rfl, hb5⟩; have h63b := H63b.out w5 hb5)
                | (with_reducible (show Calls _ _ _ w5 _); go_at_call 63; refine h63b.mono ?_; rintro e w6 ⟨rfl, hb6⟩; have h15 := H15'.out w6 (Below.on hb5 hb6))
                | (go_at_call 15; refine h15.mono ?_; rintro e w7 ⟨rfl, hb7⟩))
              go_ret
              exact ⟨rfl, Below.on HBW.out (Below.on hb5 (Below.on hb6 hb7))⟩
    · have H58' : Hid (∀ V, Below W.heap.size W V → Calls Tryz.prog 58 #[.int .i64 (T.size : Int), .slice p l.length c] V fun e w' => e = .returned (.int .i64 2) ∧ Below V.heap.size V w') := Lib.hid fun V hV => by
        have := H58.out V hV
        rw [if_neg hf] at this
        exact this
      clear hf
      go_enter Tryz.func12, Tryz.ntmps12
      go_upto_region 3 with fail
      have hW3 := HW3.out
      rw [hW3]
      go_wp2_with (first
        | (go_at_call 57; refine h57.mono ?_; rintro e w1 ⟨rfl, hb1⟩; have h58 := H58'.out w1 hb1)
        | (go_at_call 58; refine h58.mono ?_; rintro e w2 ⟨rfl, hb2⟩; have h15 := H15.out w2 (Below.on hb1 hb2))
        | (go_at_call 15; refine h15.mono ?_; rintro e w3 ⟨rfl, hb3⟩))
      go_ret
      exact ⟨rfl, Below.on HB.out (Below.on hb1 (Below.on hb2 hb3))⟩
end Go.Proofs.Ls
