/- RpcTold: the walk. Printed by gen_p14.py. -/
import Derived.Test.YtaiaiiepbpbmmaaGreatDoorP8
import Derived.Test.YtaiaiiepbpbmmaaGreatDoorP11
import Derived.Test.YtaiaiiepbpbmmaaGreatDoorP13
import Derived.Deep.CutBlock
namespace Go.Proofs.Rp
open Go.RowKit Go.Maps Go.Lib Go.Proofs.Utf Go.Proofs.Jt Go.Proofs

theorem cells6 {w : World} {z : Nat} {a b c d e f : Value} {t : TypeId} (hz : w.heap[z]? = some (.cells #[a, b, c, d, e, f] t (0, 0))) : w.cell? ⟨z, 0, none⟩ = some a ∧ w.cell? ⟨z, 1, none⟩ = some b ∧ w.cell? ⟨z, 2, none⟩ = some c ∧ w.cell? ⟨z, 3, none⟩ = some d ∧ w.cell? ⟨z, 4, none⟩ = some e ∧ w.cell? ⟨z, 5, none⟩ = some f := by
  refine ⟨?_, ?_, ?_, ?_, ?_, ?_⟩ <;> simp [World.cell?, hz]
/-- what a reply is read as -/
theorem read_rep {w : World} (s : ByteArray) (i : IdV) (I : ByteArray) (hI : (⟨i.s.toArray⟩ : ByteArray) = I) (hT : Tabs w) (hE : ErrV w) (hs : s.size ≤ 400000) (hr : readV s.data.toList = (⟨3, i, [], jn 0⟩, i, 0)) :
    Calls Tryz.prog 35 #[.string s] w fun e w' => (∃ kq kd iq id, e = .returned (.tuple #[.agg #[.int .i64 3, .int .i64 i.k, .int .i64 i.n, .string I, .string ⟨#[]⟩, .int .i64 0, .string ⟨#[]⟩, .slice kq 0 kd, .slice iq 0 id], .agg #[.int .i64 i.k, .int .i64 i.n, .string I], .int .i64 0])) ∧ Below w.heap.size w w' := by
  have h := read_any s hT hE hs
  rw [hr] at h
  refine h.mono ?_
  rintro e w' ⟨kq, kd, iq, id, rfl, _, h3⟩
  exact ⟨⟨kq, kd, iq, id, by rw [← hI]; rfl⟩, h3⟩
theorem par_nil : (parV []).2 ≠ 0 := by decide +kernel
theorem ba_ext {A B : ByteArray} (h : A.data.toList = B.data.toList) : A = B := ByteArray.ext (Array.toList_inj.1 h)
theorem arr_inj {a b : List UInt8} (h : (⟨a.toArray⟩ : ByteArray) = ⟨b.toArray⟩) : a = b := congrArg (fun x : ByteArray => x.data.toList) h
theorem nat_beq {n : Nat} (h : ¬ n = 0) : ((n : Int) == 0) = false := beq_eq_false_iff_ne.2 (by omega)
set_option maxRecDepth 100000 in
set_option maxHeartbeats 16000000 in
theorem told_walk {w : World} (i j : IdV) (I J : ByteArray) (hI : (⟨i.s.toArray⟩ : ByteArray) = I) (hJ : (⟨j.s.toArray⟩ : ByteArray) = J) (hi0 : -9223372036854775808 ≤ i.n) (hi1 : i.n ≤ 9223372036854775807) (hj0 : -9223372036854775808 ≤ j.n) (hj1 : j.n ≤ 9223372036854775807)
    (c : Int) (hc0 : -9223372036854775808 ≤ c) (hc1 : c ≤ 9223372036854775807) {v : JV} {T : ByteArray} (hT2 : (⟨v.str.toArray⟩ : ByteArray) = T) (hpl : v.str.length ≤ maxLen) {kp ip : Option Addr} {kc ic : Nat} (hT : Tabs w) (hE : ErrV w) (hTen : TenV w) (hWV : WordV w) (hK : KI w v kp kc ip ic) :
    Calls Tryz.prog 9 #[.agg #[.int .i64 i.k, .int .i64 i.n, .string I, .int .i64 j.k, .int .i64 j.n, .string J], .agg #[.int .i64 v.kind, .string T, .slice kp v.keys.length kc, .slice ip v.items.length ic], .int .i64 c] w fun e w' => e = .returned (.bool true) ∧ Below w.heap.size w w' := by
  obtain ⟨W1, hW1⟩ : ∃ W, w.alloc (.cells #[.int .i64 i.k, .int .i64 i.n, .string I, .int .i64 j.k, .int .i64 j.n, .string J] 81) = W := ⟨_, rfl⟩
  obtain ⟨W, hW⟩ : ∃ W, W1.alloc (.cells #[.int .i64 v.kind, .string T, .slice kp v.keys.length kc, .slice ip v.items.length ic] 25) = W := ⟨_, rfl⟩
  have bW1 := alloc_b hW1
  have bW2 := alloc_b hW
  have bW := Below.on bW1 bW2
  have hz1 : W1.heap.size = w.heap.size + 1 := by rw [← hW1]; simp
  have hbi : ∀ V, Below W.heap.size W V → _ := fun V hV => cells6 (row_of hW1 V (Below.on bW2 hV))
  have hbv := box_of hW
  rw [hz1] at hbv
  have HI := Lib.hid hbi
  have HV := Lib.hid hbv
  have HT : Hid (∀ V, Below W.heap.size W V → Tabs V ∧ ErrV V ∧ TenV V ∧ WordV V) := Lib.hid fun V hV => ⟨hT.below (Below.on bW hV), hE.below (Below.on bW hV), hTen.below (Below.on bW hV), hWV.below (Below.on bW hV)⟩
  have HK : Hid (∀ V, Below W.heap.size W V → KI V v kp kc ip ic) := Lib.hid fun V hV => hK.stay (Below.on bW hV)
  have HBW := Lib.hid bW
  have hfew := few38_any (HK.out W (Below.refl _ _)) hpl hT2
  subst hW1
  obtain ⟨x0, x1, x2, x3, x4, x5⟩ := hbi W (Below.refl _ _)
  obtain ⟨d0, d1, d2, d3⟩ := hbv W (Below.refl _ _)
  have HS := Lib.hid (And.intro hI (And.intro hJ hT2))
  have HBD := Lib.hid (And.intro hi0 (And.intro hi1 (And.intro hj0 (And.intro hj1 (And.intro hc0 hc1)))))
  have his : i.s.length = I.size := by rw [← hI, arr_size]
  have hjs : j.s.length = J.size := by rw [← hJ, arr_size]
  clear hI hJ hT2 hi0 hi1 hj0 hj1 hc0 hc1 hpl hT hE hTen hWV hK bW bW1 bW2 hbi hbv hz1
  by_cases hf : 0 < v.sz 1500
  · rw [decide_eq_true hf] at hfew
    have hpw := few_wt hf
    clear hf
    by_cases hIb : 1500 < I.size
    · clear his hjs hpw
      go_enter Tryz.func9, Tryz.ntmps9
      go_wp2_with (first
        | (go_at_call 38; refine (hfew _ (Below.refl _ _)).mono ?_; rintro e w1 ⟨rfl, hb1⟩; clear x0 x1 x2 x3 x4 x5 d0 d1 d2 d3; obtain ⟨x0, x1, x2, x3, x4, x5⟩ := HI.out w1 hb1; obtain ⟨d0, d1, d2, d3⟩ := HV.out w1 hb1)
        | (go_at_call 34; refine (works_any _ (HT.out _ hb1).1 (HT.out _ hb1).2.1 (HT.out _ hb1).2.2.1).mono ?_; rintro e w9 ⟨rfl, hb9⟩))
      go_ret
      exact ⟨rfl, Below.on HBW.out (Below.on hb1 hb9)⟩
    · by_cases hJb : 1500 < J.size
      · clear his hjs hpw
        go_enter Tryz.func9, Tryz.ntmps9
        go_wp2_with (first
          | (go_at_call 38; refine (hfew _ (Below.refl _ _)).mono ?_; rintro e w1 ⟨rfl, hb1⟩; clear x0 x1 x2 x3 x4 x5 d0 d1 d2 d3; obtain ⟨x0, x1, x2, x3, x4, x5⟩ := HI.out w1 hb1; obtain ⟨d0, d1, d2, d3⟩ := HV.out w1 hb1)
          | (go_at_call 34; refine (works_any _ (HT.out _ hb1).1 (HT.out _ hb1).2.1 (HT.out _ hb1).2.2.1).mono ?_; rintro e w9 ⟨rfl, hb9⟩))
        go_ret
        exact ⟨rfl, Below.on HBW.out (Below.on hb1 hb9)⟩
      · obtain ⟨A, ea, hra⟩ : ∃ (X : ByteArray) (n : Nat), resV i v = (X.data.toList, n) := ⟨⟨(resV i v).1.toArray⟩, (resV i v).2, by simp⟩
        obtain ⟨B, eb, hrb⟩ : ∃ (X : ByteArray) (n : Nat), resV j v = (X.data.toList, n) := ⟨⟨(resV j v).1.toArray⟩, (resV j v).2, by simp⟩
        obtain ⟨C, g, hrc⟩ : ∃ (X : ByteArray) (n : Nat), failV i c v = (X.data.toList, n) := ⟨⟨(failV i c v).1.toArray⟩, (failV i c v).2, by simp⟩
        obtain ⟨WB, hWB⟩ : ∃ B : ByteArray, (⟨(wordsV c).toArray⟩ : ByteArray) = B := ⟨_, rfl⟩
        have HW : Hid (i.s.length ≤ 1500 ∧ j.s.length ≤ 1500 ∧ v.wt ≤ 1500) := Lib.hid (by omega)
        have HR := Lib.hid (And.intro hra (And.intro hrb (And.intro hrc hWB)))
        clear his hjs hpw hra hrb hrc hWB
        go_enter Tryz.func9, Tryz.ntmps9
        go_upto_region 6 with (first
          | (go_at_call 38; refine (hfew _ (Below.refl _ _)).mono ?_; rintro e w1 ⟨rfl, hb1⟩; clear x0 x1 x2 x3 x4 x5 d0 d1 d2 d3; obtain ⟨x0, x1, x2, x3, x4, x5⟩ := HI.out w1 hb1; obtain ⟨d0, d1, d2, d3⟩ := HV.out w1 hb1; have h1 := result_any i I HS.out.1 HBD.out.1 HBD.out.2.1 (by have := HW.out; omega) (HT.out w1 hb1).1 (HT.out w1 hb1).2.2.1 (HK.out w1 hb1) (by have := HW.out; omega) HS.out.2.2 A ea HR.out.1)
          | (with_reducible (show Calls _ _ _ w1 _); go_at_call 43; refine h1.mono ?_; rintro e w2 ⟨rfl, hb2⟩; have b2 := Below.on hb1 hb2; clear h1; clear x0 x1 x2 x3 x4 x5 d0 d1 d2 d3; obtain ⟨x0, x1, x2, x3, x4, x5⟩ := HI.out w2 b2; obtain ⟨d0, d1, d2, d3⟩ := HV.out w2 b2
             have h2 := result_any j J HS.out.2.1 HBD.out.2.2.1 HBD.out.2.2.2.1 (by have := HW.out; omega) (HT.out w2 b2).1 (HT.out w2 b2).2.2.1 (HK.out w2 b2) (by have := HW.out; omega) HS.out.2.2 B eb HR.out.2.1)
          | (with_reducible (show Calls _ _ _ w2 _); go_at_call 43; refine h2.mono ?_; rintro e w3 ⟨rfl, hb3⟩; have b3 := Below.on b2 hb3; clear h2; clear x0 x1 x2 x3 x4 x5 d0 d1 d2 d3; obtain ⟨x0, x1, x2, x3, x4, x5⟩ := HI.out w3 b3; obtain ⟨d0, d1, d2, d3⟩ := HV.out w3 b3
             have h3 := fail_any i I HS.out.1 HBD.out.1 HBD.out.2.1 (by have := HW.out; omega) c HBD.out.2.2.2.2.1 HBD.out.2.2.2.2.2 WB HR.out.2.2.2 (fun V hV => words_any c WB HR.out.2.2.2 V (HT.out V (Below.on b3 hV)).2.2.2) (HT.out w3 b3).1 (HT.out w3 b3).2.2.1 (HK.out w3 b3) (by have := HW.out; omega) HS.out.2.2 C g HR.out.2.2.1)
          | (go_at_call 45; refine h3.mono ?_; rintro e w4 ⟨rfl, hb4⟩; have b4 := Below.on b3 hb4; clear h3; clear x0 x1 x2 x3 x4 x5 d0 d1 d2 d3; obtain ⟨x0, x1, x2, x3, x4, x5⟩ := HI.out w4 b4; obtain ⟨d0, d1, d2, d3⟩ := HV.out w4 b4))
        clear hfew
        go_cut [75] (fun x wx => x = .bool false ∧ Below w4.heap.size w4 wx)
        case first =>
          by_cases ea0 : ea = 0
          · by_cases eb0 : eb = 0
            · subst ea0 eb0
              have hAB := res_inj HBD.out.1 HBD.out.2.1 HBD.out.2.2.1 HBD.out.2.2.2.1 HR.out.1 HR.out.2.1
              by_cases hij : i = j
              · obtain rfl : A = B := ba_ext (hAB.2 hij)
                have hIJ : I = J := by rw [← HS.out.1, ← HS.out.2.1, hij]
                subst hij hIJ
                obtain ⟨t1, t2⟩ := str_same A
                obtain ⟨t3, t4⟩ := str_same I
                clear hAB
                go_wp2_with fail
                go_meet
                exact ⟨rfl, Below.refl _ _⟩
              · obtain ⟨t1, t2, t3⟩ := str_ne (fun e : A = B => hij (hAB.1 (by rw [e])))
                clear hAB
                by_cases hk : i.k = j.k
                · have k1 : (i.k == j.k) = true := by simp [hk]
                  by_cases hn : i.n = j.n
                  · have k2 : (i.n == j.n) = true := by simp [hn]
                    have hIJ : ¬ I = J := fun e => hij (IdV.ext' hk hn (arr_inj (HS.out.1.trans (e.trans HS.out.2.1.symm))))
                    obtain ⟨t4, t5, t6⟩ := str_ne hIJ
                    clear hij hk hn hIJ
                    go_wp2_with fail
                    go_meet
                    exact ⟨rfl, Below.refl _ _⟩
                  · have k2 : (i.n == j.n) = false := beq_eq_false_iff_ne.2 hn
                    clear hij hk
                    go_wp2_with fail
                    go_meet
                    exact ⟨rfl, Below.refl _ _⟩
                · have k1 : (i.k == j.k) = false := beq_eq_false_iff_ne.2 hk
                  clear hij
                  go_wp2_with fail
                  go_meet
                  exact ⟨rfl, Below.refl _ _⟩
            · have q := nat_beq eb0
              subst ea0
              clear eb0
              go_wp2_with fail
              go_meet
              exact ⟨rfl, Below.refl _ _⟩
          · have q := nat_beq ea0
            clear ea0
            go_wp2_with fail
            go_meet
            exact ⟨rfl, Below.refl _ _⟩
        case rest =>
          obtain ⟨rfl, hbc⟩ := hcut
          have bc := Below.on b4 hbc
          clear x0 x1 x2 x3 x4 x5 d0 d1 d2 d3
          obtain ⟨x0, x1, x2, x3, x4, x5⟩ := HI.out wc bc
          obtain ⟨d0, d1, d2, d3⟩ := HV.out wc bc
          obtain ⟨s1, s2⟩ := str_same I
          have hagg : ∀ (kp : Option Addr) (kc : Nat) (ip : Option Addr) (ic : Nat), (#[Value.int .i64 3, .int .i64 i.k, .int .i64 i.n, .string I, .string ⟨#[]⟩, .int .i64 0, .string ⟨#[]⟩, .slice kp 0 kc, .slice ip 0 ic] : Array Value).all (·.oneCell') = true := fun _ _ _ _ => by simp [Value.oneCell']
          by_cases ea0 : ea = 0
          · subst ea0
            have HRDA : Hid (readV A.data.toList = (⟨3, i, [], jn 0⟩, i, 0) ∧ A.size ≤ 400000) := Lib.hid ⟨read_res HBD.out.1 HBD.out.2.1 HR.out.1, by
              have h1 := res_size HBD.out.1 HBD.out.2.1 HR.out.1
              have h2 := HW.out
              rw [Lib.size_eq]
              omega⟩
            by_cases g0 : g = 0
            · subst g0
              have HRDC : Hid (readV C.data.toList = (⟨3, i, [], jn 0⟩, i, 0) ∧ C.size ≤ 400000) := Lib.hid ⟨read_fail HBD.out.1 HBD.out.2.1 HR.out.2.2.1, by
                have h1 := fail_size HBD.out.1 HBD.out.2.1 HBD.out.2.2.2.2.1 HBD.out.2.2.2.2.2 HR.out.2.2.1
                have h2 := HW.out
                rw [Lib.size_eq]
                omega⟩
              have HAC : Hid (¬ A = C) := Lib.hid fun e => res_fail HR.out.1 HR.out.2.2.1 (by rw [e])
              have h35A := read_rep A i I HS.out.1 (HT.out wc bc).1 (HT.out wc bc).2.1 (by have := HRDA.out; exact this.2) (by have := HRDA.out; exact this.1)
              go_upto_region 10 with (first
                | (go_at_call 35; refine h35A.mono ?_; rintro e rA ⟨⟨kqA, kdA, iqA, idA, rfl⟩, hbA⟩
                   obtain ⟨UA, hUA⟩ : ∃ V, rA.alloc (.cells #[.int .i64 0, .int .i64 0, .int .i64 0, .string ⟨#[]⟩, .string ⟨#[]⟩, .int .i64 0, .string ⟨#[]⟩, .slice none 0 0, .slice none 0 0] 59) = V := ⟨_, rfl⟩
                   have hzA : UA.heap.size = rA.heap.size + 1 := (by rw [← hUA]; simp)
                   obtain ⟨ZA, hZA⟩ : ∃ V, UA.alloc (.cells #[.int .i64 0, .int .i64 0, .string ⟨#[]⟩] 57) = V := ⟨_, rfl⟩
                   have uA := alloc_b hUA
                   have vA := alloc_b hZA
                   have hneA : rA.heap.size ≠ rA.heap.size + 1 := (by omega)
                   have hmzA := row_of hUA ZA vA
                   have hizA := row_of hZA ZA (Below.refl _ _)
                   rw [hzA] at hizA
                   have bzA : Below rA.heap.size rA ZA := Below.on uA vA
                   clear h35A)
                | (refine store_msg rfl (.tmp 13) (.tmp 81) rfl rA.heap.size rfl (.int .i64 3) (.int .i64 i.k) (.int .i64 i.n) (.string I) (.string ⟨#[]⟩) (.int .i64 0) (.string ⟨#[]⟩) (.slice kqA 0 kdA) (.slice iqA 0 idA) rfl (hagg kqA kdA iqA idA) ⟨_, _, _, _, _, _, _, _, _, hmzA⟩ (fun PA hPA hgPA _ => ?_)
                   have hiyA := (hgPA.block (rA.heap.size + 1) (Array.getElem?_eq_some_iff.1 hizA).1 (fun e => hneA (Option.some.inj e).symm)).trans hizA
                   have byA := below_gbz bzA (Nat.le_refl _) hgPA)
                | (refine store_id rfl (.tmp 14) (.tmp 82) rfl (rA.heap.size + 1) rfl (.int .i64 i.k) (.int .i64 i.n) (.string I) rfl rfl ⟨_, _, _, hiyA⟩ (fun QA hQA hgQA _ => ?_)
                   have hmA := (hgQA.block rA.heap.size (Array.getElem?_eq_some_iff.1 hPA).1 (fun e => hneA (Option.some.inj e))).trans hPA
                   have bxA := below_gbz byA (Nat.le_succ _) hgQA))
              have bqA := Below.on bc (Below.on hbA bxA)
              clear hmzA hizA hiyA hPA bzA byA
              clear x0 x1 x2 x3 x4 x5 d0 d1 d2 d3
              obtain ⟨x0, x1, x2, x3, x4, x5⟩ := HI.out QA bqA
              obtain ⟨d0, d1, d2, d3⟩ := HV.out QA bqA
              obtain ⟨n0, n1, n2, n3, n4, n5, n6, n7, n8⟩ := cells9 hmA
              obtain ⟨i0, i1, i2, _⟩ := cells3 hQA
              clear hmA hQA
              go_upto_region 12 with fail
              clear n0 n1 n2 n3 n4 n5 n6 n7 n8 i0 i1 i2
              have t7 := str_ne (HAC.out)
              obtain ⟨t4, t5, t6⟩ := t7
              have h35C := read_rep C i I HS.out.1 (HT.out QA bqA).1 (HT.out QA bqA).2.1 (by have := HRDC.out; exact this.2) (by have := HRDC.out; exact this.1)
              go_upto_region 14 with (first
                | (go_at_call 35; refine h35C.mono ?_; rintro e rC ⟨⟨kqC, kdC, iqC, idC, rfl⟩, hbC⟩
                   obtain ⟨UC, hUC⟩ : ∃ V, rC.alloc (.cells #[.int .i64 0, .int .i64 0, .int .i64 0, .string ⟨#[]⟩, .string ⟨#[]⟩, .int .i64 0, .string ⟨#[]⟩, .slice none 0 0, .slice none 0 0] 59) = V := ⟨_, rfl⟩
                   have hzC : UC.heap.size = rC.heap.size + 1 := (by rw [← hUC]; simp)
                   obtain ⟨ZC, hZC⟩ : ∃ V, UC.alloc (.cells #[.int .i64 0, .int .i64 0, .string ⟨#[]⟩] 57) = V := ⟨_, rfl⟩
                   have uC := alloc_b hUC
                   have vC := alloc_b hZC
                   have hneC : rC.heap.size ≠ rC.heap.size + 1 := (by omega)
                   have hmzC := row_of hUC ZC vC
                   have hizC := row_of hZC ZC (Below.refl _ _)
                   rw [hzC] at hizC
                   have bzC : Below rC.heap.size rC ZC := Below.on uC vC
                   clear h35C)
                | (refine store_msg rfl (.tmp 16) (.tmp 102) rfl rC.heap.size rfl (.int .i64 3) (.int .i64 i.k) (.int .i64 i.n) (.string I) (.string ⟨#[]⟩) (.int .i64 0) (.string ⟨#[]⟩) (.slice kqC 0 kdC) (.slice iqC 0 idC) rfl (hagg kqC kdC iqC idC) ⟨_, _, _, _, _, _, _, _, _, hmzC⟩ (fun PC hPC hgPC _ => ?_)
                   have hiyC := (hgPC.block (rC.heap.size + 1) (Array.getElem?_eq_some_iff.1 hizC).1 (fun e => hneC (Option.some.inj e).symm)).trans hizC
                   have byC := below_gbz bzC (Nat.le_refl _) hgPC)
                | (refine store_id rfl (.tmp 17) (.tmp 103) rfl (rC.heap.size + 1) rfl (.int .i64 i.k) (.int .i64 i.n) (.string I) rfl rfl ⟨_, _, _, hiyC⟩ (fun QC hQC hgQC _ => ?_)
                   have hmC := (hgQC.block rC.heap.size (Array.getElem?_eq_some_iff.1 hPC).1 (fun e => hneC (Option.some.inj e))).trans hPC
                   have bxC := below_gbz byC (Nat.le_succ _) hgQC))
              have bqC := Below.on bqA (Below.on hbC bxC)
              clear hmzC hizC hiyC hPC bzC byC
              clear x0 x1 x2 x3 x4 x5 d0 d1 d2 d3
              obtain ⟨x0, x1, x2, x3, x4, x5⟩ := HI.out QC bqC
              obtain ⟨d0, d1, d2, d3⟩ := HV.out QC bqC
              obtain ⟨n0, n1, n2, n3, n4, n5, n6, n7, n8⟩ := cells9 hmC
              obtain ⟨i0, i1, i2, _⟩ := cells3 hQC
              clear hmC hQC
              go_upto_region 16 with fail
              clear n0 n1 n2 n3 n4 n5 n6 n7 n8 i0 i1 i2
              go_wp2_with (first
                | (go_at_call 34; refine (works_any _ (HT.out _ bqC).1 (HT.out _ bqC).2.1 (HT.out _ bqC).2.2.1).mono ?_; rintro e w9 ⟨rfl, hb9⟩))
              go_ret
              exact ⟨rfl, Below.on HBW.out (Below.on bqC hb9)⟩
            · have q := nat_beq g0
              obtain rfl : C = ⟨#[]⟩ := ba_ext (fail_err HR.out.2.2.1 g0)
              clear g0
              have h35A := read_rep A i I HS.out.1 (HT.out wc bc).1 (HT.out wc bc).2.1 (by have := HRDA.out; exact this.2) (by have := HRDA.out; exact this.1)
              go_upto_region 10 with (first
                | (go_at_call 35; refine h35A.mono ?_; rintro e rA ⟨⟨kqA, kdA, iqA, idA, rfl⟩, hbA⟩
                   obtain ⟨UA, hUA⟩ : ∃ V, rA.alloc (.cells #[.int .i64 0, .int .i64 0, .int .i64 0, .string ⟨#[]⟩, .string ⟨#[]⟩, .int .i64 0, .string ⟨#[]⟩, .slice none 0 0, .slice none 0 0] 59) = V := ⟨_, rfl⟩
                   have hzA : UA.heap.size = rA.heap.size + 1 := (by rw [← hUA]; simp)
                   obtain ⟨ZA, hZA⟩ : ∃ V, UA.alloc (.cells #[.int .i64 0, .int .i64 0, .string ⟨#[]⟩] 57) = V := ⟨_, rfl⟩
                   have uA := alloc_b hUA
                   have vA := alloc_b hZA
                   have hneA : rA.heap.size ≠ rA.heap.size + 1 := (by omega)
                   have hmzA := row_of hUA ZA vA
                   have hizA := row_of hZA ZA (Below.refl _ _)
                   rw [hzA] at hizA
                   have bzA : Below rA.heap.size rA ZA := Below.on uA vA
                   clear h35A)
                | (refine store_msg rfl (.tmp 13) (.tmp 81) rfl rA.heap.size rfl (.int .i64 3) (.int .i64 i.k) (.int .i64 i.n) (.string I) (.string ⟨#[]⟩) (.int .i64 0) (.string ⟨#[]⟩) (.slice kqA 0 kdA) (.slice iqA 0 idA) rfl (hagg kqA kdA iqA idA) ⟨_, _, _, _, _, _, _, _, _, hmzA⟩ (fun PA hPA hgPA _ => ?_)
                   have hiyA := (hgPA.block (rA.heap.size + 1) (Array.getElem?_eq_some_iff.1 hizA).1 (fun e => hneA (Option.some.inj e).symm)).trans hizA
                   have byA := below_gbz bzA (Nat.le_refl _) hgPA)
                | (refine store_id rfl (.tmp 14) (.tmp 82) rfl (rA.heap.size + 1) rfl (.int .i64 i.k) (.int .i64 i.n) (.string I) rfl rfl ⟨_, _, _, hiyA⟩ (fun QA hQA hgQA _ => ?_)
                   have hmA := (hgQA.block rA.heap.size (Array.getElem?_eq_some_iff.1 hPA).1 (fun e => hneA (Option.some.inj e))).trans hPA
                   have bxA := below_gbz byA (Nat.le_succ _) hgQA))
              have bqA := Below.on bc (Below.on hbA bxA)
              clear hmzA hizA hiyA hPA bzA byA
              clear x0 x1 x2 x3 x4 x5 d0 d1 d2 d3
              obtain ⟨x0, x1, x2, x3, x4, x5⟩ := HI.out QA bqA
              obtain ⟨d0, d1, d2, d3⟩ := HV.out QA bqA
              obtain ⟨n0, n1, n2, n3, n4, n5, n6, n7, n8⟩ := cells9 hmA
              obtain ⟨i0, i1, i2, _⟩ := cells3 hQA
              clear hmA hQA
              go_upto_region 12 with fail
              clear n0 n1 n2 n3 n4 n5 n6 n7 n8 i0 i1 i2
              go_wp2_with (first
                | (go_at_call 34; refine (works_any _ (HT.out _ bqA).1 (HT.out _ bqA).2.1 (HT.out _ bqA).2.2.1).mono ?_; rintro e w9 ⟨rfl, hb9⟩))
              go_ret
              exact ⟨rfl, Below.on HBW.out (Below.on bqA hb9)⟩
          · have qa := nat_beq ea0
            obtain rfl : A = ⟨#[]⟩ := ba_ext (res_err HR.out.1 ea0)
            clear ea0
            by_cases g0 : g = 0
            · subst g0
              have HRDC : Hid (readV C.data.toList = (⟨3, i, [], jn 0⟩, i, 0) ∧ C.size ≤ 400000) := Lib.hid ⟨read_fail HBD.out.1 HBD.out.2.1 HR.out.2.2.1, by
                have h1 := fail_size HBD.out.1 HBD.out.2.1 HBD.out.2.2.2.2.1 HBD.out.2.2.2.2.2 HR.out.2.2.1
                have h2 := HW.out
                rw [Lib.size_eq]
                omega⟩
              have HCN : Hid (¬ C.toList = [] ∧ C.toList.isEmpty = false ∧ (C.toList == []) = false ∧ ([] == C.toList) = false ∧ ¬ [] = C.toList) := Lib.hid (by
                have h1 : ¬ C.toList = [] := fun e => by
                  rw [ByteArray.toList_eq] at e
                  have h2 := fail_put HR.out.2.2.1
                  rw [e] at h2
                  exact par_nil (congrArg Prod.snd h2)
                exact ⟨h1, by cases hc : C.toList with | nil => exact absurd hc h1 | cons _ _ => rfl, beq_eq_false_iff_ne.2 h1, beq_eq_false_iff_ne.2 (fun e => h1 e.symm), fun e => h1 e.symm⟩)
              obtain ⟨t4, t5, t6, t7, t8⟩ := HCN.out
              have h35C := read_rep C i I HS.out.1 (HT.out wc bc).1 (HT.out wc bc).2.1 (by have := HRDC.out; exact this.2) (by have := HRDC.out; exact this.1)
              go_upto_region 14 with (first
                | (go_at_call 35; refine h35C.mono ?_; rintro e rC ⟨⟨kqC, kdC, iqC, idC, rfl⟩, hbC⟩
                   obtain ⟨UC, hUC⟩ : ∃ V, rC.alloc (.cells #[.int .i64 0, .int .i64 0, .int .i64 0, .string ⟨#[]⟩, .string ⟨#[]⟩, .int .i64 0, .string ⟨#[]⟩, .slice none 0 0, .slice none 0 0] 59) = V := ⟨_, rfl⟩
                   have hzC : UC.heap.size = rC.heap.size + 1 := (by rw [← hUC]; simp)
                   obtain ⟨ZC, hZC⟩ : ∃ V, UC.alloc (.cells #[.int .i64 0, .int .i64 0, .string ⟨#[]⟩] 57) = V := ⟨_, rfl⟩
                   have uC := alloc_b hUC
                   have vC := alloc_b hZC
                   have hneC : rC.heap.size ≠ rC.heap.size + 1 := (by omega)
                   have hmzC := row_of hUC ZC vC
                   have hizC := row_of hZC ZC (Below.refl _ _)
                   rw [hzC] at hizC
                   have bzC : Below rC.heap.size rC ZC := Below.on uC vC
                   clear h35C)
                | (refine store_msg rfl (.tmp 16) (.tmp 102) rfl rC.heap.size rfl (.int .i64 3) (.int .i64 i.k) (.int .i64 i.n) (.string I) (.string ⟨#[]⟩) (.int .i64 0) (.string ⟨#[]⟩) (.slice kqC 0 kdC) (.slice iqC 0 idC) rfl (hagg kqC kdC iqC idC) ⟨_, _, _, _, _, _, _, _, _, hmzC⟩ (fun PC hPC hgPC _ => ?_)
                   have hiyC := (hgPC.block (rC.heap.size + 1) (Array.getElem?_eq_some_iff.1 hizC).1 (fun e => hneC (Option.some.inj e).symm)).trans hizC
                   have byC := below_gbz bzC (Nat.le_refl _) hgPC)
                | (refine store_id rfl (.tmp 17) (.tmp 103) rfl (rC.heap.size + 1) rfl (.int .i64 i.k) (.int .i64 i.n) (.string I) rfl rfl ⟨_, _, _, hiyC⟩ (fun QC hQC hgQC _ => ?_)
                   have hmC := (hgQC.block rC.heap.size (Array.getElem?_eq_some_iff.1 hPC).1 (fun e => hneC (Option.some.inj e))).trans hPC
                   have bxC := below_gbz byC (Nat.le_succ _) hgQC))
              have bqC := Below.on bc (Below.on hbC bxC)
              clear hmzC hizC hiyC hPC bzC byC
              clear x0 x1 x2 x3 x4 x5 d0 d1 d2 d3
              obtain ⟨x0, x1, x2, x3, x4, x5⟩ := HI.out QC bqC
              obtain ⟨d0, d1, d2, d3⟩ := HV.out QC bqC
              obtain ⟨n0, n1, n2, n3, n4, n5, n6, n7, n8⟩ := cells9 hmC
              obtain ⟨i0, i1, i2, _⟩ := cells3 hQC
              clear hmC hQC
              go_upto_region 16 with fail
              clear n0 n1 n2 n3 n4 n5 n6 n7 n8 i0 i1 i2
              go_wp2_with (first
                | (go_at_call 34; refine (works_any _ (HT.out _ bqC).1 (HT.out _ bqC).2.1 (HT.out _ bqC).2.2.1).mono ?_; rintro e w9 ⟨rfl, hb9⟩))
              go_ret
              exact ⟨rfl, Below.on HBW.out (Below.on bqC hb9)⟩
            · have q := nat_beq g0
              obtain rfl : C = ⟨#[]⟩ := ba_ext (fail_err HR.out.2.2.1 g0)
              clear g0
              go_wp2_with (first
                | (go_at_call 34; refine (works_any _ (HT.out _ bc).1 (HT.out _ bc).2.1 (HT.out _ bc).2.2.1).mono ?_; rintro e w9 ⟨rfl, hb9⟩))
              go_ret
              exact ⟨rfl, Below.on HBW.out (Below.on bc hb9)⟩
  · rw [decide_eq_false hf] at hfew
    clear hf his hjs
    go_enter Tryz.func9, Tryz.ntmps9
    go_wp2_with (first
      | (go_at_call 38; refine (hfew _ (Below.refl _ _)).mono ?_; rintro e w1 ⟨rfl, hb1⟩; clear x0 x1 x2 x3 x4 x5 d0 d1 d2 d3; obtain ⟨x0, x1, x2, x3, x4, x5⟩ := HI.out w1 hb1; obtain ⟨d0, d1, d2, d3⟩ := HV.out w1 hb1)
      | (go_at_call 34; refine (works_any _ (HT.out _ hb1).1 (HT.out _ hb1).2.1 (HT.out _ hb1).2.2.1).mono ?_; rintro e w9 ⟨rfl, hb9⟩))
    go_ret
    exact ⟨rfl, Below.on HBW.out (Below.on hb1 hb9)⟩
end Go.Proofs.Rp
