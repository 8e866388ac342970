/- DocsHold's walk. -/
import Derived.Test.YtcenfckjkboabaaDoorD23
import Derived.Test.YtcenfckjkboabaaDoorD21
import Derived.Test.YtcenfckjkboabaaDoorA3
import Derived.Deep.CutBlock
import Derived.Deep.RegionHeld3
import Derived.Deep.DeepCutAuto
namespace Go.Proofs.Dc
open Go.RowKit Go.Proofs Go.Lib Go.Maps Go.Shelf

set_option maxRecDepth 100000 in
set_option maxHeartbeats 8000000 in
theorem hold_walk (w : World) (hT : Tabs w) (p : Option Addr) (n c : Nat) (hn2 : n ≤ maxLen) (hl : ∃ l : List Act, n = l.length ∧ ActsAt w p l) :
    Calls Tryd.prog 5 #[.slice p n c] w fun e w' => e = .returned (.bool true) ∧ Below w.heap.size w w' := by
  obtain ⟨l, hn, hI⟩ := hl
  have hw := works_any
  have hlg := large_any w p n c l hn hn2 hI
  cases hB : largeB l with
  | true =>
    rw [hB] at hlg
    clear hn hI hB
    go_enter Tryd.func5, Tryd.ntmps5
    go_wp2_with (first
      | (go_at_call 11; refine hlg.mono ?_; rintro e w1 ⟨rfl, hww⟩; subst w1)
      | (go_at_call 7; refine (hw _ hT).mono ?_; rintro e w2 ⟨rfl, hb2⟩))
    go_ret
    exact ⟨rfl, hb2⟩
  | false =>
  rw [hB] at hlg
  have hsm := small_of hB
  have HN := Lib.hid hn
  have HI := Lib.hid hI
  have HS := Lib.hid hsm
  have hn12 : n ≤ 12 := by have := hsm.2; omega
  have hlo := hT.lo
  clear hn hI hB hsm
  go_enter Tryd.func5, Tryd.ntmps5
  go_wp2_with (first
    | (go_at_call 11; refine hlg.mono ?_; rintro e w1 ⟨rfl, hww⟩; subst w1)
    | (go_at_call 12; refine (new_any _).mono ?_; rintro e w1 ⟨b, M, rfl, hd1, hb1, hbb, hMM⟩))
  clear hlg
  go_loopw [4] (fun v wr => ∃ (k : Nat) (L : List Doc), v = .int .i64 k ∧ k ≤ n ∧ Inv L ∧ DV wr b M L ∧ Below w.heap.size w wr) (fun v _ => n - (RowKit.intOf v).toNat)
  case atStart => exact ⟨0, [], rfl, Nat.zero_le _, Inv.nil, hd1, hb1⟩
  case round =>
    obtain ⟨k, L, rfl, hk, hInv, hd, hB⟩ := hrel
    clear hd1 hb1
    by_cases hkn : (k : Int) < (n : Int)
    · obtain ⟨x, hx⟩ : ∃ x, l[k]? = some x := ⟨_, List.getElem?_eq_getElem (by have := HN.out; omega)⟩
      have hok := HS.out.1 x (List.mem_of_getElem? hx)
      obtain ⟨a, rfl, hA0⟩ := HI.out k x hx
      have HC : Hid (∀ w', Below w.heap.size w w' → ActAt w' (a.add (k * 7)) x) := Lib.hid fun w' hb => hA0.below hb
      have HINV := Lib.hid hInv
      have HOK := Lib.hid hok
      have flo := hA0.flo
      have hlen := hInv.len
      obtain ⟨hus, hts, _, _⟩ := hok
      have hg := fun w1 (h : DV w1 b M L) => get_any w1 b M L h x.uri (by unfold maxLen; omega)
      obtain ⟨G, hG⟩ : ∃ G, getD? L x.uri.data.toList = G := ⟨_, rfl⟩
      simp only [hG] at hg
      obtain ⟨ok0, hok0⟩ : ∃ o, G.isSome = o := ⟨_, rfl⟩
      obtain ⟨D0, hD0⟩ : ∃ D, G.getD doc0 = D := ⟨_, rfl⟩
      have HG : Hid (ok0 = true → getD? L x.uri.data.toList = some D0) := Lib.hid fun e => by
        rw [hG]
        cases G with
        | none => rw [e] at hok0; cases hok0
        | some y => rw [← hD0]; rfl
      simp only [hok0, hD0] at hg
      unfold docVal at hg
      obtain ⟨U0, hU0⟩ : ∃ A : ByteArray, (⟨D0.uri.toArray⟩ : ByteArray) = A := ⟨_, rfl⟩
      obtain ⟨T0, hT0⟩ : ∃ A : ByteArray, (⟨D0.text.toArray⟩ : ByteArray) = A := ⟨_, rfl⟩
      obtain ⟨V0, hV0⟩ : ∃ V, D0.ver = V := ⟨_, rfl⟩
      simp only [hU0, hT0, hV0] at hg
      have HT0 : Hid (textB D0 = T0 ∧ D0.ver = V0) := Lib.hid ⟨hT0, hV0⟩
      have c1 := (HC.out wr hB).c1
      clear hInv hA0 hx hG hok0 hD0 hU0 hT0 hV0
      go_upto_block 2 with (first
        | (go_at_call 16; refine (hg _ hd).mono ?_; rintro e w2 ⟨rfl, hb2⟩))
      have K0 : Keep w (w2.alloc (.cells #[.string U0, .string T0, .int .i64 V0] 38)) b M w2.heap.size L U0 T0 V0 := by
        have ha : Below w2.heap.size w2 (w2.alloc (.cells #[.string U0, .string T0, .int .i64 V0] 38)) := (Below.refl _ _).alloc (Nat.le_refl _) _
        have hM2 := (hd.below hb2).lt.2
        exact ⟨(hd.below hb2).below ha, (hB.trans (hb2.mono hB.size)).trans (ha.mono (Nat.le_trans hB.size hb2.size)), World.alloc_heap_new w2 _, by omega, hMM⟩
      have hfl := fun (j : Nat) (hj : j < 40) w => filler_any j hj w
      have HOP : Hid (∀ (j : Nat) (wr : World), j ≤ 40 → Keep w wr b M w2.heap.size (fillsL j L) U0 T0 V0 → ∀ (u t : ByteArray) (v : Int), u.size ≤ 1000000 → t.size ≤ 1000000 → Calls Tryd.prog 13 #[.pointer (some ⟨b, 0, none⟩), .string u, .string t, .int .i64 v] wr fun e w' => e = .returned (.int .i64 (openE (fillsL j L) u.data.toList t.data.toList)) ∧ Keep w w' b M w2.heap.size (openL (fillsL j L) u.data.toList t.data.toList v) U0 T0 V0) := Lib.hid fun j wr hj hK u t v hu ht => by
        refine (open_any wr (hT.below hK.bel) b M _ hK.dv (by have := hK.lo; omega) u t v hu (by omega) (by have := (HINV.out.fills j).len; omega)).mono ?_
        rintro e w' ⟨h1, h2, h3⟩
        exact ⟨h1, hK.grown h3 h2⟩
      clear hg hd hB hb2
      generalize w2.alloc (.cells #[.string U0, .string T0, .int .i64 V0] 38) = W2 at *
      generalize w2.heap.size = g at *
      go_cut [7] (fun _ wx => ∃ j : Nat, j ≤ 40 ∧ Keep w wx b M g (fillsL j L) U0 T0 V0)
      case first =>
        as_aux_lemma =>
          go_wp2_with fail
          go_loopw [7] (fun v wr => ∃ j : Nat, v = .int .i64 j ∧ j ≤ 40 ∧ Keep w wr b M g (fillsL j L) U0 T0 V0) (fun v _ => 40 - (RowKit.intOf v).toNat)
          case atStart => exact ⟨0, rfl, by omega, K0⟩
          case round =>
            obtain ⟨j, rfl, hj, hK⟩ := hrel
            have c6 := (HC.out _ hK.bel).c6
            have f1 := (HC.out _ hK.bel).flo
            have f2 := (HC.out _ hK.bel).fhi
            by_cases h1 : (j : Int) < x.fill
            · by_cases h2 : (j : Int) < 40
              · have hop := fun w3 hb => HOP.out j w3 hj (hK.below hb) (fillB j) ⟨#[]⟩ 1 (by rw [fill_size]; decide) (by decide)
                go_wp2_with (first
                  | (go_at_call 17; refine (hfl j (by omega) _).mono ?_; rintro e w3 ⟨rfl, hb3⟩)
                  | (go_at_call 13; refine (hop _ hb3).mono ?_; rintro e w4 ⟨rfl, hK4⟩))
                go_roundw
                case rel => exact ⟨j + 1, by go_num, by omega, hK4⟩
                case measure => simp [RowKit.intOf]; omega
              · go_wp2_with fail
                go_meet
                exact ⟨j, hj, hK⟩
            · go_wp2_with fail
              go_meet
              exact ⟨j, hj, hK⟩
      case rest =>
      obtain ⟨j, hj40, K1⟩ := hcut
      rename_i wx
      clear K0
      have e0 := (HC.out _ K1.bel).c0
      have e1 := (HC.out _ K1.bel).c1
      have e2 := (HC.out _ K1.bel).c2
      have e3 := (HC.out _ K1.bel).c3
      have e4 := (HC.out _ K1.bel).c4
      have e5 := (HC.out _ K1.bel).c5
      have e6 := (HC.out _ K1.bel).c6
      go_upto_block 4 with (fail)
      have HTX := Lib.hid (fun w' (hb : Below w.heap.size w w') => (HC.out w' hb))
      generalize bits BinOp.and IntKind.i64 x.todo 3 = S at *
      go_cut [6] (fun v6 wy => ∃ (tb : Bool) (L2 : List Doc), v6 = .bool tb ∧ Inv L2 ∧ Keep w wy b M g L2 U0 T0 V0 ∧ (tb = true → ∃ d2, getD? L2 x.uri.data.toList = some d2 ∧ ((textB d2 = T0 ∧ d2.ver = V0) ∨ V0 < d2.ver)))
      case first =>
        as_aux_lemma =>
          by_cases z0 : S = 0
          · subst z0
            go_upto_region 17 with (fail)
            have htx := fun w1 => text_any x.todo x.uri x.text x.times x.ver x.lp x.ln x.lc x.fill w1 hts
            have hRs : (repT x.text.data.toList x.times).length ≤ 70300 := repT_size _ (by rw [← Lib.size_eq]; exact hts)
            obtain ⟨R, hR⟩ : ∃ R : ByteArray, (⟨(repT x.text.data.toList x.times).toArray⟩ : ByteArray) = R := ⟨_, rfl⟩
            have hRz : R.size ≤ 1000000 := by rw [← hR, size_arr]; omega
            simp only [hR] at htx
            have K1d := K1.below ((Below.refl wc.heap.size wc).drew)
            have B1d := K1d.bel
            have HTX2 := Lib.hid htx
            go_region_held3 (fun v => v.cell? (a.add (k * 7)) = some (.int .i64 x.todo) ∧ v.cell? ⟨(a.add (k * 7)).block, (a.add (k * 7)).off + 1, none⟩ = some (.string x.uri) ∧ v.cell? ⟨(a.add (k * 7)).block, (a.add (k * 7)).off + 2, none⟩ = some (.string x.text) ∧ v.cell? ⟨(a.add (k * 7)).block, (a.add (k * 7)).off + 3, none⟩ = some (.int .i64 x.times) ∧ v.cell? ⟨(a.add (k * 7)).block, (a.add (k * 7)).off + 4, none⟩ = some (.int .i64 x.ver) ∧ v.cell? ⟨(a.add (k * 7)).block, (a.add (k * 7)).off + 5, none⟩ = some (.slice x.lp x.ln x.lc) ∧ v.cell? ⟨(a.add (k * 7)).block, (a.add (k * 7)).off + 6, none⟩ = some (.int .u8 x.fill)) (first | exact ⟨e0, e1, e2, e3, e4, e5, e6⟩ | exact ⟨s0, s1, s2, s3, s4, s5, s6⟩ | exact ⟨t0, t1, t2, t3, t4, t5, t6⟩) (first
              | (go_at_call 18; refine (HTX2.out _).mono ?_; rintro e w5 ⟨rfl, hb5⟩; have K5 := K1d.below hb5; have TT := HTX.out w5 K5.bel; have s0 := TT.c0; have s1 := TT.c1; have s2 := TT.c2; have s3 := TT.c3; have s4 := TT.c4; have s5 := TT.c5; have s6 := TT.c6; clear TT)
              | (go_at_call 13; refine (HOP.out j w5 hj40 K5 x.uri R x.ver (by omega) hRz).mono ?_; rintro e w6 ⟨rfl, K6⟩; have TT := HTX.out w6 K6.bel; have t0 := TT.c0; have t1 := TT.c1; have t2 := TT.c2; have t3 := TT.c3; have t4 := TT.c4; have t5 := TT.c5; have t6 := TT.c6; clear TT))
            go_wp2_with fail
            go_meet
            exact ⟨ok0, _, rfl, (HINV.out.fills j).opened _ _ _, K6, fun e => ⟨D0, open_keep (fills_keep (HG.out e) j) _ _ _, .inl HT0.out⟩⟩
          · have z0f : (S == 0) = false := beq_eq_false_iff_ne.2 z0
            have hlen2 := (HINV.out.fills j).len
            by_cases z3 : S = 3
            · subst z3
              have hcl := close_any wc b M _ K1.dv x.uri (by unfold maxLen; omega)
              go_wp2_with (first
                | (go_at_call 19; refine hcl.mono ?_; rintro e w6 ⟨rfl, h6, g6⟩))
              go_meet
              exact ⟨false, _, rfl, (HINV.out.fills j).closed _, K1.grown g6 h6, fun e => by cases e⟩
            · have z3f : (S == 3) = false := beq_eq_false_iff_ne.2 z3
              go_upto_region 15 with (fail)
              have K1d := K1.below ((Below.refl wc.heap.size wc).drew)
              have hAA := HC.out _ K1d.bel
              have hch := change_any wc.drew (hT.below K1d.bel) b M _ K1d.dv (by have := K1d.lo; omega) x.uri x.ver x.lp x.ln x.lc x.l (by omega) hAA.len hAA.lsz hAA.chgs (by omega) (fun d hd => ((HINV.out.fills j).all d hd).2.2) (fun y hy => by have := HOK.out.2.2.2 y hy; omega)
              clear hAA
              have HCH := Lib.hid hch
              clear hch
              go_region_held3 (fun v => v.cell? (a.add (k * 7)) = some (.int .i64 x.todo) ∧ v.cell? ⟨(a.add (k * 7)).block, (a.add (k * 7)).off + 1, none⟩ = some (.string x.uri) ∧ v.cell? ⟨(a.add (k * 7)).block, (a.add (k * 7)).off + 2, none⟩ = some (.string x.text) ∧ v.cell? ⟨(a.add (k * 7)).block, (a.add (k * 7)).off + 3, none⟩ = some (.int .i64 x.times) ∧ v.cell? ⟨(a.add (k * 7)).block, (a.add (k * 7)).off + 4, none⟩ = some (.int .i64 x.ver) ∧ v.cell? ⟨(a.add (k * 7)).block, (a.add (k * 7)).off + 5, none⟩ = some (.slice x.lp x.ln x.lc) ∧ v.cell? ⟨(a.add (k * 7)).block, (a.add (k * 7)).off + 6, none⟩ = some (.int .u8 x.fill)) (first | exact ⟨e0, e1, e2, e3, e4, e5, e6⟩ | exact ⟨t0, t1, t2, t3, t4, t5, t6⟩) (first
                | (go_at_call 15; refine HCH.out.mono ?_; rintro e w6 ⟨rfl, h6, g6⟩; have K6 := K1d.grown g6 h6; have TT := HTX.out w6 K6.bel; have t0 := TT.c0; have t1 := TT.c1; have t2 := TT.c2; have t3 := TT.c3; have t4 := TT.c4; have t5 := TT.c5; have t6 := TT.c6; clear TT))
              go_wp2_with fail
              go_meet
              refine ⟨ok0, _, rfl, (HINV.out.fills j).changed _ _ _, K6, fun e => ?_⟩
              obtain ⟨d2, h1, h2⟩ := chg_rise (fills_keep (HG.out e) j) x.ver x.l
              refine ⟨d2, h1, ?_⟩
              rcases h2 with rfl | h2
              · exact .inl HT0.out
              · exact .inr (by rw [← HT0.out.2]; exact h2)
      case rest =>
      obtain ⟨tb, L2, rfl, hI2, K2, hd2⟩ := hcut
      clear K1 e0 e1 e2 e3 e4 e5 e6 HTX
      obtain ⟨D2, ok2, hg2, hD2⟩ : ∃ (D2 : Doc) (ok2 : Bool), (∀ w1, DV w1 b M L2 → Calls Tryd.prog 16 #[.pointer (some ⟨b, 0, none⟩), .string x.uri] w1 fun e w' => e = .returned (.tuple #[.agg #[.string ⟨D2.uri.toArray⟩, .string (textB D2), .int .i64 D2.ver], .bool ok2]) ∧ Below w1.heap.size w1 w') ∧ (tb = true → ok2 = true ∧ ((textB D2 = T0 ∧ D2.ver = V0) ∨ V0 < D2.ver)) := by
        refine ⟨(getD? L2 x.uri.data.toList).getD doc0, (getD? L2 x.uri.data.toList).isSome, fun w1 h => get_any w1 b M L2 h x.uri (by unfold maxLen; omega), fun e => ?_⟩
        obtain ⟨d2, h1, h2⟩ := hd2 e
        rw [h1]
        exact ⟨rfl, h2⟩
      have c1 := (HC.out wc K2.bel).c1
      have HD2 := Lib.hid hD2
      have HI2 := Lib.hid hI2
      clear hd2 hD2 hI2 HINV HOP
      generalize textB D2 = T2 at *
      generalize D2.ver = V2 at *
      obtain ⟨U2, hU2⟩ : ∃ U, (⟨D2.uri.toArray⟩ : ByteArray) = U := ⟨_, rfl⟩
      simp only [hU2] at hg2
      clear hU2
      go_upto_region 22 with (first
        | (go_at_call 16; refine (hg2 _ K2.dv).mono ?_; rintro e w3 ⟨rfl, hb3⟩))
      have K3 := K2.below hb3
      have K4 := K3.below ((Below.refl w3.heap.size w3).alloc (Nat.le_refl _) (.cells #[.string U2, .string T2, .int .i64 V2] 38))
      have hbx : (w3.alloc (.cells #[.string U2, .string T2, .int .i64 V2] 38)).heap[w3.heap.size]? = some (.cells #[.string U2, .string T2, .int .i64 V2] 38 (0, 0)) := World.alloc_heap_new w3 _
      have hall := all_any _ b M L2 K4.dv HI2.out.ord (by have := HI2.out.len; omega)
      clear hg2 hb3 K2 K3 c1
      generalize w3.alloc (.cells #[.string U2, .string T2, .int .i64 V2] 38) = W4 at *
      generalize w3.heap.size = g2 at *
      obtain ⟨r0, r1, r2⟩ := K4.cells
      have r4 : W4.cell? ⟨g2, 1, none⟩ = some (.string T2) := by simp [World.cell?, hbx]
      have r5 : W4.cell? ⟨g2, 2, none⟩ = some (.int .i64 V2) := by simp [World.cell?, hbx]
      clear hbx
      go_cut [140] (fun v wz => v = .bool false ∧ W4 = wz)
      case first =>
        as_aux_lemma =>
          cases tb with
          | false =>
            go_wp2_with fail
            go_meet
            exact ⟨rfl, rfl⟩
          | true =>
            obtain ⟨rfl, hv⟩ := HD2.out rfl
            rcases hv with ⟨rfl, rfl⟩ | hv
            · have hTT : (T2.toList == T2.toList) = true := by simp
              go_wp2_with fail
              go_meet
              exact ⟨rfl, rfl⟩
            · have g1 : ¬ V2 < V0 := by omega
              have g3 : (V2 == V0) = false := beq_eq_false_iff_ne.2 (by omega)
              cases hq : (T2.toList == T0.toList) with
              | true =>
                go_wp2_with fail
                go_meet
                exact ⟨rfl, rfl⟩
              | false =>
                go_wp2_with fail
                go_meet
                exact ⟨rfl, rfl⟩
      case rest =>
      obtain ⟨rfl, rfl⟩ := hcut
      clear r0 r1 r2 r4 r5 HD2
      have BW := K4.bel
      have dv4 := K4.dv
      clear K4
      go_wp2_with (first
        | (go_at_call 20; refine hall.mono ?_; rintro e w5 ⟨v5, rfl, hrow, hb5⟩; obtain ⟨pp, cap, rfl, hcap, _, hdocs⟩ := row_docs hrow; have HDOCS := Lib.hid hdocs; have B5 := BW.trans (hb5.mono BW.size); have dv5 := dv4.below hb5; clear hdocs hrow hb5 dv4))
      clear hall
      go_loopw [11] (fun v wr => ∃ q : Nat, v = .int .i64 q ∧ q ≤ L2.length ∧ Below w5.heap.size w5 wr) (fun v _ => L2.length - (RowKit.intOf v).toNat)
      case atStart => exact ⟨0, rfl, Nat.zero_le _, Below.refl _ _⟩
      case round =>
        obtain ⟨q, rfl, hq, hb6⟩ := hrel
        have B6 := B5.trans (hb6.mono B5.size)
        have hl32 := HI2.out.len
        by_cases hql : (q : Int) < (L2.length : Int)
        · obtain ⟨d, hd⟩ : ∃ d, L2[q]? = some d := ⟨_, List.getElem?_eq_getElem (by omega)⟩
          obtain ⟨a2, rfl, hda⟩ := HDOCS.out q d hd
          obtain ⟨hn1, hv1, ht1⟩ := HI2.out.all d (List.mem_of_getElem? hd)
          have hus2 := dir_size hn1
          have hdir := fun w6 hT6 => dir_any ⟨d.uri.toArray⟩ w6 (by rw [size_arr]; omega) (Tabs.mx hT6) (fun w' hb => (Tabs.below hT6 hb).sp)
          rw [show (⟨d.uri.toArray⟩ : ByteArray).data.toList = d.uri from rfl] at hdir
          obtain ⟨dn, hdn⟩ := dirVal_ok (dirV d.uri)
          rw [hdn, hn1] at hdir
          have hval := fun w7 hU => valid_any ⟨d.text.toArray⟩ w7 (by rw [size_arr]; omega) hU
          rw [show (⟨d.text.toArray⟩ : ByteArray).data.toList = d.text from rfl, hv1] at hval
          have hts2 : (⟨d.text.toArray⟩ : ByteArray).size ≤ 65536 := by rw [size_arr]; exact ht1
          have hda6 := hda.below hb6
          have HD := Lib.hid hd
          obtain ⟨U, hU⟩ : ∃ U : ByteArray, (⟨d.uri.toArray⟩ : ByteArray) = U := ⟨_, rfl⟩
          obtain ⟨X, hX⟩ : ∃ U : ByteArray, (⟨d.text.toArray⟩ : ByteArray) = U := ⟨_, rfl⟩
          simp only [hU] at hdir
          simp only [hX] at hval hts2
          have hz0 : wr.cell? (a2.add (q * 3)) = some (.string U) := by rw [← hU]; exact hda6.c0
          have HUX := Lib.hid (And.intro hU hX)
          have hxN : decide (65536 < X.size) = false := decide_eq_false (by omega)
          have hxZ : decide ((65536 : Int) < (X.size : Int)) = false := decide_eq_false (by omega)
          clear hU hX
          clear hd hda hdn hn1 hv1 ht1
          go_upto_region 29 with (first
            | (go_at_call 8; refine (hdir _ (hT.below B6)).mono ?_; rintro e w6 ⟨rfl, hb⟩))
          have B6b := B6.trans (hb.mono B6.size)
          have B6d := B6b.drew
          have hdoc0 := hda6.below hb
          have hdoc := hdoc0.below ((Below.refl w6.heap.size w6).drew)
          have B56 := hb6.trans (hb.mono hb6.size)
          have f0 : w6.drew.cell? (a2.add (q * 3)) = some (.string U) := by rw [← HUX.out.1]; exact hdoc.c0
          have f1 : w6.drew.cell? ⟨(a2.add (q * 3)).block, (a2.add (q * 3)).off + 1, none⟩ = some (.string X) := by rw [← HUX.out.2]; exact hdoc.c1
          clear hdir hz0 hda6 B6
          by_cases hq0 : q = 0
          · as_aux_lemma =>
              have hq0f : ¬ ((0 : Int) < (q : Int)) := by omega
              have hq0N : decide (0 < q) = false := decide_eq_false (by omega)
              have hq0Z : decide ((0 : Int) < (q : Int)) = false := decide_eq_false hq0f
              clear hq0
              refine wp_region_held_drew (S := fun v => v.cell? (a2.add (q * 3)) = some (.string U) ∧ v.cell? ⟨(a2.add (q * 3)).block, (a2.add (q * 3)).off + 1, none⟩ = some (.string X)) (by kernel_rfl) ⟨f0, f1⟩ (fun hHeld => ?_)
              refine wpAnyH_take (i := 0) (oi := { dst := some 158, op := Op.move (Operand.tmp 13), type := 4, pos := "outright.go:126", after := #[], guard := none }) (v := ?_) rfl (by kernel_rfl) (by kernel_rfl) (by kernel_rfl) (fun _ _ _ h => h) (Or.inl ⟨by rfl, ?_⟩) (by assumption) ?_
              rotate_left
              · intro w hS; obtain ⟨hS0, hS1⟩ := hS; go_simp; with_reducible rfl
              try simp only [Act.put, List.setIfInBounds_toArray, List.set_cons_zero, List.set_cons_succ]
              refine wpAnyH_take (i := 1) (oi := { dst := some 159, op := Op.unOp UnOp.not 4 (Operand.tmp 158), type := 4, pos := "outright.go:126", after := #[{ on := 0, ground := Ground.data }], guard := none }) (v := ?_) rfl (by kernel_rfl) (by kernel_rfl) (by kernel_rfl) (fun _ _ _ h => h) (Or.inl ⟨by rfl, ?_⟩) (by assumption) ?_
              rotate_left
              · intro w hS; obtain ⟨hS0, hS1⟩ := hS; go_simp; with_reducible rfl
              try simp only [Act.put, List.setIfInBounds_toArray, List.set_cons_zero, List.set_cons_succ]
              refine wpAnyH_take (i := 2) (oi := { dst := some 160, op := Op.move (Operand.tmp 159), type := 4, pos := "outright.go:126", after := #[{ on := 1, ground := Ground.data }], guard := none }) (v := ?_) rfl (by kernel_rfl) (by kernel_rfl) (by kernel_rfl) (fun _ _ _ h => h) (Or.inl ⟨by rfl, ?_⟩) (by assumption) ?_
              rotate_left
              · intro w hS; obtain ⟨hS0, hS1⟩ := hS; go_simp; with_reducible rfl
              try simp only [Act.put, List.setIfInBounds_toArray, List.set_cons_zero, List.set_cons_succ]
              refine wpAnyH_take (i := 3) (oi := { dst := some 161, op := Op.move (Operand.tmp 10), type := 45, pos := "outright.go:126", after := #[{ on := 2, ground := Ground.guard }], guard := some (2, false) }) (v := ?_) rfl (by kernel_rfl) (by kernel_rfl) (by kernel_rfl) (fun _ _ _ h => h) (Or.inl ⟨by rfl, ?_⟩) (by assumption) ?_
              rotate_left
              · intro w hS; obtain ⟨hS0, hS1⟩ := hS; go_simp; with_reducible rfl
              try simp only [Act.put, List.setIfInBounds_toArray, List.set_cons_zero, List.set_cons_succ]
              refine wpAnyH_take (i := 4) (oi := { dst := some 162, op := Op.move (Operand.tmp 11), type := 3, pos := "outright.go:126", after := #[{ on := 2, ground := Ground.guard }], guard := some (2, false) }) (v := ?_) rfl (by kernel_rfl) (by kernel_rfl) (by kernel_rfl) (fun _ _ _ h => h) (Or.inl ⟨by rfl, ?_⟩) (by assumption) ?_
              rotate_left
              · intro w hS; obtain ⟨hS0, hS1⟩ := hS; go_simp; with_reducible rfl
              try simp only [Act.put, List.setIfInBounds_toArray, List.set_cons_zero, List.set_cons_succ]
              refine wpAnyH_take (i := 5) (oi := { dst := some 163, op := Op.indexAddr 45 (Operand.tmp 161) (Operand.tmp 162), type := 0, pos := "outright.go:126", after := #[{ on := 3, ground := Ground.data }, { on := 4, ground := Ground.data }, { on := 2, ground := Ground.guard }], guard := some (2, false) }) (v := ?_) rfl (by kernel_rfl) (by kernel_rfl) (by kernel_rfl) (fun _ _ _ h => h) (Or.inl ⟨by rfl, ?_⟩) (by assumption) ?_
              rotate_left
              · intro w hS; obtain ⟨hS0, hS1⟩ := hS; go_simp; with_reducible rfl
              try simp only [Act.put, List.setIfInBounds_toArray, List.set_cons_zero, List.set_cons_succ]
              refine wpAnyH_take (i := 6) (oi := { dst := some 164, op := Op.fieldAddr 38 (Operand.tmp 163) 1, type := 0, pos := "outright.go:126", after := #[{ on := 5, ground := Ground.data }, { on := 2, ground := Ground.guard }], guard := some (2, false) }) (v := ?_) rfl (by kernel_rfl) (by kernel_rfl) (by kernel_rfl) (fun _ _ _ h => h) (Or.inl ⟨by rfl, ?_⟩) (by assumption) ?_
              rotate_left
              · intro w hS; obtain ⟨hS0, hS1⟩ := hS; go_simp; with_reducible rfl
              try simp only [Act.put, List.setIfInBounds_toArray, List.set_cons_zero, List.set_cons_succ]
              refine wpAnyH_take (i := 7) (oi := { dst := some 165, op := Op.load 9 (Operand.tmp 164), type := 9, pos := "outright.go:126", after := #[{ on := 6, ground := Ground.data }, { on := 2, ground := Ground.guard }], guard := some (2, false) }) (v := ?_) rfl (by kernel_rfl) (by kernel_rfl) (by kernel_rfl) (fun _ _ _ h => h) (Or.inl ⟨by rfl, ?_⟩) (by assumption) ?_
              rotate_left
              · intro w hS; obtain ⟨hS0, hS1⟩ := hS; go_simp; with_reducible rfl
              try simp only [Act.put, List.setIfInBounds_toArray, List.set_cons_zero, List.set_cons_succ]
              refine wpAnyH_ready (rs := [8]) (by kernel_rfl) (by simp) (AllReadyH.cons (o := { dst := some 166, op := Op.call { callee := Callee.value (Operand.func 10), args := #[Operand.tmp 165], argTypes := #[9] }, type := 4, pos := "outright.go:126", after := #[{ on := 7, ground := Ground.data }, { on := 2, ground := Ground.chain }, { on := 2, ground := Ground.guard }], guard := some (2, false) }) rfl (fun K hK => ?_) AllReadyH.nil)
              rw [if_pos (by rfl)]
              go_simp
              (refine (hval _ (hT.below B6d).u8).mono ?_; rintro e w7 ⟨rfl, hb7⟩; have B7 := B6d.trans (hb7.mono B6d.size); have A7 := hdoc0.below ((Below.refl w6.heap.size w6).drew.trans hb7))
              refine hK.out _ _ ⟨by rw [← HUX.out.1]; exact A7.c0, by rw [← HUX.out.2]; exact A7.c1⟩ (fun hS2 => ?_)
              clear hK K
              try simp only [Act.put, List.setIfInBounds_toArray, List.set_cons_zero, List.set_cons_succ]
              refine wpAnyH_take (i := 9) (oi := { dst := some 167, op := Op.unOp UnOp.not 4 (Operand.tmp 166), type := 4, pos := "outright.go:126", after := #[{ on := 8, ground := Ground.data }, { on := 2, ground := Ground.guard }], guard := some (2, false) }) (v := ?_) rfl (by kernel_rfl) (by kernel_rfl) (by kernel_rfl) (fun _ _ _ h => h) (Or.inl ⟨by rfl, ?_⟩) (by assumption) ?_
              rotate_left
              · intro w hS; obtain ⟨hS0, hS1⟩ := hS; go_simp; with_reducible rfl
              try simp only [Act.put, List.setIfInBounds_toArray, List.set_cons_zero, List.set_cons_succ]
              refine wpAnyH_take (i := 10) (oi := { dst := some 168, op := Op.pick (Operand.tmp 160) (Operand.const (Value.bool true)) (Operand.tmp 167), type := 4, pos := "outright.go:126", after := #[{ on := 2, ground := Ground.data }, { on := 9, ground := Ground.data }], guard := none }) (v := ?_) rfl (by kernel_rfl) (by kernel_rfl) (by kernel_rfl) (fun _ _ _ h => h) (Or.inl ⟨by rfl, ?_⟩) (by assumption) ?_
              rotate_left
              · intro w hS; obtain ⟨hS0, hS1⟩ := hS; go_simp; with_reducible rfl
              try simp only [Act.put, List.setIfInBounds_toArray, List.set_cons_zero, List.set_cons_succ]
              refine wpAnyH_take (i := 11) (oi := { dst := some 169, op := Op.move (Operand.tmp 168), type := 4, pos := "outright.go:126", after := #[{ on := 10, ground := Ground.data }, { on := 8, ground := Ground.chain }], guard := none }) (v := ?_) rfl (by kernel_rfl) (by kernel_rfl) (by kernel_rfl) (fun _ _ _ h => h) (Or.inl ⟨by rfl, ?_⟩) (by assumption) ?_
              rotate_left
              · intro w hS; obtain ⟨hS0, hS1⟩ := hS; go_simp; with_reducible rfl
              try simp only [Act.put, List.setIfInBounds_toArray, List.set_cons_zero, List.set_cons_succ]
              refine wpAnyH_take (i := 12) (oi := { dst := some 170, op := Op.move (Operand.tmp 10), type := 45, pos := "outright.go:126", after := #[{ on := 11, ground := Ground.guard }], guard := some (11, false) }) (v := ?_) rfl (by kernel_rfl) (by kernel_rfl) (by kernel_rfl) (fun _ _ _ h => h) (Or.inl ⟨by rfl, ?_⟩) (by assumption) ?_
              rotate_left
              · intro w hS; obtain ⟨hS0, hS1⟩ := hS; go_simp; with_reducible rfl
              try simp only [Act.put, List.setIfInBounds_toArray, List.set_cons_zero, List.set_cons_succ]
              refine wpAnyH_take (i := 13) (oi := { dst := some 171, op := Op.move (Operand.tmp 11), type := 3, pos := "outright.go:126", after := #[{ on := 11, ground := Ground.guard }], guard := some (11, false) }) (v := ?_) rfl (by kernel_rfl) (by kernel_rfl) (by kernel_rfl) (fun _ _ _ h => h) (Or.inl ⟨by rfl, ?_⟩) (by assumption) ?_
              rotate_left
              · intro w hS; obtain ⟨hS0, hS1⟩ := hS; go_simp; with_reducible rfl
              try simp only [Act.put, List.setIfInBounds_toArray, List.set_cons_zero, List.set_cons_succ]
              refine wpAnyH_take (i := 14) (oi := { dst := some 172, op := Op.indexAddr 45 (Operand.tmp 170) (Operand.tmp 171), type := 0, pos := "outright.go:126", after := #[{ on := 12, ground := Ground.data }, { on := 13, ground := Ground.data }, { on := 11, ground := Ground.guard }], guard := some (11, false) }) (v := ?_) rfl (by kernel_rfl) (by kernel_rfl) (by kernel_rfl) (fun _ _ _ h => h) (Or.inl ⟨by rfl, ?_⟩) (by assumption) ?_
              rotate_left
              · intro w hS; obtain ⟨hS0, hS1⟩ := hS; go_simp; with_reducible rfl
              try simp only [Act.put, List.setIfInBounds_toArray, List.set_cons_zero, List.set_cons_succ]
              refine wpAnyH_take (i := 15) (oi := { dst := some 173, op := Op.fieldAddr 38 (Operand.tmp 172) 1, type := 0, pos := "outright.go:126", after := #[{ on := 14, ground := Ground.data }, { on := 11, ground := Ground.guard }], guard := some (11, false) }) (v := ?_) rfl (by kernel_rfl) (by kernel_rfl) (by kernel_rfl) (fun _ _ _ h => h) (Or.inl ⟨by rfl, ?_⟩) (by assumption) ?_
              rotate_left
              · intro w hS; obtain ⟨hS0, hS1⟩ := hS; go_simp; with_reducible rfl
              try simp only [Act.put, List.setIfInBounds_toArray, List.set_cons_zero, List.set_cons_succ]
              refine wpAnyH_take (i := 16) (oi := { dst := some 174, op := Op.load 9 (Operand.tmp 173), type := 9, pos := "outright.go:126", after := #[{ on := 15, ground := Ground.data }, { on := 11, ground := Ground.guard }], guard := some (11, false) }) (v := ?_) rfl (by kernel_rfl) (by kernel_rfl) (by kernel_rfl) (fun _ _ _ h => h) (Or.inl ⟨by rfl, ?_⟩) (by assumption) ?_
              rotate_left
              · intro w hS; obtain ⟨hS0, hS1⟩ := hS; go_simp; with_reducible rfl
              try simp only [Act.put, List.setIfInBounds_toArray, List.set_cons_zero, List.set_cons_succ]
              refine wpAnyH_take (i := 17) (oi := { dst := some 175, op := Op.call { callee := Callee.builtin Builtin.len, args := #[Operand.tmp 174], argTypes := #[9] }, type := 3, pos := "outright.go:126", after := #[{ on := 16, ground := Ground.data }, { on := 11, ground := Ground.guard }], guard := some (11, false) }) (v := ?_) rfl (by kernel_rfl) (by kernel_rfl) (by kernel_rfl) (fun _ _ _ h => h) (Or.inl ⟨by rfl, ?_⟩) (by assumption) ?_
              rotate_left
              · intro w hS; obtain ⟨hS0, hS1⟩ := hS; go_simp; with_reducible rfl
              try simp only [Act.put, List.setIfInBounds_toArray, List.set_cons_zero, List.set_cons_succ]
              refine wpAnyH_take (i := 18) (oi := { dst := some 176, op := Op.binOp BinOp.gtr 3 (Operand.tmp 175) (Operand.const (Value.int IntKind.i64 65536)) 3, type := 4, pos := "outright.go:126", after := #[{ on := 17, ground := Ground.data }, { on := 11, ground := Ground.guard }], guard := some (11, false) }) (v := ?_) rfl (by kernel_rfl) (by kernel_rfl) (by kernel_rfl) (fun _ _ _ h => h) (Or.inl ⟨by rfl, ?_⟩) (by assumption) ?_
              rotate_left
              · intro w hS; obtain ⟨hS0, hS1⟩ := hS; go_simp; with_reducible rfl
              try simp only [Act.put, List.setIfInBounds_toArray, List.set_cons_zero, List.set_cons_succ]
              refine wpAnyH_take (i := 19) (oi := { dst := some 177, op := Op.pick (Operand.tmp 169) (Operand.const (Value.bool true)) (Operand.tmp 176), type := 4, pos := "outright.go:126", after := #[{ on := 11, ground := Ground.data }, { on := 18, ground := Ground.data }], guard := none }) (v := ?_) rfl (by kernel_rfl) (by kernel_rfl) (by kernel_rfl) (fun _ _ _ h => h) (Or.inl ⟨by rfl, ?_⟩) (by assumption) ?_
              rotate_left
              · intro w hS; obtain ⟨hS0, hS1⟩ := hS; go_simp; with_reducible rfl
              try simp only [Act.put, List.setIfInBounds_toArray, List.set_cons_zero, List.set_cons_succ]
              refine wpAnyH_take (i := 20) (oi := { dst := some 178, op := Op.move (Operand.tmp 177), type := 4, pos := "outright.go:126", after := #[{ on := 19, ground := Ground.data }, { on := 11, ground := Ground.chain }], guard := none }) (v := ?_) rfl (by kernel_rfl) (by kernel_rfl) (by kernel_rfl) (fun _ _ _ h => h) (Or.inl ⟨by rfl, ?_⟩) (by assumption) ?_
              rotate_left
              · intro w hS; obtain ⟨hS0, hS1⟩ := hS; go_simp; with_reducible rfl
              try simp only [Act.put, List.setIfInBounds_toArray, List.set_cons_zero, List.set_cons_succ]
              refine wpAnyH_take (i := 21) (oi := { dst := some 179, op := Op.move (Operand.tmp 11), type := 3, pos := "outright.go:126", after := #[{ on := 20, ground := Ground.guard }], guard := some (20, false) }) (v := ?_) rfl (by kernel_rfl) (by kernel_rfl) (by kernel_rfl) (fun _ _ _ h => h) (Or.inl ⟨by rfl, ?_⟩) (by assumption) ?_
              rotate_left
              · intro w hS; obtain ⟨hS0, hS1⟩ := hS; go_simp; with_reducible rfl
              try simp only [Act.put, List.setIfInBounds_toArray, List.set_cons_zero, List.set_cons_succ]
              refine wpAnyH_take (i := 22) (oi := { dst := some 180, op := Op.binOp BinOp.gtr 3 (Operand.tmp 179) (Operand.const (Value.int IntKind.i64 0)) 3, type := 4, pos := "outright.go:126", after := #[{ on := 21, ground := Ground.data }, { on := 20, ground := Ground.guard }], guard := some (20, false) }) (v := ?_) rfl (by kernel_rfl) (by kernel_rfl) (by kernel_rfl) (fun _ _ _ h => h) (Or.inl ⟨by rfl, ?_⟩) (by assumption) ?_
              rotate_left
              · intro w hS; obtain ⟨hS0, hS1⟩ := hS; go_simp; with_reducible rfl
              try simp only [Act.put, List.setIfInBounds_toArray, List.set_cons_zero, List.set_cons_succ]
              refine wpAnyH_take (i := 23) (oi := { dst := some 181, op := Op.move (Operand.tmp 180), type := 4, pos := "outright.go:126", after := #[{ on := 22, ground := Ground.data }, { on := 20, ground := Ground.chain }, { on := 20, ground := Ground.guard }], guard := some (20, false) }) (v := ?_) rfl (by kernel_rfl) (by kernel_rfl) (by kernel_rfl) (fun _ _ _ h => h) (Or.inl ⟨by rfl, ?_⟩) (by assumption) ?_
              rotate_left
              · intro w hS; obtain ⟨hS0, hS1⟩ := hS; go_simp; with_reducible rfl
              try simp only [Act.put, List.setIfInBounds_toArray, List.set_cons_zero, List.set_cons_succ]
              refine wpAnyH_take (i := 24) (oi := { dst := some 182, op := Op.move (Operand.tmp 10), type := 45, pos := "outright.go:126", after := #[{ on := 23, ground := Ground.guard }], guard := some (23, true) }) (v := undef) rfl (by kernel_rfl) (by kernel_rfl) (by kernel_rfl) (fun _ _ _ h => h) (Or.inr ⟨by rfl, rfl⟩) (by assumption) ?_
              try simp only [Act.put, List.setIfInBounds_toArray, List.set_cons_zero, List.set_cons_succ]
              refine wpAnyH_take (i := 25) (oi := { dst := some 183, op := Op.move (Operand.tmp 11), type := 3, pos := "outright.go:126", after := #[{ on := 23, ground := Ground.guard }], guard := some (23, true) }) (v := undef) rfl (by kernel_rfl) (by kernel_rfl) (by kernel_rfl) (fun _ _ _ h => h) (Or.inr ⟨by rfl, rfl⟩) (by assumption) ?_
              try simp only [Act.put, List.setIfInBounds_toArray, List.set_cons_zero, List.set_cons_succ]
              refine wpAnyH_take (i := 26) (oi := { dst := some 184, op := Op.binOp BinOp.sub 3 (Operand.tmp 183) (Operand.const (Value.int IntKind.i64 1)) 3, type := 3, pos := "outright.go:126", after := #[{ on := 25, ground := Ground.data }, { on := 23, ground := Ground.guard }], guard := some (23, true) }) (v := undef) rfl (by kernel_rfl) (by kernel_rfl) (by kernel_rfl) (fun _ _ _ h => h) (Or.inr ⟨by rfl, rfl⟩) (by assumption) ?_
              try simp only [Act.put, List.setIfInBounds_toArray, List.set_cons_zero, List.set_cons_succ]
              refine wpAnyH_take (i := 27) (oi := { dst := some 185, op := Op.indexAddr 45 (Operand.tmp 182) (Operand.tmp 184), type := 0, pos := "outright.go:126", after := #[{ on := 24, ground := Ground.data }, { on := 26, ground := Ground.data }, { on := 23, ground := Ground.guard }], guard := some (23, true) }) (v := undef) rfl (by kernel_rfl) (by kernel_rfl) (by kernel_rfl) (fun _ _ _ h => h) (Or.inr ⟨by rfl, rfl⟩) (by assumption) ?_
              try simp only [Act.put, List.setIfInBounds_toArray, List.set_cons_zero, List.set_cons_succ]
              refine wpAnyH_take (i := 28) (oi := { dst := some 186, op := Op.fieldAddr 38 (Operand.tmp 185) 0, type := 0, pos := "outright.go:126", after := #[{ on := 27, ground := Ground.data }, { on := 23, ground := Ground.guard }], guard := some (23, true) }) (v := undef) rfl (by kernel_rfl) (by kernel_rfl) (by kernel_rfl) (fun _ _ _ h => h) (Or.inr ⟨by rfl, rfl⟩) (by assumption) ?_
              try simp only [Act.put, List.setIfInBounds_toArray, List.set_cons_zero, List.set_cons_succ]
              refine wpAnyH_take (i := 29) (oi := { dst := some 187, op := Op.load 9 (Operand.tmp 186), type := 9, pos := "outright.go:126", after := #[{ on := 28, ground := Ground.data }, { on := 23, ground := Ground.guard }], guard := some (23, true) }) (v := undef) rfl (by kernel_rfl) (by kernel_rfl) (by kernel_rfl) (fun _ _ _ h => h) (Or.inr ⟨by rfl, rfl⟩) (by assumption) ?_
              try simp only [Act.put, List.setIfInBounds_toArray, List.set_cons_zero, List.set_cons_succ]
              refine wpAnyH_take (i := 30) (oi := { dst := some 188, op := Op.move (Operand.tmp 10), type := 45, pos := "outright.go:126", after := #[{ on := 23, ground := Ground.guard }], guard := some (23, true) }) (v := undef) rfl (by kernel_rfl) (by kernel_rfl) (by kernel_rfl) (fun _ _ _ h => h) (Or.inr ⟨by rfl, rfl⟩) (by assumption) ?_
              try simp only [Act.put, List.setIfInBounds_toArray, List.set_cons_zero, List.set_cons_succ]
              refine wpAnyH_take (i := 31) (oi := { dst := some 189, op := Op.move (Operand.tmp 11), type := 3, pos := "outright.go:126", after := #[{ on := 23, ground := Ground.guard }], guard := some (23, true) }) (v := undef) rfl (by kernel_rfl) (by kernel_rfl) (by kernel_rfl) (fun _ _ _ h => h) (Or.inr ⟨by rfl, rfl⟩) (by assumption) ?_
              try simp only [Act.put, List.setIfInBounds_toArray, List.set_cons_zero, List.set_cons_succ]
              refine wpAnyH_take (i := 32) (oi := { dst := some 190, op := Op.indexAddr 45 (Operand.tmp 188) (Operand.tmp 189), type := 0, pos := "outright.go:126", after := #[{ on := 30, ground := Ground.data }, { on := 31, ground := Ground.data }, { on := 23, ground := Ground.guard }], guard := some (23, true) }) (v := undef) rfl (by kernel_rfl) (by kernel_rfl) (by kernel_rfl) (fun _ _ _ h => h) (Or.inr ⟨by rfl, rfl⟩) (by assumption) ?_
              try simp only [Act.put, List.setIfInBounds_toArray, List.set_cons_zero, List.set_cons_succ]
              refine wpAnyH_take (i := 33) (oi := { dst := some 191, op := Op.fieldAddr 38 (Operand.tmp 190) 0, type := 0, pos := "outright.go:126", after := #[{ on := 32, ground := Ground.data }, { on := 23, ground := Ground.guard }], guard := some (23, true) }) (v := undef) rfl (by kernel_rfl) (by kernel_rfl) (by kernel_rfl) (fun _ _ _ h => h) (Or.inr ⟨by rfl, rfl⟩) (by assumption) ?_
              try simp only [Act.put, List.setIfInBounds_toArray, List.set_cons_zero, List.set_cons_succ]
              refine wpAnyH_take (i := 34) (oi := { dst := some 192, op := Op.load 9 (Operand.tmp 191), type := 9, pos := "outright.go:126", after := #[{ on := 33, ground := Ground.data }, { on := 23, ground := Ground.guard }], guard := some (23, true) }) (v := undef) rfl (by kernel_rfl) (by kernel_rfl) (by kernel_rfl) (fun _ _ _ h => h) (Or.inr ⟨by rfl, rfl⟩) (by assumption) ?_
              try simp only [Act.put, List.setIfInBounds_toArray, List.set_cons_zero, List.set_cons_succ]
              refine wpAnyH_take (i := 35) (oi := { dst := some 193, op := Op.binOp BinOp.geq 9 (Operand.tmp 187) (Operand.tmp 192) 9, type := 4, pos := "outright.go:126", after := #[{ on := 29, ground := Ground.data }, { on := 34, ground := Ground.data }, { on := 23, ground := Ground.guard }], guard := some (23, true) }) (v := undef) rfl (by kernel_rfl) (by kernel_rfl) (by kernel_rfl) (fun _ _ _ h => h) (Or.inr ⟨by rfl, rfl⟩) (by assumption) ?_
              try simp only [Act.put, List.setIfInBounds_toArray, List.set_cons_zero, List.set_cons_succ]
              refine wpAnyH_take (i := 36) (oi := { dst := some 194, op := Op.pick (Operand.tmp 181) (Operand.tmp 193) (Operand.const (Value.bool false)), type := 4, pos := "outright.go:126", after := #[{ on := 23, ground := Ground.data }, { on := 35, ground := Ground.data }, { on := 20, ground := Ground.guard }], guard := some (20, false) }) (v := ?_) rfl (by kernel_rfl) (by kernel_rfl) (by kernel_rfl) (fun _ _ _ h => h) (Or.inl ⟨by rfl, ?_⟩) (by assumption) ?_
              rotate_left
              · intro w hS; obtain ⟨hS0, hS1⟩ := hS; go_simp; with_reducible rfl
              try simp only [Act.put, List.setIfInBounds_toArray, List.set_cons_zero, List.set_cons_succ]
              refine wpAnyH_take (i := 37) (oi := { dst := some 195, op := Op.pick (Operand.tmp 178) (Operand.const (Value.bool true)) (Operand.tmp 194), type := 4, pos := "outright.go:126", after := #[{ on := 20, ground := Ground.data }, { on := 36, ground := Ground.data }], guard := none }) (v := ?_) rfl (by kernel_rfl) (by kernel_rfl) (by kernel_rfl) (fun _ _ _ h => h) (Or.inl ⟨by rfl, ?_⟩) (by assumption) ?_
              rotate_left
              · intro w hS; obtain ⟨hS0, hS1⟩ := hS; go_simp; with_reducible rfl
              try simp only [Act.put, List.setIfInBounds_toArray, List.set_cons_zero, List.set_cons_succ]
              refine wpAnyH_done (by kernel_rfl) ?_ _
              have B7b : Below w6.heap.size w6 w7 := (Below.refl w6.heap.size w6).drew.trans hb7
              generalize w7 = W7 at *
              go_wp2_with fail
              go_roundw
              case rel => exact ⟨q + 1, by go_num, by omega, B56.trans (B7b.mono B56.size)⟩
              case measure => simp [RowKit.intOf]; omega
          · as_aux_lemma =>
              have hq0f : (0 : Int) < (q : Int) := by omega
              have hq0N : decide (0 < q) = true := decide_eq_true (by omega)
              have hq0Z : decide ((0 : Int) < (q : Int)) = true := decide_eq_true hq0f
              obtain ⟨q0, hqq⟩ : ∃ q0 : Nat, (q : Int) - 1 = q0 := ⟨q - 1, by omega⟩
              obtain ⟨d0, hd0⟩ : ∃ d, L2[q0]? = some d := ⟨_, List.getElem?_eq_getElem (by omega)⟩
              obtain ⟨a3, ha3, hda0⟩ := HDOCS.out q0 d0 hd0
              obtain rfl := Option.some.inj ha3
              have hdc00 := hda0.below B56
              have hdc0 := hdc00.below ((Below.refl w6.heap.size w6).drew)
              have hbef : Op.bytesLess (⟨d0.uri.toArray⟩ : ByteArray).toList U.toList = true := by
                rw [← HUX.out.1, less_before, ByteArray.toList_eq, ByteArray.toList_eq]
                have hp := List.pairwise_iff_getElem.1 HI2.out.ord
                obtain ⟨z1, z2⟩ := List.getElem?_eq_some_iff.1 hd0
                obtain ⟨z3, z4⟩ := List.getElem?_eq_some_iff.1 HD.out
                have := hp q0 q z1 z3 (by omega)
                rw [z2, z4] at this
                exact this
              have f3 : w6.drew.cell? (a2.add (q0 * 3)) = some (.string ⟨d0.uri.toArray⟩) := hdc0.c0
              obtain ⟨U3, hU3⟩ : ∃ U : ByteArray, (⟨d0.uri.toArray⟩ : ByteArray) = U := ⟨_, rfl⟩
              have H3 := Lib.hid hU3
              rw [hU3] at f3 hbef
              have hgb : Op.bytesLess U.toList U3.toList = false := by
                rw [less_before] at hbef ⊢
                exact bb_asymm hbef
              have hgt : (!Op.bytesLess U3.toList U.toList) = false := by rw [hbef]; rfl
              clear hq0 hd0 hda0 hU3
              have hw0 : IntKind.i64.wrap (q0 : Int) = q0 := IntWalk.i64_in _ (by omega)
              have hw1 : (q0 : Int) < (L2.length : Int) := by omega
              have hw2 : (0 : Int) ≤ (q0 : Int) := by omega
              refine wp_region_held_drew (S := fun v => v.cell? (a2.add (q * 3)) = some (.string U) ∧ v.cell? ⟨(a2.add (q * 3)).block, (a2.add (q * 3)).off + 1, none⟩ = some (.string X) ∧ v.cell? (a2.add (q0 * 3)) = some (.string U3)) (by kernel_rfl) ⟨f0, f1, f3⟩ (fun hHeld => ?_)
              refine wpAnyH_take (i := 0) (oi := { dst := some 158, op := Op.move (Operand.tmp 13), type := 4, pos := "outright.go:126", after := #[], guard := none }) (v := ?_) rfl (by kernel_rfl) (by kernel_rfl) (by kernel_rfl) (fun _ _ _ h => h) (Or.inl ⟨by rfl, ?_⟩) (by assumption) ?_
              rotate_left
              · intro w hS; obtain ⟨hS0, hS1, hS3⟩ := hS; go_simp; with_reducible rfl
              try simp only [Act.put, List.setIfInBounds_toArray, List.set_cons_zero, List.set_cons_succ]
              refine wpAnyH_take (i := 1) (oi := { dst := some 159, op := Op.unOp UnOp.not 4 (Operand.tmp 158), type := 4, pos := "outright.go:126", after := #[{ on := 0, ground := Ground.data }], guard := none }) (v := ?_) rfl (by kernel_rfl) (by kernel_rfl) (by kernel_rfl) (fun _ _ _ h => h) (Or.inl ⟨by rfl, ?_⟩) (by assumption) ?_
              rotate_left
              · intro w hS; obtain ⟨hS0, hS1, hS3⟩ := hS; go_simp; with_reducible rfl
              try simp only [Act.put, List.setIfInBounds_toArray, List.set_cons_zero, List.set_cons_succ]
              refine wpAnyH_take (i := 2) (oi := { dst := some 160, op := Op.move (Operand.tmp 159), type := 4, pos := "outright.go:126", after := #[{ on := 1, ground := Ground.data }], guard := none }) (v := ?_) rfl (by kernel_rfl) (by kernel_rfl) (by kernel_rfl) (fun _ _ _ h => h) (Or.inl ⟨by rfl, ?_⟩) (by assumption) ?_
              rotate_left
              · intro w hS; obtain ⟨hS0, hS1, hS3⟩ := hS; go_simp; with_reducible rfl
              try simp only [Act.put, List.setIfInBounds_toArray, List.set_cons_zero, List.set_cons_succ]
              refine wpAnyH_take (i := 3) (oi := { dst := some 161, op := Op.move (Operand.tmp 10), type := 45, pos := "outright.go:126", after := #[{ on := 2, ground := Ground.guard }], guard := some (2, false) }) (v := ?_) rfl (by kernel_rfl) (by kernel_rfl) (by kernel_rfl) (fun _ _ _ h => h) (Or.inl ⟨by rfl, ?_⟩) (by assumption) ?_
              rotate_left
              · intro w hS; obtain ⟨hS0, hS1, hS3⟩ := hS; go_simp; with_reducible rfl
              try simp only [Act.put, List.setIfInBounds_toArray, List.set_cons_zero, List.set_cons_succ]
              refine wpAnyH_take (i := 4) (oi := { dst := some 162, op := Op.move (Operand.tmp 11), type := 3, pos := "outright.go:126", after := #[{ on := 2, ground := Ground.guard }], guard := some (2, false) }) (v := ?_) rfl (by kernel_rfl) (by kernel_rfl) (by kernel_rfl) (fun _ _ _ h => h) (Or.inl ⟨by rfl, ?_⟩) (by assumption) ?_
              rotate_left
              · intro w hS; obtain ⟨hS0, hS1, hS3⟩ := hS; go_simp; with_reducible rfl
              try simp only [Act.put, List.setIfInBounds_toArray, List.set_cons_zero, List.set_cons_succ]
              refine wpAnyH_take (i := 5) (oi := { dst := some 163, op := Op.indexAddr 45 (Operand.tmp 161) (Operand.tmp 162), type := 0, pos := "outright.go:126", after := #[{ on := 3, ground := Ground.data }, { on := 4, ground := Ground.data }, { on := 2, ground := Ground.guard }], guard := some (2, false) }) (v := ?_) rfl (by kernel_rfl) (by kernel_rfl) (by kernel_rfl) (fun _ _ _ h => h) (Or.inl ⟨by rfl, ?_⟩) (by assumption) ?_
              rotate_left
              · intro w hS; obtain ⟨hS0, hS1, hS3⟩ := hS; go_simp; with_reducible rfl
              try simp only [Act.put, List.setIfInBounds_toArray, List.set_cons_zero, List.set_cons_succ]
              refine wpAnyH_take (i := 6) (oi := { dst := some 164, op := Op.fieldAddr 38 (Operand.tmp 163) 1, type := 0, pos := "outright.go:126", after := #[{ on := 5, ground := Ground.data }, { on := 2, ground := Ground.guard }], guard := some (2, false) }) (v := ?_) rfl (by kernel_rfl) (by kernel_rfl) (by kernel_rfl) (fun _ _ _ h => h) (Or.inl ⟨by rfl, ?_⟩) (by assumption) ?_
              rotate_left
              · intro w hS; obtain ⟨hS0, hS1, hS3⟩ := hS; go_simp; with_reducible rfl
              try simp only [Act.put, List.setIfInBounds_toArray, List.set_cons_zero, List.set_cons_succ]
              refine wpAnyH_take (i := 7) (oi := { dst := some 165, op := Op.load 9 (Operand.tmp 164), type := 9, pos := "outright.go:126", after := #[{ on := 6, ground := Ground.data }, { on := 2, ground := Ground.guard }], guard := some (2, false) }) (v := ?_) rfl (by kernel_rfl) (by kernel_rfl) (by kernel_rfl) (fun _ _ _ h => h) (Or.inl ⟨by rfl, ?_⟩) (by assumption) ?_
              rotate_left
              · intro w hS; obtain ⟨hS0, hS1, hS3⟩ := hS; go_simp; with_reducible rfl
              try simp only [Act.put, List.setIfInBounds_toArray, List.set_cons_zero, List.set_cons_succ]
              refine wpAnyH_ready (rs := [8]) (by kernel_rfl) (by simp) (AllReadyH.cons (o := { dst := some 166, op := Op.call { callee := Callee.value (Operand.func 10), args := #[Operand.tmp 165], argTypes := #[9] }, type := 4, pos := "outright.go:126", after := #[{ on := 7, ground := Ground.data }, { on := 2, ground := Ground.chain }, { on := 2, ground := Ground.guard }], guard := some (2, false) }) rfl (fun K hK => ?_) AllReadyH.nil)
              rw [if_pos (by rfl)]
              go_simp
              (refine (hval _ (hT.below B6d).u8).mono ?_; rintro e w7 ⟨rfl, hb7⟩; have B7 := B6d.trans (hb7.mono B6d.size); have A7 := hdoc0.below ((Below.refl w6.heap.size w6).drew.trans hb7); have A70 := hdc00.below ((Below.refl w6.heap.size w6).drew.trans hb7))
              refine hK.out _ _ ⟨by rw [← HUX.out.1]; exact A7.c0, by rw [← HUX.out.2]; exact A7.c1, by rw [← H3.out]; exact A70.c0⟩ (fun hS2 => ?_)
              clear hK K
              try simp only [Act.put, List.setIfInBounds_toArray, List.set_cons_zero, List.set_cons_succ]
              refine wpAnyH_take (i := 9) (oi := { dst := some 167, op := Op.unOp UnOp.not 4 (Operand.tmp 166), type := 4, pos := "outright.go:126", after := #[{ on := 8, ground := Ground.data }, { on := 2, ground := Ground.guard }], guard := some (2, false) }) (v := ?_) rfl (by kernel_rfl) (by kernel_rfl) (by kernel_rfl) (fun _ _ _ h => h) (Or.inl ⟨by rfl, ?_⟩) (by assumption) ?_
              rotate_left
              · intro w hS; obtain ⟨hS0, hS1, hS3⟩ := hS; go_simp; with_reducible rfl
              try simp only [Act.put, List.setIfInBounds_toArray, List.set_cons_zero, List.set_cons_succ]
              refine wpAnyH_take (i := 10) (oi := { dst := some 168, op := Op.pick (Operand.tmp 160) (Operand.const (Value.bool true)) (Operand.tmp 167), type := 4, pos := "outright.go:126", after := #[{ on := 2, ground := Ground.data }, { on := 9, ground := Ground.data }], guard := none }) (v := ?_) rfl (by kernel_rfl) (by kernel_rfl) (by kernel_rfl) (fun _ _ _ h => h) (Or.inl ⟨by rfl, ?_⟩) (by assumption) ?_
              rotate_left
              · intro w hS; obtain ⟨hS0, hS1, hS3⟩ := hS; go_simp; with_reducible rfl
              try simp only [Act.put, List.setIfInBounds_toArray, List.set_cons_zero, List.set_cons_succ]
              refine wpAnyH_take (i := 11) (oi := { dst := some 169, op := Op.move (Operand.tmp 168), type := 4, pos := "outright.go:126", after := #[{ on := 10, ground := Ground.data }, { on := 8, ground := Ground.chain }], guard := none }) (v := ?_) rfl (by kernel_rfl) (by kernel_rfl) (by kernel_rfl) (fun _ _ _ h => h) (Or.inl ⟨by rfl, ?_⟩) (by assumption) ?_
              rotate_left
              · intro w hS; obtain ⟨hS0, hS1, hS3⟩ := hS; go_simp; with_reducible rfl
              try simp only [Act.put, List.setIfInBounds_toArray, List.set_cons_zero, List.set_cons_succ]
              refine wpAnyH_take (i := 12) (oi := { dst := some 170, op := Op.move (Operand.tmp 10), type := 45, pos := "outright.go:126", after := #[{ on := 11, ground := Ground.guard }], guard := some (11, false) }) (v := ?_) rfl (by kernel_rfl) (by kernel_rfl) (by kernel_rfl) (fun _ _ _ h => h) (Or.inl ⟨by rfl, ?_⟩) (by assumption) ?_
              rotate_left
              · intro w hS; obtain ⟨hS0, hS1, hS3⟩ := hS; go_simp; with_reducible rfl
              try simp only [Act.put, List.setIfInBounds_toArray, List.set_cons_zero, List.set_cons_succ]
              refine wpAnyH_take (i := 13) (oi := { dst := some 171, op := Op.move (Operand.tmp 11), type := 3, pos := "outright.go:126", after := #[{ on := 11, ground := Ground.guard }], guard := some (11, false) }) (v := ?_) rfl (by kernel_rfl) (by kernel_rfl) (by kernel_rfl) (fun _ _ _ h => h) (Or.inl ⟨by rfl, ?_⟩) (by assumption) ?_
              rotate_left
              · intro w hS; obtain ⟨hS0, hS1, hS3⟩ := hS; go_simp; with_reducible rfl
              try simp only [Act.put, List.setIfInBounds_toArray, List.set_cons_zero, List.set_cons_succ]
              refine wpAnyH_take (i := 14) (oi := { dst := some 172, op := Op.indexAddr 45 (Operand.tmp 170) (Operand.tmp 171), type := 0, pos := "outright.go:126", after := #[{ on := 12, ground := Ground.data }, { on := 13, ground := Ground.data }, { on := 11, ground := Ground.guard }], guard := some (11, false) }) (v := ?_) rfl (by kernel_rfl) (by kernel_rfl) (by kernel_rfl) (fun _ _ _ h => h) (Or.inl ⟨by rfl, ?_⟩) (by assumption) ?_
              rotate_left
              · intro w hS; obtain ⟨hS0, hS1, hS3⟩ := hS; go_simp; with_reducible rfl
              try simp only [Act.put, List.setIfInBounds_toArray, List.set_cons_zero, List.set_cons_succ]
              refine wpAnyH_take (i := 15) (oi := { dst := some 173, op := Op.fieldAddr 38 (Operand.tmp 172) 1, type := 0, pos := "outright.go:126", after := #[{ on := 14, ground := Ground.data }, { on := 11, ground := Ground.guard }], guard := some (11, false) }) (v := ?_) rfl (by kernel_rfl) (by kernel_rfl) (by kernel_rfl) (fun _ _ _ h => h) (Or.inl ⟨by rfl, ?_⟩) (by assumption) ?_
              rotate_left
              · intro w hS; obtain ⟨hS0, hS1, hS3⟩ := hS; go_simp; with_reducible rfl
              try simp only [Act.put, List.setIfInBounds_toArray, List.set_cons_zero, List.set_cons_succ]
              refine wpAnyH_take (i := 16) (oi := { dst := some 174, op := Op.load 9 (Operand.tmp 173), type := 9, pos := "outright.go:126", after := #[{ on := 15, ground := Ground.data }, { on := 11, ground := Ground.guard }], guard := some (11, false) }) (v := ?_) rfl (by kernel_rfl) (by kernel_rfl) (by kernel_rfl) (fun _ _ _ h => h) (Or.inl ⟨by rfl, ?_⟩) (by assumption) ?_
              rotate_left
              · intro w hS; obtain ⟨hS0, hS1, hS3⟩ := hS; go_simp; with_reducible rfl
              try simp only [Act.put, List.setIfInBounds_toArray, List.set_cons_zero, List.set_cons_succ]
              refine wpAnyH_take (i := 17) (oi := { dst := some 175, op := Op.call { callee := Callee.builtin Builtin.len, args := #[Operand.tmp 174], argTypes := #[9] }, type := 3, pos := "outright.go:126", after := #[{ on := 16, ground := Ground.data }, { on := 11, ground := Ground.guard }], guard := some (11, false) }) (v := ?_) rfl (by kernel_rfl) (by kernel_rfl) (by kernel_rfl) (fun _ _ _ h => h) (Or.inl ⟨by rfl, ?_⟩) (by assumption) ?_
              rotate_left
              · intro w hS; obtain ⟨hS0, hS1, hS3⟩ := hS; go_simp; with_reducible rfl
              try simp only [Act.put, List.setIfInBounds_toArray, List.set_cons_zero, List.set_cons_succ]
              refine wpAnyH_take (i := 18) (oi := { dst := some 176, op := Op.binOp BinOp.gtr 3 (Operand.tmp 175) (Operand.const (Value.int IntKind.i64 65536)) 3, type := 4, pos := "outright.go:126", after := #[{ on := 17, ground := Ground.data }, { on := 11, ground := Ground.guard }], guard := some (11, false) }) (v := ?_) rfl (by kernel_rfl) (by kernel_rfl) (by kernel_rfl) (fun _ _ _ h => h) (Or.inl ⟨by rfl, ?_⟩) (by assumption) ?_
              rotate_left
              · intro w hS; obtain ⟨hS0, hS1, hS3⟩ := hS; go_simp; with_reducible rfl
              try simp only [Act.put, List.setIfInBounds_toArray, List.set_cons_zero, List.set_cons_succ]
              refine wpAnyH_take (i := 19) (oi := { dst := some 177, op := Op.pick (Operand.tmp 169) (Operand.const (Value.bool true)) (Operand.tmp 176), type := 4, pos := "outright.go:126", after := #[{ on := 11, ground := Ground.data }, { on := 18, ground := Ground.data }], guard := none }) (v := ?_) rfl (by kernel_rfl) (by kernel_rfl) (by kernel_rfl) (fun _ _ _ h => h) (Or.inl ⟨by rfl, ?_⟩) (by assumption) ?_
              rotate_left
              · intro w hS; obtain ⟨hS0, hS1, hS3⟩ := hS; go_simp; with_reducible rfl
              try simp only [Act.put, List.setIfInBounds_toArray, List.set_cons_zero, List.set_cons_succ]
              refine wpAnyH_take (i := 20) (oi := { dst := some 178, op := Op.move (Operand.tmp 177), type := 4, pos := "outright.go:126", after := #[{ on := 19, ground := Ground.data }, { on := 11, ground := Ground.chain }], guard := none }) (v := ?_) rfl (by kernel_rfl) (by kernel_rfl) (by kernel_rfl) (fun _ _ _ h => h) (Or.inl ⟨by rfl, ?_⟩) (by assumption) ?_
              rotate_left
              · intro w hS; obtain ⟨hS0, hS1, hS3⟩ := hS; go_simp; with_reducible rfl
              try simp only [Act.put, List.setIfInBounds_toArray, List.set_cons_zero, List.set_cons_succ]
              refine wpAnyH_take (i := 21) (oi := { dst := some 179, op := Op.move (Operand.tmp 11), type := 3, pos := "outright.go:126", after := #[{ on := 20, ground := Ground.guard }], guard := some (20, false) }) (v := ?_) rfl (by kernel_rfl) (by kernel_rfl) (by kernel_rfl) (fun _ _ _ h => h) (Or.inl ⟨by rfl, ?_⟩) (by assumption) ?_
              rotate_left
              · intro w hS; obtain ⟨hS0, hS1, hS3⟩ := hS; go_simp; with_reducible rfl
              try simp only [Act.put, List.setIfInBounds_toArray, List.set_cons_zero, List.set_cons_succ]
              refine wpAnyH_take (i := 22) (oi := { dst := some 180, op := Op.binOp BinOp.gtr 3 (Operand.tmp 179) (Operand.const (Value.int IntKind.i64 0)) 3, type := 4, pos := "outright.go:126", after := #[{ on := 21, ground := Ground.data }, { on := 20, ground := Ground.guard }], guard := some (20, false) }) (v := ?_) rfl (by kernel_rfl) (by kernel_rfl) (by kernel_rfl) (fun _ _ _ h => h) (Or.inl ⟨by rfl, ?_⟩) (by assumption) ?_
              rotate_left
              · intro w hS; obtain ⟨hS0, hS1, hS3⟩ := hS; go_simp; with_reducible rfl
              try simp only [Act.put, List.setIfInBounds_toArray, List.set_cons_zero, List.set_cons_succ]
              refine wpAnyH_take (i := 23) (oi := { dst := some 181, op := Op.move (Operand.tmp 180), type := 4, pos := "outright.go:126", after := #[{ on := 22, ground := Ground.data }, { on := 20, ground := Ground.chain }, { on := 20, ground := Ground.guard }], guard := some (20, false) }) (v := ?_) rfl (by kernel_rfl) (by kernel_rfl) (by kernel_rfl) (fun _ _ _ h => h) (Or.inl ⟨by rfl, ?_⟩) (by assumption) ?_
              rotate_left
              · intro w hS; obtain ⟨hS0, hS1, hS3⟩ := hS; go_simp; with_reducible rfl
              try simp only [Act.put, List.setIfInBounds_toArray, List.set_cons_zero, List.set_cons_succ]
              refine wpAnyH_take (i := 24) (oi := { dst := some 182, op := Op.move (Operand.tmp 10), type := 45, pos := "outright.go:126", after := #[{ on := 23, ground := Ground.guard }], guard := some (23, true) }) (v := ?_) rfl (by kernel_rfl) (by kernel_rfl) (by kernel_rfl) (fun _ _ _ h => h) (Or.inl ⟨by rfl, ?_⟩) (by assumption) ?_
              rotate_left
              · intro w hS; obtain ⟨hS0, hS1, hS3⟩ := hS; go_simp; with_reducible rfl
              try simp only [Act.put, List.setIfInBounds_toArray, List.set_cons_zero, List.set_cons_succ]
              refine wpAnyH_take (i := 25) (oi := { dst := some 183, op := Op.move (Operand.tmp 11), type := 3, pos := "outright.go:126", after := #[{ on := 23, ground := Ground.guard }], guard := some (23, true) }) (v := ?_) rfl (by kernel_rfl) (by kernel_rfl) (by kernel_rfl) (fun _ _ _ h => h) (Or.inl ⟨by rfl, ?_⟩) (by assumption) ?_
              rotate_left
              · intro w hS; obtain ⟨hS0, hS1, hS3⟩ := hS; go_simp; with_reducible rfl
              try simp only [Act.put, List.setIfInBounds_toArray, List.set_cons_zero, List.set_cons_succ]
              refine wpAnyH_take (i := 26) (oi := { dst := some 184, op := Op.binOp BinOp.sub 3 (Operand.tmp 183) (Operand.const (Value.int IntKind.i64 1)) 3, type := 3, pos := "outright.go:126", after := #[{ on := 25, ground := Ground.data }, { on := 23, ground := Ground.guard }], guard := some (23, true) }) (v := ?_) rfl (by kernel_rfl) (by kernel_rfl) (by kernel_rfl) (fun _ _ _ h => h) (Or.inl ⟨by rfl, ?_⟩) (by assumption) ?_
              rotate_left
              · intro w hS; obtain ⟨hS0, hS1, hS3⟩ := hS; go_simp; with_reducible rfl
              try simp only [Act.put, List.setIfInBounds_toArray, List.set_cons_zero, List.set_cons_succ]
              refine wpAnyH_take (i := 27) (oi := { dst := some 185, op := Op.indexAddr 45 (Operand.tmp 182) (Operand.tmp 184), type := 0, pos := "outright.go:126", after := #[{ on := 24, ground := Ground.data }, { on := 26, ground := Ground.data }, { on := 23, ground := Ground.guard }], guard := some (23, true) }) (v := ?_) rfl (by kernel_rfl) (by kernel_rfl) (by kernel_rfl) (fun _ _ _ h => h) (Or.inl ⟨by rfl, ?_⟩) (by assumption) ?_
              rotate_left
              · intro w hS; obtain ⟨hS0, hS1, hS3⟩ := hS; go_simp; with_reducible rfl
              try simp only [Act.put, List.setIfInBounds_toArray, List.set_cons_zero, List.set_cons_succ]
              refine wpAnyH_take (i := 28) (oi := { dst := some 186, op := Op.fieldAddr 38 (Operand.tmp 185) 0, type := 0, pos := "outright.go:126", after := #[{ on := 27, ground := Ground.data }, { on := 23, ground := Ground.guard }], guard := some (23, true) }) (v := ?_) rfl (by kernel_rfl) (by kernel_rfl) (by kernel_rfl) (fun _ _ _ h => h) (Or.inl ⟨by rfl, ?_⟩) (by assumption) ?_
              rotate_left
              · intro w hS; obtain ⟨hS0, hS1, hS3⟩ := hS; go_simp; with_reducible rfl
              try simp only [Act.put, List.setIfInBounds_toArray, List.set_cons_zero, List.set_cons_succ]
              refine wpAnyH_take (i := 29) (oi := { dst := some 187, op := Op.load 9 (Operand.tmp 186), type := 9, pos := "outright.go:126", after := #[{ on := 28, ground := Ground.data }, { on := 23, ground := Ground.guard }], guard := some (23, true) }) (v := ?_) rfl (by kernel_rfl) (by kernel_rfl) (by kernel_rfl) (fun _ _ _ h => h) (Or.inl ⟨by rfl, ?_⟩) (by assumption) ?_
              rotate_left
              · intro w hS; obtain ⟨hS0, hS1, hS3⟩ := hS; go_simp; with_reducible rfl
              try simp only [Act.put, List.setIfInBounds_toArray, List.set_cons_zero, List.set_cons_succ]
              refine wpAnyH_take (i := 30) (oi := { dst := some 188, op := Op.move (Operand.tmp 10), type := 45, pos := "outright.go:126", after := #[{ on := 23, ground := Ground.guard }], guard := some (23, true) }) (v := ?_) rfl (by kernel_rfl) (by kernel_rfl) (by kernel_rfl) (fun _ _ _ h => h) (Or.inl ⟨by rfl, ?_⟩) (by assumption) ?_
              rotate_left
              · intro w hS; obtain ⟨hS0, hS1, hS3⟩ := hS; go_simp; with_reducible rfl
              try simp only [Act.put, List.setIfInBounds_toArray, List.set_cons_zero, List.set_cons_succ]
              refine wpAnyH_take (i := 31) (oi := { dst := some 189, op := Op.move (Operand.tmp 11), type := 3, pos := "outright.go:126", after := #[{ on := 23, ground := Ground.guard }], guard := some (23, true) }) (v := ?_) rfl (by kernel_rfl) (by kernel_rfl) (by kernel_rfl) (fun _ _ _ h => h) (Or.inl ⟨by rfl, ?_⟩) (by assumption) ?_
              rotate_left
              · intro w hS; obtain ⟨hS0, hS1, hS3⟩ := hS; go_simp; with_reducible rfl
              try simp only [Act.put, List.setIfInBounds_toArray, List.set_cons_zero, List.set_cons_succ]
              refine wpAnyH_take (i := 32) (oi := { dst := some 190, op := Op.indexAddr 45 (Operand.tmp 188) (Operand.tmp 189), type := 0, pos := "outright.go:126", after := #[{ on := 30, ground := Ground.data }, { on := 31, ground := Ground.data }, { on := 23, ground := Ground.guard }], guard := some (23, true) }) (v := ?_) rfl (by kernel_rfl) (by kernel_rfl) (by kernel_rfl) (fun _ _ _ h => h) (Or.inl ⟨by rfl, ?_⟩) (by assumption) ?_
              rotate_left
              · intro w hS; obtain ⟨hS0, hS1, hS3⟩ := hS; go_simp; with_reducible rfl
              try simp only [Act.put, List.setIfInBounds_toArray, List.set_cons_zero, List.set_cons_succ]
              refine wpAnyH_take (i := 33) (oi := { dst := some 191, op := Op.fieldAddr 38 (Operand.tmp 190) 0, type := 0, pos := "outright.go:126", after := #[{ on := 32, ground := Ground.data }, { on := 23, ground := Ground.guard }], guard := some (23, true) }) (v := ?_) rfl (by kernel_rfl) (by kernel_rfl) (by kernel_rfl) (fun _ _ _ h => h) (Or.inl ⟨by rfl, ?_⟩) (by assumption) ?_
              rotate_left
              · intro w hS; obtain ⟨hS0, hS1, hS3⟩ := hS; go_simp; with_reducible rfl
              try simp only [Act.put, List.setIfInBounds_toArray, List.set_cons_zero, List.set_cons_succ]
              refine wpAnyH_take (i := 34) (oi := { dst := some 192, op := Op.load 9 (Operand.tmp 191), type := 9, pos := "outright.go:126", after := #[{ on := 33, ground := Ground.data }, { on := 23, ground := Ground.guard }], guard := some (23, true) }) (v := ?_) rfl (by kernel_rfl) (by kernel_rfl) (by kernel_rfl) (fun _ _ _ h => h) (Or.inl ⟨by rfl, ?_⟩) (by assumption) ?_
              rotate_left
              · intro w hS; obtain ⟨hS0, hS1, hS3⟩ := hS; go_simp; with_reducible rfl
              try simp only [Act.put, List.setIfInBounds_toArray, List.set_cons_zero, List.set_cons_succ]
              refine wpAnyH_take (i := 35) (oi := { dst := some 193, op := Op.binOp BinOp.geq 9 (Operand.tmp 187) (Operand.tmp 192) 9, type := 4, pos := "outright.go:126", after := #[{ on := 29, ground := Ground.data }, { on := 34, ground := Ground.data }, { on := 23, ground := Ground.guard }], guard := some (23, true) }) (v := ?_) rfl (by kernel_rfl) (by kernel_rfl) (by kernel_rfl) (fun _ _ _ h => h) (Or.inl ⟨by rfl, ?_⟩) (by assumption) ?_
              rotate_left
              · intro w hS; obtain ⟨hS0, hS1, hS3⟩ := hS; go_simp; with_reducible rfl
              try simp only [Act.put, List.setIfInBounds_toArray, List.set_cons_zero, List.set_cons_succ]
              refine wpAnyH_take (i := 36) (oi := { dst := some 194, op := Op.pick (Operand.tmp 181) (Operand.tmp 193) (Operand.const (Value.bool false)), type := 4, pos := "outright.go:126", after := #[{ on := 23, ground := Ground.data }, { on := 35, ground := Ground.data }, { on := 20, ground := Ground.guard }], guard := some (20, false) }) (v := ?_) rfl (by kernel_rfl) (by kernel_rfl) (by kernel_rfl) (fun _ _ _ h => h) (Or.inl ⟨by rfl, ?_⟩) (by assumption) ?_
              rotate_left
              · intro w hS; obtain ⟨hS0, hS1, hS3⟩ := hS; go_simp; with_reducible rfl
              try simp only [Act.put, List.setIfInBounds_toArray, List.set_cons_zero, List.set_cons_succ]
              refine wpAnyH_take (i := 37) (oi := { dst := some 195, op := Op.pick (Operand.tmp 178) (Operand.const (Value.bool true)) (Operand.tmp 194), type := 4, pos := "outright.go:126", after := #[{ on := 20, ground := Ground.data }, { on := 36, ground := Ground.data }], guard := none }) (v := ?_) rfl (by kernel_rfl) (by kernel_rfl) (by kernel_rfl) (fun _ _ _ h => h) (Or.inl ⟨by rfl, ?_⟩) (by assumption) ?_
              rotate_left
              · intro w hS; obtain ⟨hS0, hS1, hS3⟩ := hS; go_simp; with_reducible rfl
              try simp only [Act.put, List.setIfInBounds_toArray, List.set_cons_zero, List.set_cons_succ]
              refine wpAnyH_done (by kernel_rfl) ?_ _
              have B7b : Below w6.heap.size w6 w7 := (Below.refl w6.heap.size w6).drew.trans hb7
              generalize w7 = W7 at *
              go_wp2_with fail
              go_roundw
              case rel => exact ⟨q + 1, by go_num, by omega, B56.trans (B7b.mono B56.size)⟩
              case measure => simp [RowKit.intOf]; omega
        · have hq2 : ¬ ((32 : Int) < (L2.length : Int)) := by omega
          go_wp2_with fail
          go_roundw
          case rel => exact ⟨k + 1, L2, by go_num, by omega, HI2.out, dv5.below hb6, B6⟩
          case measure => simp [RowKit.intOf]; omega
    · go_wp2_with (first
        | (go_at_call 7; refine (hw _ (hT.below hB)).mono ?_; rintro e w2 ⟨rfl, hb2⟩))
      go_ret
      exact ⟨rfl, hB.trans (hb2.mono hB.size)⟩
end Go.Proofs.Dc
