/- next of a Snapshots, at Close. (gen_s8.py) -/
import Derived.Test.YtcenfckjkboabaaGreatDoorS9
import Derived.StillTailTactics
import Derived.Deep.RegionHeld3
import Derived.Deep.CutBlock
import Derived.Deep.DeepCutAuto
namespace Go.Proofs.Dc
open Go.RowKit Go.Proofs Go.Lib Go.Maps

set_option maxRecDepth 100000 in
set_option maxHeartbeats 8000000 in
theorem next_close {w : World} (hT : Tabs w) {s m lo : Nat} {G : List Gen} (_hlo6 : 6 ≤ lo) (h : SV w s m lo G) (hG : G.length ≤ 1000) (g : Gen) (hg : G[G.length - 1]? = some g) (hI : Inv g.docs) (u : ByteArray) (hu : u.size ≤ 1000000) (E : Int) (L' : List Doc) (_hI' : Inv L') (hOne : E = 0 → OneU g.docs L' u.data.toList)
    (hdo : ∀ wx d M, Below w.heap.size w wx → DV wx d M g.docs → w.heap.size ≤ M → Calls Tryz.prog 55 #[.pointer (some ⟨d, 0, none⟩), .string u] wx fun e w' => e = .returned (.int .i64 E) ∧ DV w' d M L' ∧ wx.grownBy w' (some M)) :
    Calls Tryz.prog 77 #[.pointer (some ⟨s, 0, none⟩), .string u, .func (.func 55) #[] #[]] w fun e w' => e = .returned (.int .i64 E) ∧ SV w' s m lo (if E = 0 then addG G L' u.data.toList else G) ∧ FsK w w' s m ∧ Below lo w w' := by
  have HSV := Lib.hid h
  obtain ⟨hne, B, D, h⟩ := h
  have hk := kept_last hne
  have hl : 0 < G.length := List.length_pos_iff.2 hne
  obtain ⟨n, hn⟩ : ∃ n, G.length - 1 = n := ⟨_, rfl⟩
  have HSK := Lib.hid h
  rw [hn] at h hk hg
  obtain ⟨hz, hlo, ⟨gn⟩⟩ := h.el n hk
  have hgg : gn.g = g := Option.some.inj (gn.at_.symm.trans hg)
  obtain ⟨g', d, M, C, hat, hhd, hdv, hcm, hMm, hCm⟩ := gn
  have hgg2 : g = g' := hgg.symm
  subst hgg2
  clear hgg
  have hq := sis_any h
  have hc : (0 : Int) ≤ (n : Int) ∧ kept G ((n : Int)).toNat = true := ⟨by omega, by simpa using hk⟩
  have hlook : ∀ q, (Instr.lookup 70 (.map (some m)) (.int .i64 (n : Int)) false).run Tryz.prog (w.drewN q) = .ok (.pointer (some ⟨B n, 0, none⟩)) (w.drewN q) := fun q => by
    have h1 := (h.below (below_draws (Below.refl _ _) q)).look (n : Int) (wfI_of (by omega) (by omega))
    rw [if_pos hc, Int.toNat_natCast] at h1
    exact h1
  obtain ⟨c0, c1⟩ := h.cells
  have hbl := (Array.getElem?_eq_some_iff.1 hhd).1
  have HK : Hid (∀ v, Below w.heap.size w v → v.cell? ⟨B n, 0, none⟩ = some (.pointer (some ⟨d, 0, none⟩)) ∧ v.cell? ⟨B n, 1, none⟩ = some (.map (some C)) ∧ v.cell? ⟨B n, 2, none⟩ = some (.int .i64 (g.held : Int))) := Lib.hid fun v hb => by
    have k := (hb.block _ hbl).trans hhd
    refine ⟨?_, ?_, ?_⟩ <;> simp [World.cell?, k]
  have HS0 : Hid (∀ v, Below w.heap.size w v → v.heap[s]? = some (.cells #[.map (some m), .int .i64 (n : Int)] 72 (0, 0))) := Lib.hid fun v hb => (hb.block _ h.lt.1).trans h.hd
  have hcp := fun w1 (hb : Below w.heap.size w w1) => copy_any w1 d M g.docs (hdv.below hb)
  have hcl : ∀ w1, Below w.heap.size w w1 → Calls Tryz.prog 100 #[.map (some C)] w1 fun e w' => e = .returned (.map (some w1.heap.size)) ∧ CameAt w' w1.heap.size g.docs (cameOf G n) ∧ Below w1.heap.size w1 w' := fun w1 hb => by
    obtain ⟨DD, k1, k2⟩ := hcm
    refine (AnyW.maps_Clone_owns Tryz.cloneI 9 intEl C (Maps.size DD) DD w1 (k1.kept (row := none) (gb_below hb) (by simp))).mono ?_
    rintro e w' ⟨rfl, k3, _, k4⟩
    exact ⟨rfl, ⟨DD, k3, k2⟩, k4⟩
  have HCP := Lib.hid hcp
  have HCL := Lib.hid hcl
  have HDO := Lib.hid hdo
  have HLOOK := Lib.hid hlook
  have HHD := Lib.hid hhd
  have HLO := Lib.hid hlo
  have HOne := Lib.hid hOne
  have HN := Lib.hid hn
  have HNE := Lib.hid hne
  have HG := Lib.hid hG
  have HGN := Lib.hid hg
  have HKN := Lib.hid hk
  have HT := Lib.hid hT
  have hml := h.lt.2
  have hsl := h.lt.1
  have hsm := h.sm
  have HLS : Hid (lo ≤ s ∧ lo ≤ m ∧ s < w.heap.size ∧ m < w.heap.size ∧ s ≠ m ∧ B n < w.heap.size) := Lib.hid ⟨h.slo, h.mlo, hsl, hml, hsm, hbl⟩
  have HLEN : Hid (G.length = n + 1) := Lib.hid (by omega)
  have hnb : n ≤ 1000 := by omega
  have hI8 := hI.len
  clear h hz hat hhd hdv hcm hMm hCm hc hcp hcl hdo hlo hOne hn hne hG hg hk hT hml hsl hsm hbl hl hI
  go_enter Tryz.func77, Tryz.ntmps77
  go_upto_region 3 with (first | (go_at_call 66; refine hq.mono ?_; rintro e w1 ⟨rfl, hw⟩; subst w1))
  go_quiet (fail)
  have hbq : Below w.heap.size w (w.drewN nq) := below_draws (Below.refl _ _) nq
  clear c0 c1 hq hlook
  generalize w.drewN nq = w1 at *
  obtain ⟨k0, k1, k2⟩ := HK.out _ hbq
  go_upto_region 4 with fail
  go_cut [8] (fun v8 wx => ∃ b8 d2 M2 C2, v8 = .pointer (some ⟨b8, 0, none⟩) ∧ wx.heap[b8]? = some (.cells #[.pointer (some ⟨d2, 0, none⟩), .map (some C2), .int .i64 0] 103 (0, 0)) ∧ DV wx d2 M2 g.docs ∧ CameAt wx C2 g.docs (cameOf G n) ∧ Below w.heap.size w wx ∧ w.heap.size ≤ M2 ∧ w.heap.size ≤ C2 ∧ w.heap.size ≤ b8 ∧ w.heap.size ≤ d2 ∧ C2 ≠ M2 ∧ b8 ≠ M2 ∧ b8 ≠ C2 ∧ d2 ≠ C2)
  case first =>
    have Bd : Below w.heap.size w w1.drew := hbq.drew
    go_region_held3 (fun v => v.cell? ⟨B n, 0, none⟩ = some (.pointer (some ⟨d, 0, none⟩)) ∧ v.cell? ⟨B n, 1, none⟩ = some (.map (some C)) ∧ v.cell? ⟨B n, 2, none⟩ = some (.int .i64 (g.held : Int))) (first | exact ⟨k0, k1, k2⟩ | exact ⟨s0, s1, s2⟩ | exact ⟨t0, t1, t2⟩ | exact HK.out _ (B6.alloc B6.size _)) (first
      | (have GU := HC5; clear GU; go_at_call 16; refine (HCP.out _ B5).mono ?_; rintro e w6 ⟨d2, M2, rfl, hdv6, hb6, l1, l2⟩; have B6 := B5.trans (hb6.mono B5.size); obtain ⟨t0, t1, t2⟩ := HK.out _ B6)
      | (have GU := HD5; clear GU; go_at_call 100; refine (HCL.out _ B5).mono ?_; rintro e w6 ⟨rfl, hcm6, hb6⟩; have B6 := B5.trans (hb6.mono B5.size); obtain ⟨t0, t1, t2⟩ := HK.out _ B6)
      | (go_at_call 16; refine (HCP.out _ Bd).mono ?_; rintro e w5 ⟨d2, M2, rfl, HD5, hb5, l1, l2⟩; have B5 := Bd.trans (hb5.mono Bd.size); obtain ⟨s0, s1, s2⟩ := HK.out _ B5)
      | (go_at_call 100; refine (HCL.out _ Bd).mono ?_; rintro e w5 ⟨rfl, HC5, hb5⟩; have B5 := Bd.trans (hb5.mono Bd.size); obtain ⟨s0, s1, s2⟩ := HK.out _ B5))
    go_wp2_with fail
    go_meet
    have ba : Below w6.heap.size w6 (w6.alloc (.cells #[.pointer (some ⟨d2, 0, none⟩), .map (some w5.heap.size), .int .i64 0] 103)) := (Below.refl _ _).alloc (Nat.le_refl _) _
    have hz0 := Bd.size
    have hz5 := hb5.size
    have hl5 := HD5.lt
    have hz6 := hb6.size
    have hl6 := hcm6.lt
    exact ⟨w6.heap.size, d2, M2, w5.heap.size, rfl, World.alloc_heap_new w6 _, (HD5.below hb6).below ba, hcm6.kept (row := none) (gb_below ba) (by simp), B6.alloc B6.size _, by omega, by omega, by omega, by omega, by omega, by omega, by omega, by omega⟩
  case rest =>
  obtain ⟨b8, d2, M2, C2, rfl, hh8, hdv2, hcm2, hbx, l1, l2, l3, l0, n1, n2, n3, n4⟩ := hcut
  have e0 : wc.cell? ⟨b8, 0, none⟩ = some (.pointer (some ⟨d2, 0, none⟩)) := by simp [World.cell?, hh8]
  by_cases hE : E = 0
  · have hEb : (E != 0) = false := by rw [hE]; rfl
    have HONE := Lib.hid (HOne.out hE)
    have HEE := Lib.hid hE
    clear hE
    go_upto_region 8 with (first
      | (go_at_call 55; refine (HDO.out _ _ _ hbx hdv2 l1).mono ?_; rintro e w5 ⟨rfl, hdv5, hg5⟩))
    obtain ⟨x1, x2, x3, x4, x5, x6⟩ := HLS.out
    have hb5 := hbx.trans (below_gb l1 hbx.size hg5)
    have hd2 : w.heap.size ≤ d2 := l0
    have N5 : NewG w w5 s m b8 d2 M2 C2 L' g.docs (cameOf G n) :=
      ⟨(hg5.block b8 (Array.getElem?_eq_some_iff.1 hh8).1 (fun e => n2 (Option.some.inj e))).trans hh8, hdv5, hcm2.kept hg5 (fun e => n1 (Option.some.inj e)), fun k k1 _ _ => hb5.block k k1, hb5.size, hb5.os, hb5.tape, hb5.output⟩
    have V5 := HSK.out.mv.kept (row := none) (gb_below hb5) (by simp)
    have hs5 := HS0.out _ hb5
    obtain ⟨y0, y1, y2⟩ := HK.out _ hb5
    have HN5 := Lib.hid N5
    have HV5 := Lib.hid V5
    have HS5 := Lib.hid hs5
    have hsc := (cells_s hs5)
    obtain ⟨sc0, sc1⟩ := hsc
    clear e0 hh8 hdv2 hcm2 hdv5 hg5 N5 V5 hs5
    by_cases hh0 : g.held = 0
    · have hz1 : ((g.held : Int) == 0) = true := by rw [hh0]; rfl
      have Vd := HV5.out.kept (row := none) (gb_below (Below.refl w5.heap.size w5).drew) (by simp)
      have hkn : kept G (G.length - 1) = true := by rw [HN.out]; exact HKN.out
      obtain ⟨W6, D1, hdel, V6, hg6⟩ := Vd.del (n := G.length - 1) hkn (wfI_of (by omega) (by have := HG.out; omega))
      rw [HN.out] at hdel
      have H6 : w5.grownBy W6 (some m) := (gb_below (row := some m) (Below.refl w5.heap.size w5).drew).trans hg6
      have hkb : keptB G (decide (g.held = 0)) = fun i => kept G i && i != G.length - 1 := by
        funext i
        unfold keptB
        rw [if_pos (by simpa using hh0)]
      have hn1 : cnt (kept G) G.length - (if g.held = 0 then 1 else 0) = cnt (kept G) G.length - 1 := by rw [if_pos hh0]
      rw [← hkb, ← hn1] at V6
      clear Vd hkn hg6 hkb hn1 hh0
      have N6 := HN5.out.kept H6 (.inr (.inr rfl)) x3 x4 l3 hd2 l1 l2
      have hs6 : W6.heap[s]? = some (.cells #[.map (some m), .int .i64 (n : Int)] 72 (0, 0)) := (H6.block s (Array.getElem?_eq_some_iff.1 HS5.out).1 (fun e => x5 (Option.some.inj e))).trans HS5.out
      obtain ⟨z0, z1⟩ := cells_s hs6
      have fz : W6.frozen? ⟨s, 1, none⟩ = false := by simp [World.frozen?, hs6]
      have q1 : IntKind.i64.wrap ((n : Int) + 1) = (n : Int) + 1 := IntWalk.i64_in _ (by omega)
      obtain ⟨W7, hW7⟩ : ∃ W7, W6.setCell ⟨s, 1, none⟩ (.int .i64 ((n : Int) + 1)) = W7 := ⟨_, rfl⟩
      have hs7 : W7.heap[s]? = some (.cells #[.map (some m), .int .i64 (((n + 1 : Nat)) : Int)] 72 (0, 0)) := by
        rw [← hW7]
        have := set_row (j := 1) (.int .i64 ((n : Int) + 1)) hs6
        simpa using this
      have g7 : W6.grownBy W7 (some s) := by rw [← hW7]; exact grown_set _ hs6
      have N7 := N6.kept g7 (.inr (.inl rfl)) x3 x4 l3 hd2 l1 l2
      have V7 := V6.kept g7 (fun e => x5 (Option.some.inj e).symm)
      obtain ⟨a0, a1⟩ := cells_s hs7
      have bd7 : Below W7.heap.size W7 W7.drew := (Below.refl _ _).drew
      have N7d := N7.kept (row := none) (gb_below bd7) (.inl rfl) x3 x4 l3 hd2 l1 l2
      have V7d := V7.kept (row := none) (gb_below bd7) (by simp)
      have hs7d := (bd7.block s (Array.getElem?_eq_some_iff.1 hs7).1).trans hs7
      have hkf : keptB G (decide (g.held = 0)) G.length = false := by
        unfold keptB
        rw [kept_ge (Nat.le_refl _)]
        simp
      have hcN : cnt (kept G) G.length ≤ G.length := by
        unfold cnt
        refine Nat.le_trans List.countP_le_length ?_
        simp
      obtain ⟨W8, D2, hput, V8, g8⟩ := V7d.put (n := G.length) (b := b8) hkf (wfI_of (by omega) (by have := HG.out; omega)) (by have := HG.out; unfold maxLen; omega)
      have N8 := N7d.kept g8 (.inr (.inr rfl)) x3 x4 l3 hd2 l1 l2
      have hs8 := (g8.block s (Array.getElem?_eq_some_iff.1 hs7d).1 (fun e => x5 (Option.some.inj e))).trans hs7d
      rw [HLEN.out] at hput
      simp only [Int.natCast_add, Int.natCast_one] at hput a1
      have hget := get_any W8 d2 M2 L' N8.dv u (by unfold maxLen; omega)
      obtain ⟨ok, hok⟩ : ∃ o, (getD? L' u.data.toList).isSome = o := ⟨_, rfl⟩
      obtain ⟨DD, hDD⟩ : ∃ X, (getD? L' u.data.toList).getD doc0 = X := ⟨_, rfl⟩
      simp only [hok, hDD, docVal] at hget
      obtain ⟨A1, hA1⟩ : ∃ A : ByteArray, (⟨DD.uri.toArray⟩ : ByteArray) = A := ⟨_, rfl⟩
      obtain ⟨A2, hA2⟩ : ∃ A : ByteArray, (⟨DD.text.toArray⟩ : ByteArray) = A := ⟨_, rfl⟩
      simp only [hA1, hA2] at hget
      have HN8 := Lib.hid N8
      have HV8 := Lib.hid V8
      have HS8 := Lib.hid hs8
      have HGET := Lib.hid hget
      have HOK := Lib.hid hok
      have HPUT := Lib.hid hput
      obtain ⟨b0, b1⟩ := N7.cells
      clear N6 hs6 hs7 g7 N7 V7 bd7 N7d V7d hs7d hkf hcN N8 V8 g8 hs8 hget hok hDD hA1 hA2 V6 H6 hput
      go_upto_region 9 with fail
      go_still_tail 8, (by kernel_rfl)
      change wpList _ _ _ _ _ w5.drew
      clear y0 y1 y2 sc0 sc1 hb5
      generalize w5.drew = w5d at *
      go_upto_region 11 with fail
      clear hW7
      go_still_tail 9, (by kernel_rfl)
      change wpList _ _ _ _ _ W7.drew
      have hput := HPUT.out
      clear a0 a1 b0 b1 z0 z1 fz
      generalize W7.drew = W7d at *
      have hc8 := HN8.out.cells.1
      cases ok with
      | true =>
        go_upto_region 14 with (first
          | (go_at_call 61; refine HGET.out.mono ?_; rintro e w9 ⟨rfl, hb9⟩))
        have b9 : Below W8.heap.size W8 (w9.alloc (.cells #[.string A1, .string A2, .int .i64 DD.ver] 53)) := hb9.alloc hb9.size _
        generalize w9.alloc (.cells #[.string A1, .string A2, .int .i64 DD.ver] 53) = W10 at *
        have N10 := HN8.out.kept (row := none) (gb_below b9) (.inl rfl) x3 x4 l3 hd2 l1 l2
        obtain ⟨f0, f1⟩ := N10.cells
        have hs10 := (b9.block s (Array.getElem?_eq_some_iff.1 HS8.out).1).trans HS8.out
        obtain ⟨f2, f3⟩ := cells_s hs10
        have bd : Below W10.heap.size W10 W10.drew := (Below.refl _ _).drew
        have N10d := N10.kept (row := none) (gb_below bd) (.inl rfl) x3 x4 l3 hd2 l1 l2
        obtain ⟨W11, hmu, hc11, g11⟩ := N10d.cm.put u (by unfold maxLen; omega) (by unfold maxLen; omega) HONE.out HOK.out (n + 1) (wfI_of (by omega) (by omega))
        have N11 := N10d.came g11 hc11 n3 n4 (fun e => n1 e.symm) l2
        have hs10d := (bd.block s (Array.getElem?_eq_some_iff.1 hs10).1).trans hs10
        have hs11 := (g11.block s (Array.getElem?_eq_some_iff.1 hs10d).1 (fun e => by have := Option.some.inj e; omega)).trans hs10d
        have V11 := (HV8.out.kept (row := none) (gb_below (b9.trans (bd.mono b9.size))) (by simp)).kept g11 (fun e => by have := Option.some.inj e; omega)
        have H11 := Lib.hid N11
        have HS11 := Lib.hid hs11
        have HV11 := Lib.hid V11
        clear N10 N10d hc11 g11 N11 hs10 hs10d hs11 V11 hc8 b9 hb9 bd
        simp only [Int.natCast_add, Int.natCast_one] at f3 hmu
        go_still_tail 9, (by kernel_rfl)
        change wpList _ _ _ _ _ W10.drew
        clear f0 f1 f2 f3
        generalize W10.drew = W10d at *
        go_wp2_with fail
        go_ret
        have hgl : G[G.length - 1]? = some g := by rw [HN.out]; exact HGN.out
        have hSV : SV W11 s m lo (addG G L' u.data.toList) := SK.build HNE.out HSK.out hgl H11.out.old (by rw [HLEN.out]; exact HS11.out) l3 (by rw [cnt_add hgl]; exact HV11.out) (H11.out.gen (fun x => by rw [came_add _ _ _ HNE.out, HN.out, HLEN.out]) x4 l1 l2)
        obtain ⟨hFS, hBL⟩ := H11.out.fs (lo := lo) x1 x2 x3
        exact ⟨by first | rfl | (rw [HEE.out]; rfl), by first | exact hSV | (rw [if_pos HEE.out]; exact hSV), hFS, hBL⟩
      | false =>
        go_upto_region 15 with (first
          | (go_at_call 61; refine HGET.out.mono ?_; rintro e w9 ⟨rfl, hb9⟩))
        have b9 : Below W8.heap.size W8 (w9.alloc (.cells #[.string A1, .string A2, .int .i64 DD.ver] 53)) := hb9.alloc hb9.size _
        generalize w9.alloc (.cells #[.string A1, .string A2, .int .i64 DD.ver] 53) = W10 at *
        have N10 := HN8.out.kept (row := none) (gb_below b9) (.inl rfl) x3 x4 l3 hd2 l1 l2
        obtain ⟨f0, f1⟩ := N10.cells
        have hs10 := (b9.block s (Array.getElem?_eq_some_iff.1 HS8.out).1).trans HS8.out
        obtain ⟨W11, hdl, hc11, g11⟩ := N10.cm.del u (by unfold maxLen; omega) HONE.out (by have := HOK.out; simpa using this) (n + 1)
        have N11 := N10.came g11 hc11 n3 n4 (fun e => n1 e.symm) l2
        have hs11 := (g11.block s (Array.getElem?_eq_some_iff.1 hs10).1 (fun e => by have := Option.some.inj e; omega)).trans hs10
        have V11 := (HV8.out.kept (row := none) (gb_below b9) (by simp)).kept g11 (fun e => by have := Option.some.inj e; omega)
        have H11 := Lib.hid N11
        have HS11 := Lib.hid hs11
        have HV11 := Lib.hid V11
        clear N10 hc11 g11 N11 hs10 hs11 V11 hc8 b9 hb9
        go_wp2_with fail
        go_ret
        have hgl : G[G.length - 1]? = some g := by rw [HN.out]; exact HGN.out
        have hSV : SV W11 s m lo (addG G L' u.data.toList) := SK.build HNE.out HSK.out hgl H11.out.old (by rw [HLEN.out]; exact HS11.out) l3 (by rw [cnt_add hgl]; exact HV11.out) (H11.out.gen (fun x => by rw [came_add _ _ _ HNE.out, HN.out, HLEN.out]) x4 l1 l2)
        obtain ⟨hFS, hBL⟩ := H11.out.fs (lo := lo) x1 x2 x3
        exact ⟨by first | rfl | (rw [HEE.out]; rfl), by first | exact hSV | (rw [if_pos HEE.out]; exact hSV), hFS, hBL⟩
    · have hz1 : ((g.held : Int) == 0) = false := beq_eq_false_iff_ne.2 (by omega)
      obtain ⟨W6, hW6⟩ : ∃ W6, w5 = W6 := ⟨_, rfl⟩
      have H6 : w5.grownBy W6 (some m) := by rw [← hW6]; exact World.grownBy.refl _ _
      have V6 : MV W6 m (keptB G (decide (g.held = 0))) (cnt (kept G) G.length - (if g.held = 0 then 1 else 0)) B D := by
        have hkb : keptB G (decide (g.held = 0)) = kept G := by
          funext i
          unfold keptB
          rw [if_neg (by simpa using hh0)]
        rw [if_neg hh0, hkb, ← hW6]
        exact HV5.out
      obtain ⟨D1, hD1⟩ : ∃ D1, D = D1 := ⟨_, rfl⟩
      rw [hD1] at V6
      clear hh0 hD1
      have N6 := HN5.out.kept H6 (.inr (.inr rfl)) x3 x4 l3 hd2 l1 l2
      have hs6 : W6.heap[s]? = some (.cells #[.map (some m), .int .i64 (n : Int)] 72 (0, 0)) := (H6.block s (Array.getElem?_eq_some_iff.1 HS5.out).1 (fun e => x5 (Option.some.inj e))).trans HS5.out
      obtain ⟨z0, z1⟩ := cells_s hs6
      have fz : W6.frozen? ⟨s, 1, none⟩ = false := by simp [World.frozen?, hs6]
      have q1 : IntKind.i64.wrap ((n : Int) + 1) = (n : Int) + 1 := IntWalk.i64_in _ (by omega)
      obtain ⟨W7, hW7⟩ : ∃ W7, W6.setCell ⟨s, 1, none⟩ (.int .i64 ((n : Int) + 1)) = W7 := ⟨_, rfl⟩
      have hs7 : W7.heap[s]? = some (.cells #[.map (some m), .int .i64 (((n + 1 : Nat)) : Int)] 72 (0, 0)) := by
        rw [← hW7]
        have := set_row (j := 1) (.int .i64 ((n : Int) + 1)) hs6
        simpa using this
      have g7 : W6.grownBy W7 (some s) := by rw [← hW7]; exact grown_set _ hs6
      have N7 := N6.kept g7 (.inr (.inl rfl)) x3 x4 l3 hd2 l1 l2
      have V7 := V6.kept g7 (fun e => x5 (Option.some.inj e).symm)
      obtain ⟨a0, a1⟩ := cells_s hs7
      have bd7 : Below W7.heap.size W7 W7.drew := (Below.refl _ _).drew
      have N7d := N7.kept (row := none) (gb_below bd7) (.inl rfl) x3 x4 l3 hd2 l1 l2
      have V7d := V7.kept (row := none) (gb_below bd7) (by simp)
      have hs7d := (bd7.block s (Array.getElem?_eq_some_iff.1 hs7).1).trans hs7
      have hkf : keptB G (decide (g.held = 0)) G.length = false := by
        unfold keptB
        rw [kept_ge (Nat.le_refl _)]
        simp
      have hcN : cnt (kept G) G.length ≤ G.length := by
        unfold cnt
        refine Nat.le_trans List.countP_le_length ?_
        simp
      obtain ⟨W8, D2, hput, V8, g8⟩ := V7d.put (n := G.length) (b := b8) hkf (wfI_of (by omega) (by have := HG.out; omega)) (by have := HG.out; unfold maxLen; omega)
      have N8 := N7d.kept g8 (.inr (.inr rfl)) x3 x4 l3 hd2 l1 l2
      have hs8 := (g8.block s (Array.getElem?_eq_some_iff.1 hs7d).1 (fun e => x5 (Option.some.inj e))).trans hs7d
      rw [HLEN.out] at hput
      simp only [Int.natCast_add, Int.natCast_one] at hput a1
      have hget := get_any W8 d2 M2 L' N8.dv u (by unfold maxLen; omega)
      obtain ⟨ok, hok⟩ : ∃ o, (getD? L' u.data.toList).isSome = o := ⟨_, rfl⟩
      obtain ⟨DD, hDD⟩ : ∃ X, (getD? L' u.data.toList).getD doc0 = X := ⟨_, rfl⟩
      simp only [hok, hDD, docVal] at hget
      obtain ⟨A1, hA1⟩ : ∃ A : ByteArray, (⟨DD.uri.toArray⟩ : ByteArray) = A := ⟨_, rfl⟩
      obtain ⟨A2, hA2⟩ : ∃ A : ByteArray, (⟨DD.text.toArray⟩ : ByteArray) = A := ⟨_, rfl⟩
      simp only [hA1, hA2] at hget
      have HN8 := Lib.hid N8
      have HV8 := Lib.hid V8
      have HS8 := Lib.hid hs8
      have HGET := Lib.hid hget
      have HOK := Lib.hid hok
      have HPUT := Lib.hid hput
      obtain ⟨b0, b1⟩ := N7.cells
      clear N6 hs6 hs7 g7 N7 V7 bd7 N7d V7d hs7d hkf hcN N8 V8 g8 hs8 hget hok hDD hA1 hA2 V6 H6 hput
      clear hb5
      subst hW6
      go_upto_region 11 with fail
      clear hW7
      go_still_tail 9, (by kernel_rfl)
      change wpList _ _ _ _ _ W7.drew
      have hput := HPUT.out
      clear a0 a1 b0 b1 z0 z1 fz
      generalize W7.drew = W7d at *
      have hc8 := HN8.out.cells.1
      cases ok with
      | true =>
        go_upto_region 14 with (first
          | (go_at_call 61; refine HGET.out.mono ?_; rintro e w9 ⟨rfl, hb9⟩))
        have b9 : Below W8.heap.size W8 (w9.alloc (.cells #[.string A1, .string A2, .int .i64 DD.ver] 53)) := hb9.alloc hb9.size _
        generalize w9.alloc (.cells #[.string A1, .string A2, .int .i64 DD.ver] 53) = W10 at *
        have N10 := HN8.out.kept (row := none) (gb_below b9) (.inl rfl) x3 x4 l3 hd2 l1 l2
        obtain ⟨f0, f1⟩ := N10.cells
        have hs10 := (b9.block s (Array.getElem?_eq_some_iff.1 HS8.out).1).trans HS8.out
        obtain ⟨f2, f3⟩ := cells_s hs10
        have bd : Below W10.heap.size W10 W10.drew := (Below.refl _ _).drew
        have N10d := N10.kept (row := none) (gb_below bd) (.inl rfl) x3 x4 l3 hd2 l1 l2
        obtain ⟨W11, hmu, hc11, g11⟩ := N10d.cm.put u (by unfold maxLen; omega) (by unfold maxLen; omega) HONE.out HOK.out (n + 1) (wfI_of (by omega) (by omega))
        have N11 := N10d.came g11 hc11 n3 n4 (fun e => n1 e.symm) l2
        have hs10d := (bd.block s (Array.getElem?_eq_some_iff.1 hs10).1).trans hs10
        have hs11 := (g11.block s (Array.getElem?_eq_some_iff.1 hs10d).1 (fun e => by have := Option.some.inj e; omega)).trans hs10d
        have V11 := (HV8.out.kept (row := none) (gb_below (b9.trans (bd.mono b9.size))) (by simp)).kept g11 (fun e => by have := Option.some.inj e; omega)
        have H11 := Lib.hid N11
        have HS11 := Lib.hid hs11
        have HV11 := Lib.hid V11
        clear N10 N10d hc11 g11 N11 hs10 hs10d hs11 V11 hc8 b9 hb9 bd
        simp only [Int.natCast_add, Int.natCast_one] at f3 hmu
        go_still_tail 9, (by kernel_rfl)
        change wpList _ _ _ _ _ W10.drew
        clear f0 f1 f2 f3
        generalize W10.drew = W10d at *
        go_wp2_with fail
        go_ret
        have hgl : G[G.length - 1]? = some g := by rw [HN.out]; exact HGN.out
        have hSV : SV W11 s m lo (addG G L' u.data.toList) := SK.build HNE.out HSK.out hgl H11.out.old (by rw [HLEN.out]; exact HS11.out) l3 (by rw [cnt_add hgl]; exact HV11.out) (H11.out.gen (fun x => by rw [came_add _ _ _ HNE.out, HN.out, HLEN.out]) x4 l1 l2)
        obtain ⟨hFS, hBL⟩ := H11.out.fs (lo := lo) x1 x2 x3
        exact ⟨by first | rfl | (rw [HEE.out]; rfl), by first | exact hSV | (rw [if_pos HEE.out]; exact hSV), hFS, hBL⟩
      | false =>
        go_upto_region 15 with (first
          | (go_at_call 61; refine HGET.out.mono ?_; rintro e w9 ⟨rfl, hb9⟩))
        have b9 : Below W8.heap.size W8 (w9.alloc (.cells #[.string A1, .string A2, .int .i64 DD.ver] 53)) := hb9.alloc hb9.size _
        generalize w9.alloc (.cells #[.string A1, .string A2, .int .i64 DD.ver] 53) = W10 at *
        have N10 := HN8.out.kept (row := none) (gb_below b9) (.inl rfl) x3 x4 l3 hd2 l1 l2
        obtain ⟨f0, f1⟩ := N10.cells
        have hs10 := (b9.block s (Array.getElem?_eq_some_iff.1 HS8.out).1).trans HS8.out
        obtain ⟨W11, hdl, hc11, g11⟩ := N10.cm.del u (by unfold maxLen; omega) HONE.out (by have := HOK.out; simpa using this) (n + 1)
        have N11 := N10.came g11 hc11 n3 n4 (fun e => n1 e.symm) l2
        have hs11 := (g11.block s (Array.getElem?_eq_some_iff.1 hs10).1 (fun e => by have := Option.some.inj e; omega)).trans hs10
        have V11 := (HV8.out.kept (row := none) (gb_below b9) (by simp)).kept g11 (fun e => by have := Option.some.inj e; omega)
        have H11 := Lib.hid N11
        have HS11 := Lib.hid hs11
        have HV11 := Lib.hid V11
        clear N10 hc11 g11 N11 hs10 hs11 V11 hc8 b9 hb9
        go_wp2_with fail
        go_ret
        have hgl : G[G.length - 1]? = some g := by rw [HN.out]; exact HGN.out
        have hSV : SV W11 s m lo (addG G L' u.data.toList) := SK.build HNE.out HSK.out hgl H11.out.old (by rw [HLEN.out]; exact HS11.out) l3 (by rw [cnt_add hgl]; exact HV11.out) (H11.out.gen (fun x => by rw [came_add _ _ _ HNE.out, HN.out, HLEN.out]) x4 l1 l2)
        obtain ⟨hFS, hBL⟩ := H11.out.fs (lo := lo) x1 x2 x3
        exact ⟨by first | rfl | (rw [HEE.out]; rfl), by first | exact hSV | (rw [if_pos HEE.out]; exact hSV), hFS, hBL⟩
  · have hEb : (E != 0) = true := bne_iff_ne.2 hE
    have HE0 := Lib.hid hE
    clear hE
    go_wp2_with (first
      | (go_at_call 55; refine (HDO.out _ _ _ hbx hdv2 l1).mono ?_; rintro e w5 ⟨rfl, hdv5, hg5⟩))
    go_ret
    have hb5 := hbx.trans (below_gb l1 hbx.size hg5)
    have hlo := HLS.out.1
    exact ⟨rfl, by first | exact HSV.out.below hb5 | (rw [if_neg HE0.out]; exact HSV.out.below hb5), FsK.below hb5, hb5.mono (by have := HLS.out.2.2.1; omega)⟩
end Go.Proofs.Dc
