/- DocsKnown's walk. -/
import Derived.Test.YtcenfckjkboabaaDoorD261
import Derived.Deep.CutBlock
import Derived.Deep.DeepCutAuto
namespace Go.Proofs.Dc
open Go.RowKit Go.Proofs Go.Lib Go.Maps

set_option maxRecDepth 100000 in
set_option maxHeartbeats 8000000 in
theorem known_walk (w : World) (hT : Tabs w) : Calls Tryd.prog 6 #[] w fun e w' => e = .returned (.bool true) ∧ Below w.heap.size w w' := by
  have hw := works_any
  have r9 := r9_region w hT
  have hop := opened_any w hT
  have hu := uri_any
  have hlo := hT.lo
  have hX : uriB.size ≤ maxLen := by decide
  have e1 := fun w1 h => lawdir_any uriB ⟨#[103, 101, 111]⟩ true w1 h (by decide) (by rw [show uriB.data.toList = uriL from rfl, d1]; rfl)
  have e2 := fun w1 h => lawdir_any ⟨#[102, 105, 108, 101, 58, 47, 47, 47, 102, 111, 114, 47, 97, 46, 103, 111]⟩ ⟨#[]⟩ false w1 h (by decide) (by show dirVal (dirV [102, 105, 108, 101, 58, 47, 47, 47, 102, 111, 114, 47, 97, 46, 103, 111]) = _; rw [d2]; rfl)
  have e3 := fun w1 h => lawdir_any ⟨#[102, 105, 108, 101, 58, 47, 47, 47, 103, 101, 111, 47, 97]⟩ ⟨#[]⟩ false w1 h (by decide) (by show dirVal (dirV [102, 105, 108, 101, 58, 47, 47, 47, 103, 101, 111, 47, 97]) = _; rw [d3]; rfl)
  have e4 := fun w1 h => lawdir_any ⟨#[102, 105, 108, 101, 58, 47, 47, 47, 103, 101, 111, 47, 95, 46, 103, 111]⟩ ⟨#[]⟩ false w1 h (by decide) (by show dirVal (dirV [102, 105, 108, 101, 58, 47, 47, 47, 103, 101, 111, 47, 95, 46, 103, 111]) = _; rw [d4]; rfl)
  have e5 := fun w1 h => lawdir_any ⟨#[102, 105, 108, 101, 58, 47, 47, 103, 101, 111, 47, 97, 46, 103, 111]⟩ ⟨#[]⟩ false w1 h (by decide) (by show dirVal (dirV [102, 105, 108, 101, 58, 47, 47, 103, 101, 111, 47, 97, 46, 103, 111]) = _; rw [d5]; rfl)
  have e6 := fun w1 h => lawdir_any ⟨#[102, 105, 108, 101, 58, 47, 47, 47, 103, 101, 111, 47, 102, 111, 114, 46, 103, 111]⟩ ⟨#[103, 101, 111]⟩ true w1 h (by decide) (by show dirVal (dirV [102, 105, 108, 101, 58, 47, 47, 47, 103, 101, 111, 47, 102, 111, 114, 46, 103, 111]) = _; rw [d6]; rfl)
  have o1 := fun w1 b M h1 h2 h3 => open_any w1 h1 b M [xyD] h2 h3 bB ⟨#[]⟩ 1 (by decide) (by decide) (by decide)
  simp only [show bB.data.toList = bL from rfl, k1.1, k1.2] at o1
  have o2 := fun w1 b M h1 h2 h3 => open_any w1 h1 b M [xyD] h2 h3 bgB ⟨#[255]⟩ 1 (by decide) (by decide) (by decide)
  simp only [show bgB.data.toList = bgL from rfl, k2.1, k2.2] at o2
  have o3 := fun w1 b M h1 h2 h3 => open_any w1 h1 b M [xyD] h2 h3 bgB (zerosB 65537) 1 (by decide) (by rw [zeros_size]; decide) (by decide)
  simp only [show bgB.data.toList = bgL from rfl, k3.1, k3.2] at o3
  have c1 := fun w1 b M h1 h2 h3 p c h4 => change_any w1 h1 b M [xyD] h2 h3 uriB 6 p 2 c [cutC 1 2 ⟨#[122]⟩, cutC 0 0 ⟨#[119]⟩] (by decide) rfl (by decide) h4 (by decide) (by decide) (by decide)
  simp only [show uriB.data.toList = uriL from rfl, chg1, chg1L] at c1
  have t1 := fun w => chgs_two w (cutC 1 2 ⟨#[122]⟩) (cutC 0 0 ⟨#[119]⟩) (by decide) (by decide)
  have c4 := fun w1 b M h1 h2 h3 => change_any w1 h1 b M [wxzD] h2 h3 uriB 6 none 0 0 [] (by decide) rfl (by decide) (chgs_nil w1) (by decide) (by decide) (fun x hx => by cases hx)
  simp only [show uriB.data.toList = uriL from rfl, k4.1, k4.2] at c4
  have c5 := fun w1 b M h1 h2 h3 p c h4 => change_any w1 h1 b M [wxzD] h2 h3 uriB 7 p 1 c [cutC 1 0 ⟨#[]⟩] (by decide) rfl (by decide) h4 (by decide) (by decide) (by decide)
  simp only [show uriB.data.toList = uriL from rfl, k5.1, k5.2] at c5
  have t5 := fun w => chgs_one w (cutC 1 0 ⟨#[]⟩) (by decide)
  have c6 := fun w1 b M h1 h2 h3 p c h4 => change_any w1 h1 b M [wxzD] h2 h3 uriB 7 p 1 c [badC] (by decide) rfl (by decide) h4 (by decide) (by decide) (by decide)
  simp only [show uriB.data.toList = uriL from rfl, k6.1, k6.2] at c6
  have t6 := fun w => chgs_one w badC (by decide)
  have c7 := fun w1 b M h1 h2 h3 => change_any w1 h1 b M [wxzD] h2 h3 bgB 1 none 0 0 [] (by decide) rfl (by decide) (chgs_nil w1) (by decide) (by decide) (fun x hx => by cases hx)
  simp only [show bgB.data.toList = bgL from rfl, k7.1, k7.2] at c7
  have i6 := fun w b M h => isdoc_any w b M [wxzD] h ⟨#[119, 120, 122]⟩ 6 get_wxz
  obtain ⟨ob1, m1, v1⟩ := zeros_made 65537 (by decide)
  unfold bB at o1
  unfold bgB at o2 o3 c7
  unfold cutC at t1 t5 c1 c5
  unfold badC at t6 c6

  simp only at t1 t5 t6
  generalize uriB = X at *
  generalize [xyD] = L1 at *
  generalize [wxzD] = L2 at *

  generalize zerosB 65537 = Z1 at *
  simp only [show ((65537 : Nat) : Int) = 65537 from rfl] at m1
  go_enter Tryd.func6, Tryd.ntmps6
  go_upto_region 2 with (go_at_call 21; refine hop.mono ?_; rintro e w1 ⟨b, M, rfl, hd, B, hbb, hMM⟩)
  go_cut [39] (fun v wx => v = .bool false ∧ DV wx b M L1 ∧ Below w.heap.size w wx)
  case first =>
    as_aux_lemma =>
      go_wp2_with (first
        | (have GU := s7; clear GU; go_at_call 22; refine (e6 _ (hT.below B)).mono ?_; rintro e w8 ⟨rfl, hb⟩; replace hd := hd.below hb; replace B := B.trans (hb.mono B.size); clear hb; have s8 := True.intro)
        | (have GU := s6; clear GU; go_at_call 22; refine (e5 _ (hT.below B)).mono ?_; rintro e w7 ⟨rfl, hb⟩; replace hd := hd.below hb; replace B := B.trans (hb.mono B.size); clear hb; have s7 := True.intro)
        | (have GU := s5; clear GU; go_at_call 22; refine (e4 _ (hT.below B)).mono ?_; rintro e w6 ⟨rfl, hb⟩; replace hd := hd.below hb; replace B := B.trans (hb.mono B.size); clear hb; have s6 := True.intro)
        | (have GU := s4; clear GU; go_at_call 22; refine (e3 _ (hT.below B)).mono ?_; rintro e w5 ⟨rfl, hb⟩; replace hd := hd.below hb; replace B := B.trans (hb.mono B.size); clear hb; have s5 := True.intro)
        | (have GU := s3; clear GU; go_at_call 22; refine (e2 _ (hT.below B)).mono ?_; rintro e w4 ⟨rfl, hb⟩; replace hd := hd.below hb; replace B := B.trans (hb.mono B.size); clear hb; have s4 := True.intro)
        | (have GU := s2; clear GU; go_at_call 22; refine (e1 _ (hT.below B)).mono ?_; rintro e w3 ⟨rfl, hb⟩; replace hd := hd.below hb; replace B := B.trans (hb.mono B.size); clear hb; have s3 := True.intro)
        | (have GU := s1; clear GU; go_at_call 14; refine (hu _).mono ?_; rintro e w2 ⟨rfl, hww⟩; subst hww; have s2 := True.intro)
        | (go_at_call 7; refine (hw _ (hT.below B)).mono ?_; rintro e w1 ⟨rfl, hb⟩; replace hd := hd.below hb; replace B := B.trans (hb.mono B.size); clear hb; have s1 := True.intro))
      go_meet
      exact ⟨rfl, hd, B⟩
  case rest =>
  obtain ⟨rfl, hd, B⟩ := hcut
  go_upto_region 4 with (fail)
  go_cut [54] (fun v wx => v = .bool false ∧ DV wx b M L1 ∧ Below w.heap.size w wx)
  case first =>
    as_aux_lemma =>
      go_wp2_with (first
        | (have GU := s2; clear GU; go_at_call 13; refine (o3 _ b M (hT.below (B.trans ((Below.refl _ _).alloc B.size _))) (hd.below ((Below.refl _ _).alloc (Nat.le_refl _) _)) (by omega)).mono ?_; rintro e w3 ⟨rfl, hd2, hg⟩; replace B := below_ag B hMM hg; replace hd := hd2; clear hg hd2; have s3 := True.intro)
        | (have GU := s1; clear GU; go_at_call 13; refine (o2 _ b M (hT.below B) hd (by omega)).mono ?_; rintro e w2 ⟨rfl, hd2, hg⟩; replace B := below_g B hMM hg; replace hd := hd2; clear hg hd2; have s2 := True.intro)
        | (go_at_call 13; refine (o1 _ b M (hT.below B) hd (by omega)).mono ?_; rintro e w1 ⟨rfl, hd2, hg⟩; replace B := below_g B hMM hg; replace hd := hd2; clear hg hd2; have s1 := True.intro))
      go_meet
      exact ⟨rfl, hd, B⟩
  case rest =>
  obtain ⟨rfl, hd, B⟩ := hcut
  go_upto_region 7 with (first
    | (have GU := s3; clear GU; go_at_call 15; refine (c1 _ b M (hT.below (B.trans ((Below.refl _ _).alloc B.size _))) (hd.below ((Below.refl _ _).alloc (Nat.le_refl _) _)) (by omega) _ _ (t1 _)).mono ?_; rintro e w4 ⟨rfl, hd2, hg⟩; replace B := below_ag B hMM hg; replace hd := hd2; clear hg hd2; have s4 := True.intro)
      | (have GU := s2; clear GU; go_at_call 23; refine (lawcut_any _ _ _ _).mono ?_; rintro e w3 ⟨rfl, hb⟩; replace hd := hd.below hb; replace B := B.trans (hb.mono B.size); clear hb; have s3 := True.intro)
      | (have GU := s1; clear GU; go_at_call 23; refine (lawcut_any _ _ _ _).mono ?_; rintro e w2 ⟨rfl, hb⟩; replace hd := hd.below hb; replace B := B.trans (hb.mono B.size); clear hb; have s2 := True.intro)
      | (go_at_call 14; refine (hu _).mono ?_; rintro e w1 ⟨rfl, hww⟩; subst hww; have s1 := True.intro))
  clear s1 s2 s3 s4
  go_cut [90] (fun v wx => v = .bool false ∧ DV wx b M L2 ∧ Below w.heap.size w wx)
  case first =>
    go_wp2_with (first
      | (have GU := s8; clear GU; go_at_call 24; refine (i6 _ b M hd).mono ?_; rintro e w9 ⟨rfl, hb⟩; replace hd := hd.below hb; replace B := B.trans (hb.mono B.size); clear hb; have s9 := True.intro)
      | (have GU := s7; clear GU; go_at_call 15; refine (c7 _ b M (hT.below B) hd (by omega)).mono ?_; rintro e w8 ⟨rfl, hd2, hg⟩; replace B := below_g B hMM hg; replace hd := hd2; clear hg hd2; have s8 := True.intro)
      | (have GU := s6; clear GU; go_at_call 15; refine (c6 _ b M (hT.below (B.trans ((Below.refl _ _).alloc B.size _))) (hd.below ((Below.refl _ _).alloc (Nat.le_refl _) _)) (by omega) _ _ (t6 _)).mono ?_; rintro e w7 ⟨rfl, hd2, hg⟩; replace B := below_ag B hMM hg; replace hd := hd2; clear hg hd2; have s7 := True.intro)
      | (have GU := s5; clear GU; go_at_call 14; refine (hu _).mono ?_; rintro e w6 ⟨rfl, hww⟩; subst hww; have s6 := True.intro)
      | (have GU := s4; clear GU; go_at_call 15; refine (c5 _ b M (hT.below (B.trans ((Below.refl _ _).alloc B.size _))) (hd.below ((Below.refl _ _).alloc (Nat.le_refl _) _)) (by omega) _ _ (t5 _)).mono ?_; rintro e w5 ⟨rfl, hd2, hg⟩; replace B := below_ag B hMM hg; replace hd := hd2; clear hg hd2; have s5 := True.intro)
      | (have GU := s3; clear GU; go_at_call 23; refine (lawcut_any _ _ _ _).mono ?_; rintro e w4 ⟨rfl, hb⟩; replace hd := hd.below hb; replace B := B.trans (hb.mono B.size); clear hb; have s4 := True.intro)
      | (have GU := s2; clear GU; go_at_call 14; refine (hu _).mono ?_; rintro e w3 ⟨rfl, hww⟩; subst hww; have s3 := True.intro)
      | (have GU := s1; clear GU; go_at_call 15; refine (c4 _ b M (hT.below B) hd (by omega)).mono ?_; rintro e w2 ⟨rfl, hd2, hg⟩; replace B := below_g B hMM hg; replace hd := hd2; clear hg hd2; have s2 := True.intro)
      | (go_at_call 14; refine (hu _).mono ?_; rintro e w1 ⟨rfl, hww⟩; subst hww; have s1 := True.intro))
    go_meet
    exact ⟨rfl, hd, B⟩
  case rest =>
  obtain ⟨rfl, hd, B⟩ := hcut
  go_upto_region 9 with (fail)
  go_cut [133] (fun v wx => v = .bool false ∧ Below w.heap.size w wx)
  case first =>
    refine Code.wp_mono ?_ (r9 b M hMM wc hd B _ _ _ _ _ _ _ _ _ _ _ _ _ _ _ _ _ _ _ _ _ _ _ _ _ _ _ _ _ _ _ _ _ _ _ _ _ _ _ _ _ _ _ _ _ _ _ _ _ _ _ _ _ _ _ _ _ _ _ _ _ _ _ _ _ _ _ _ _ _ _ _ _ _ _ _ _ _ _ _ _ _ _ _ _ _ _ _ _ _ _ _ _ _ _ _ _ _ _ _ _ _ _ _ _ _ _ _ _ _ _ _ _ _ _ _ _ _ _ _ _ _ _ _ _ _ _ _ _ _ _ _ _ _ _ _ _ _ _ _ _ _ _ _ _ _ _ _ _ _ _ _ _ _ _ _ _ _ _ _ _ _ _ _ _ _ _ _ _ _ _ _ _ _ _ _ _ _ _ _ _ _ _ _ _ _ _ _ _ _ _ _ _ _ _ _ _ _ _ _)
    intro e a' w' h
    cases e with
    | normal =>
      obtain ⟨hB, v91, v92, v93, v94, v95, v96, v97, v98, v99, v100, v101, v102, v103, v104, v105, v106, v107, v108, v109, v110, v111, v112, v113, v114, v115, v116, v117, v118, v119, v120, v121, v122, v123, v124, v125, v126, v127, v128, v129, v130, v131, v132, rfl⟩ := h
      dsimp only
      go_wp2_with fail
      go_meet
      exact ⟨rfl, hB⟩
    | exit _ => exact h.elim
    | goto _ => exact h.elim
    | ret => exact h.elim
    | panic _ => exact h.elim
    | outgrown => exact h.elim
  case rest =>
  obtain ⟨rfl, B⟩ := hcut
  clear hd
  go_upto_region 13 with (fail)
  obtain ⟨zb, hzb⟩ : ∃ zb, wc.heap.size = zb := ⟨_, rfl⟩
  have hz : NoneV (wc.alloc (.cells #[.map none] 59)) (some ⟨zb, 0, none⟩) := .inr ⟨zb, rfl, by rw [← hzb]; exact World.alloc_heap_new wc _⟩
  have B2 : Below w.heap.size w (wc.alloc (.cells #[.map none] 59)) := B.trans ((Below.refl _ _).alloc B.size _)
  clear B
  generalize wc.alloc (.cells #[.map none] 59) = W3 at *
  rw [hzb]
  have gn : ∀ (w1 : World) (p : Option Addr), NoneV w1 p → Calls Tryd.prog 16 #[.pointer p, .string X] w1 fun e w' => e = .returned (.tuple #[.agg #[.string ⟨#[]⟩, .string ⟨#[]⟩, .int .i64 0], .bool false]) ∧ Below w1.heap.size w1 w' := fun w1 p h => get_none w1 p h X
  have hn : ∀ W, NoneV W none := fun W => .inl rfl
  go_wp2_with (first
    | (have GU := s16; clear GU; go_at_call 7; refine (hw _ (hT.below (B2.trans ((Below.refl _ _).alloc B2.size _)))).mono ?_; rintro e w17 ⟨rfl, hb⟩; have B3 := below_al B2 hb; have s17 := True.intro)
    | (have GU := s15; clear GU; go_at_call 20; refine (all_none _ _ (hz.below ((Below.refl _ _).alloc (Nat.le_refl _) _))).mono ?_; rintro e w16 ⟨rfl, hww⟩; subst hww; have s16 := True.intro)
    | (have GU := s14; clear GU; go_at_call 20; refine (all_none _ none (hn _)).mono ?_; rintro e w15 ⟨rfl, hww⟩; subst hww; have s15 := True.intro)
    | (have GU := s13; clear GU; go_at_call 25; refine (copy_none _ _ (hz.below ((Below.refl _ _).alloc (Nat.le_refl _) _))).mono ?_; rintro e w14 ⟨rfl, hww⟩; subst hww; have s14 := True.intro)
    | (have GU := s12; clear GU; go_at_call 25; refine (copy_none _ none (hn _)).mono ?_; rintro e w13 ⟨rfl, hww⟩; subst hww; have s13 := True.intro)
    | (have GU := s11; clear GU; go_at_call 19; refine (close_none _ _ (hz.below ((Below.refl _ _).alloc (Nat.le_refl _) _)) _).mono ?_; rintro e w12 ⟨rfl, hww⟩; subst hww; have s12 := True.intro)
    | (have GU := s10; clear GU; go_at_call 14; refine (hu _).mono ?_; rintro e w11 ⟨rfl, hww⟩; subst hww; have s11 := True.intro)
    | (have GU := s9; clear GU; go_at_call 15; refine (change_none _ none (hn _) _ _ _).mono ?_; rintro e w10 ⟨rfl, hww⟩; subst hww; have s10 := True.intro)
    | (have GU := s8; clear GU; go_at_call 14; refine (hu _).mono ?_; rintro e w9 ⟨rfl, hww⟩; subst hww; have s9 := True.intro)
    | (have GU := s7; clear GU; go_at_call 13; refine (open_none _ _ (hz.below ((Below.refl _ _).alloc (Nat.le_refl _) _)) _ _ _).mono ?_; rintro e w8 ⟨rfl, hww⟩; subst hww; have s8 := True.intro)
    | (have GU := s6; clear GU; go_at_call 14; refine (hu _).mono ?_; rintro e w7 ⟨rfl, hww⟩; subst hww; have s7 := True.intro)
    | (have GU := s5; clear GU; go_at_call 13; refine (open_none _ none (hn _) _ _ _).mono ?_; rintro e w6 ⟨rfl, hww⟩; subst hww; have s6 := True.intro)
    | (have GU := s4; clear GU; go_at_call 14; refine (hu _).mono ?_; rintro e w5 ⟨rfl, hww⟩; subst hww; have s5 := True.intro)
    | (have GU := s3; clear GU; go_at_call 16; refine (gn _ _ (hz.below ((Below.refl _ _).alloc (Nat.le_refl _) _))).mono ?_; rintro e w4 ⟨rfl, hb⟩; replace hz := (hz.below ((Below.refl _ _).alloc (Nat.le_refl _) _)).below hb; replace B2 := below_al B2 hb; clear hb; have s4 := True.intro)
    | (have GU := s2; clear GU; go_at_call 14; refine (hu _).mono ?_; rintro e w3 ⟨rfl, hww⟩; subst hww; have s3 := True.intro)
    | (have GU := s1; clear GU; go_at_call 16; refine (gn _ none (hn _)).mono ?_; rintro e w2 ⟨rfl, hb⟩; replace hz := hz.below hb; replace B2 := B2.trans (hb.mono B2.size); clear hb; have s2 := True.intro)
    | (go_at_call 14; refine (hu _).mono ?_; rintro e w1 ⟨rfl, hww⟩; subst hww; have s1 := True.intro))
  go_ret
  exact ⟨rfl, B3⟩
end Go.Proofs.Dc
