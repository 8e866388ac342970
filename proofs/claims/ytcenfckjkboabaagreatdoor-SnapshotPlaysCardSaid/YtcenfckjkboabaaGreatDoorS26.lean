/- The law's alike: both tell the same of all generations. -/
import Derived.Test.YtcenfckjkboabaaGreatDoorS25
namespace Go.Proofs.Dc
open Go.RowKit Go.Proofs Go.Lib Go.Maps

theorem of_uni {w : World} {s m lo : Nat} {G : List Gen} (h : SV w s m lo G) (hO : ∀ g ∈ G, Inv g.docs) (i : Int) (hi : wfI i) (R : Option (List Doc)) (hR : ofV (kept G) G i = R) :
    Calls Tryz.prog 23 #[.pointer (some ⟨s, 0, none⟩), .int .i64 i] w fun e w' => ∃ p c, e = .returned (.tuple #[.slice p (R.getD []).length c, .bool R.isSome]) ∧ w'.ownsRow w.heap.size 53 3 (.slice p (R.getD []).length c) (R.getD []).length (docCells (R.getD [])) ∧ Below w.heap.size w w' :=
  (sof_any h hO i hi).mono fun e w' ⟨hb, hr⟩ => by
    rw [hR] at hr
    rcases hr with ⟨h1, h2⟩ | ⟨L, v, h1, h2, h3⟩
    · subst h1
      exact ⟨none, 0, h2, World.ownsRow_nil _ _ _ _, hb⟩
    · subst h1
      obtain ⟨p, c, rfl⟩ := own_shape h3
      exact ⟨p, c, h2, h3, hb⟩
theorem kept_of {G : List Gen} {i : Int} (h : 0 ≤ i ∧ kept G i.toNat = true) : ∃ n x, i = (n : Nat) ∧ G[n]? = some x ∧ kept G n = true ∧ ofV (kept G) G i = some x.docs := by
  obtain ⟨h0, hk⟩ := h
  obtain ⟨n, rfl⟩ : ∃ n : Nat, i = n := ⟨i.toNat, by omega⟩
  rw [Int.toNat_natCast] at hk
  cases hx : G[n]? with
  | none =>
    unfold kept at hk
    rw [hx] at hk
    cases hk
  | some x =>
    refine ⟨n, x, rfl, hx, hk, ?_⟩
    unfold ofV
    rw [if_pos ⟨h0, by rw [Int.toNat_natCast]; exact hk⟩, Int.toNat_natCast, hx]
    rfl
theorem not_kept_of {G : List Gen} {i : Int} (h : ¬ (0 ≤ i ∧ kept G i.toNat = true)) : ofV (kept G) G i = none := if_neg h
theorem rof_uni {w : World} {r lo : Nat} {v : Value} {Bs : List Nat} {G : List Gen} (h : AV w r lo v Bs G) (hne : G ≠ []) (hl : G.length ≤ 1000) (i : Int) (R : Option (List Doc)) (hR : ofV (kept G) G i = R) :
    Calls Tryz.prog 75 #[.pointer (some ⟨r, 0, none⟩), .int .i64 i] w fun e w' => ∃ p c, e = .returned (.tuple #[.slice p (R.getD []).length c, .bool R.isSome]) ∧ SliceD w (.slice p (R.getD []).length c) (R.getD []) ∧ w = w' := by
  by_cases hk : 0 ≤ i ∧ kept G i.toNat = true
  · obtain ⟨n, x, rfl, hx, hkn, ho⟩ := kept_of hk
    rw [ho] at hR
    subst hR
    exact (rof_yes h hl n x hx hkn).mono fun e w' ⟨u, h1, h2, h3⟩ => by
      obtain ⟨p, c, rfl, h4⟩ := h2
      exact ⟨p, c, h1, ⟨p, c, rfl, h4⟩, h3⟩
  · rw [not_kept_of hk] at hR
    subst hR
    exact (rof_no h hne hl i hk).mono fun e w' ⟨h1, h2⟩ => ⟨none, 0, h1, ⟨none, 0, rfl, Nat.le_refl _, fun q d hd => by cases hd⟩, h2⟩
theorem rcame_uni {w : World} {r lo : Nat} {v : Value} {Bs : List Nat} {G : List Gen} (h : AV w r lo v Bs G) (hne : G ≠ []) (hl : G.length ≤ 1000) (hO : ∀ g ∈ G, Inv g.docs) (hCI : CI G) (i : Int) (u : ByteArray) :
    Calls Tryz.prog 76 #[.pointer (some ⟨r, 0, none⟩), .int .i64 i, .string u] w fun e w' => e = .returned (.tuple #[.int .i64 (((cameV (kept G) G i u.data.toList).getD 0 : Nat) : Int), .bool (cameV (kept G) G i u.data.toList).isSome]) ∧ Below w.heap.size w w' := by
  by_cases hk : 0 ≤ i ∧ kept G i.toNat = true
  · obtain ⟨n, x, rfl, hx, hkn, ho⟩ := kept_of hk
    refine (rcame_yes h hl n x hx hkn (by have := (hO x (List.mem_of_getElem? hx)).len; omega) u (fun hs => (hCI n x hx _ hs).1)).mono fun e w' ⟨h1, h2⟩ => ⟨?_, h2⟩
    rw [h1]
    unfold cameV
    rw [ho]
    simp only [Int.toNat_natCast]
    split <;> rfl
  · refine (rcame_no h hne hl i hk u).mono fun e w' ⟨h1, h2⟩ => ⟨?_, by rw [← h2]; exact Below.refl _ _⟩
    rw [h1]
    unfold cameV
    rw [not_kept_of hk]
    rfl
set_option maxRecDepth 100000 in
set_option maxHeartbeats 8000000 in
theorem ralike_any {w : World} {s m r lo : Nat} {G : List Gen} (h : PV w s m r lo G) {N : Nat} (hG : GI G N) (hN : N ≤ 900) (hCI : CI G) (u : ByteArray) (hu : u.size ≤ 1000000) (n : Int) (hn : wfI n) :
    Calls Tryz.prog 28 #[.pointer (some ⟨s, 0, none⟩), .pointer (some ⟨r, 0, none⟩), .string u, .int .i64 n] w fun e w' => e = .returned (.bool true) ∧ Below w.heap.size w w' := by
  obtain ⟨hsv, v, Bs, hav⟩ := h
  have hne := hG.ne
  have hl := hG.len
  have hinv := hG.inv
  have hnw := fun w1 (hb : Below w.heap.size w w1) => snow_any (hsv.below hb)
  have hrn := fun w1 (hb : Below w.heap.size w w1) => rnow_any (hav.below hb) hne (by omega)
  have hkp := skept_any hsv
  have hrk := rkept_any hav hne (by omega)
  have hlen : ∀ R, ofV (kept G) G R = ofV (kept G) G R := fun _ => rfl
  have HOF : Hid (∀ w1, Below w.heap.size w w1 → ∀ i, wfI i → ∀ R, ofV (kept G) G i = R → Calls Tryz.prog 23 #[.pointer (some ⟨s, 0, none⟩), .int .i64 i] w1 fun e w' => ∃ p c, e = .returned (.tuple #[.slice p (R.getD []).length c, .bool R.isSome]) ∧ w'.ownsRow w1.heap.size 53 3 (.slice p (R.getD []).length c) (R.getD []).length (docCells (R.getD [])) ∧ Below w1.heap.size w1 w') := Lib.hid fun w1 hb i hi R hR => of_uni (hsv.below hb) hinv i hi R hR
  have HROF : Hid (∀ w1, Below w.heap.size w w1 → ∀ i R, ofV (kept G) G i = R → Calls Tryz.prog 75 #[.pointer (some ⟨r, 0, none⟩), .int .i64 i] w1 fun e w' => ∃ p c, e = .returned (.tuple #[.slice p (R.getD []).length c, .bool R.isSome]) ∧ SliceD w1 (.slice p (R.getD []).length c) (R.getD []) ∧ w1 = w') := Lib.hid fun w1 hb i R hR => rof_uni (hav.below hb) hne (by omega) i R hR
  have HCM : Hid (∀ w1, Below w.heap.size w w1 → ∀ i, wfI i → Calls Tryz.prog 25 #[.pointer (some ⟨s, 0, none⟩), .int .i64 i, .string u] w1 fun e w' => w1 = w' ∧ e = .returned (.tuple #[.int .i64 (((cameV (kept G) G i u.data.toList).getD 0 : Nat) : Int), .bool (cameV (kept G) G i u.data.toList).isSome])) := Lib.hid fun w1 hb i hi => by
    obtain ⟨_, _, _, k⟩ := hsv.below hb
    exact came_any k i hi u (by unfold maxLen; omega)
  have HRCM : Hid (∀ w1, Below w.heap.size w w1 → ∀ i, Calls Tryz.prog 76 #[.pointer (some ⟨r, 0, none⟩), .int .i64 i, .string u] w1 fun e w' => e = .returned (.tuple #[.int .i64 (((cameV (kept G) G i u.data.toList).getD 0 : Nat) : Int), .bool (cameV (kept G) G i u.data.toList).isSome]) ∧ Below w1.heap.size w1 w') := Lib.hid fun w1 hb i => rcame_uni (hav.below hb) hne (by omega) hinv hCI i u
  have HLN : Hid (∀ i R, ofV (kept G) G i = some R → R.length ≤ 32) := Lib.hid fun i R hR => by
    by_cases hk : 0 ≤ i ∧ kept G i.toNat = true
    · obtain ⟨n, x, rfl, hx, hkn, ho⟩ := kept_of hk
      rw [ho] at hR
      obtain rfl := Option.some.inj hR
      exact (hinv x (List.mem_of_getElem? hx)).len
    · rw [not_kept_of hk] at hR; cases hR
  obtain ⟨N1, hN1⟩ : ∃ n, G.length - 1 = n := ⟨_, rfl⟩
  have hN1l : N1 ≤ 1000 := by omega
  rw [hN1] at hnw hrn
  obtain ⟨C, hC⟩ : ∃ c, cnt (kept G) G.length = c := ⟨_, rfl⟩
  rw [hC] at hkp hrk
  have hNN : ((N1 : Int) == (N1 : Int)) = true := by simp
  have hCC : ((C : Int) == (C : Int)) = true := by simp
  have HNW := Lib.hid hnw
  have HRN := Lib.hid hrn
  have B0 := Below.refl w.heap.size w
  clear hsv hav hG hCI hne hl hinv hnw hrn hlen hN1 hC
  go_enter Tryz.func28, Tryz.ntmps28
  go_wp2_with (first
    | (go_at_call 24; refine (HNW.out _ B0).mono ?_; rintro e wu ⟨rfl, hw⟩; subst wu)
    | (go_at_call 73; refine (HRN.out _ B0).mono ?_; rintro e wu ⟨rfl, hw⟩; subst wu)
    | (go_at_call 29; refine hkp.mono ?_; rintro e wu ⟨rfl, hw⟩; subst wu)
    | (go_at_call 74; refine hrk.mono ?_; rintro e wu ⟨rfl, hw⟩; subst wu))
  clear hkp hrk hCC
  go_loopw [9] (fun iv wr => ∃ z : Int, iv = .int .i64 z ∧ -1 ≤ z ∧ z ≤ (N1 : Int) + 2 ∧ Below w.heap.size w wr) (fun iv _ => ((N1 : Int) + 2 - RowKit.intOf iv).toNat)
  case atStart => exact ⟨-1, rfl, by omega, by omega, B0⟩
  case round =>
    obtain ⟨z, rfl, hz1, hz2, hB⟩ := hrel
    clear B0
    by_cases hz : z ≤ (N1 : Int) + 1
    · by_cases h0 : z < 0
      · obtain ⟨wo, rfl⟩ : ∃ wo : World, wo = wr := ⟨_, rfl⟩
        obtain ⟨R, hR⟩ : ∃ R, ofV (kept G) G n = R := ⟨_, rfl⟩
        have hRl : (R.getD []).length ≤ 32 := by
          cases R with
          | none => exact Nat.zero_le _
          | some L => exact HLN.out n L hR
        have OF := Lib.hid fun w1 (hb : Below w.heap.size w w1) => HOF.out w1 hb n hn R hR
        have ROF := Lib.hid fun w1 (hb : Below w.heap.size w w1) => HROF.out w1 hb n R hR
        have CM := Lib.hid fun w1 (hb : Below w.heap.size w w1) => HCM.out w1 hb n hn
        have RCM := Lib.hid fun w1 (hb : Below w.heap.size w w1) => HRCM.out w1 hb n
        obtain ⟨CA, hCA⟩ : ∃ c : Nat, (cameV (kept G) G n u.data.toList).getD 0 = c := ⟨_, rfl⟩
        obtain ⟨CB, hCB⟩ : ∃ c, (cameV (kept G) G n u.data.toList).isSome = c := ⟨_, rfl⟩
        obtain ⟨L, hL⟩ : ∃ L, R.getD [] = L := ⟨_, rfl⟩
        obtain ⟨ok, hok⟩ : ∃ b, R.isSome = b := ⟨_, rfl⟩
        rw [hL] at hRl
        rw [hCA, hCB] at CM RCM
        rw [hL, hok] at OF ROF
        have hsame := fun w1 v1 v2 (h1 : SliceD w1 v1 L) (h2 : SliceD w1 v2 L) => same_any w1 v1 v2 L L h1 h2 (by omega) (by omega)
        simp only [decide_true] at hsame
        have HSM := Lib.hid hsame
        have e1 : (ok == ok) = true := by simp
        have e2 : (ok != ok) = false := by simp
        have e3 : ((CA : Int) == (CA : Int)) = true := by simp
        have e4 : ((CA : Int) != (CA : Int)) = false := by simp
        have e5 : (CB == CB) = true := by simp
        have e6 : (CB != CB) = false := by simp
        clear hCA hCB hL hok hR hsame
        go_upto_region 15 with (first
          | (go_at_call 73; refine (HRN.out _ hB).mono ?_; rintro e wu ⟨rfl, hw⟩; subst wu)
          | (go_at_call 23; refine (OF.out _ hB).mono ?_; rintro e w1 ⟨p1, c1, rfl, hrow1, hb1⟩; have B1 := hB.trans (hb1.mono hB.size); have HS1 := Lib.hid (own_slice hrow1); have HR1 := Lib.hid hrow1; clear hrow1)
          | (go_at_call 75; refine (ROF.out _ B1).mono ?_; rintro e wu ⟨p2, c2, rfl, hsl2, hw⟩; subst wu; have HS2 := Lib.hid hsl2; clear hsl2)
          | (go_at_call 25; refine (CM.out _ B1).mono ?_; rintro e wu ⟨hw, rfl⟩; subst wu)
          | (go_at_call 76; refine (RCM.out _ B1).mono ?_; rintro e w3 ⟨rfl, hb3⟩; have B3 := B1.trans (hb3.mono B1.size))
          | (go_at_call 60; refine (HSM.out _ _ _ (HS1.out.below hb3) (HS2.out.below hb3)).mono ?_; rintro e w4 ⟨rfl, hb4⟩; have B4 := B3.trans (hb4.mono B3.size)))
        have hrow4 := own_kept HR1.out (gb_below (row := none) (hb3.trans (hb4.mono hb3.size))) (by
          cases hp : (Value.slice p1 L.length c1).ownBlock with
          | none => exact .inr rfl
          | some k => exact .inl (by simp))
        have HR4 := Lib.hid hrow4
        have hwz := hB.size
        clear hrow4 HR1 HS1 HS2 hb3 hb4 hb1 B1 B3 e1 e2 e3 e4 e5 e6
        go_wp2_with fail
        go_loopw [19] (fun iv wx => ∃ (k : Nat) (cs : List Value), iv = .int .i64 k ∧ k ≤ L.length ∧ wx.ownsRow wo.heap.size 53 3 (.slice p1 L.length c1) L.length cs ∧ Below w.heap.size w wx) (fun iv _ => L.length - (RowKit.intOf iv).toNat)
        case atStart => exact ⟨0, _, rfl, Nat.zero_le _, HR4.out, B4⟩
        case round =>
          obtain ⟨k, cs, rfl, hk, hown, hB5⟩ := hrel
          clear B4
          by_cases hkn : (k : Int) < (L.length : Int)
          · rcases hown.2 with ⟨_, h0⟩ | ⟨g1, cap1, cur, hv1, hbg, hg, _⟩
            · omega
            · obtain ⟨rfl, rfl⟩ : p1 = some ⟨g1, 0, none⟩ ∧ c1 = cap1 := by cases hv1; exact ⟨rfl, rfl⟩
              have hth := own_there (o := k * 3) (m := 3) hown (by omega)
              obtain ⟨cs2, hown2, hg2, _⟩ := own_setCells emptyC (k * 3) _ _ hown
              have hB2 : Below w.heap.size w _ := hB5.grown hg2 hB5.size (fun q hq => by cases hq; omega)
              obtain ⟨W2, hW2⟩ : ∃ W2, wr.setCells g1 (k * 3) emptyC = W2 := ⟨_, rfl⟩
              rw [hW2] at hown2 hB2
              have HO2 := Lib.hid hown2
              have HB2 := Lib.hid hB2
              have HTH := Lib.hid hth
              have HW2 := Lib.hid hW2
              clear hth hown2 hg2 hB2 hW2 hown hg
              go_wp2_with (first
                | (refine wpList_store_to rfl 53 (.tmp 97) (.tmp 96) rfl g1 (k * 3) emptyC rfl rfl HTH.out (by kernel_rfl) empty_one HW2.out ?_))
              go_roundw
              case rel => exact ⟨k + 1, cs2, by go_num, by omega, HO2.out, HB2.out⟩
              case measure => simp [RowKit.intOf]; omega
          · go_wp2_with fail
            go_roundw
            case rel => exact ⟨z + 1, by go_num, by omega, by omega, hB5⟩
            case measure => simp [RowKit.intOf]; omega
      · have hzw : wfI z := wfI_of (by omega) (by omega)
        obtain ⟨wo, rfl⟩ : ∃ wo : World, wo = wr := ⟨_, rfl⟩
        obtain ⟨R, hR⟩ : ∃ R, ofV (kept G) G z = R := ⟨_, rfl⟩
        have hRl : (R.getD []).length ≤ 32 := by
          cases R with
          | none => exact Nat.zero_le _
          | some L => exact HLN.out z L hR
        have OF := Lib.hid fun w1 (hb : Below w.heap.size w w1) => HOF.out w1 hb z hzw R hR
        have ROF := Lib.hid fun w1 (hb : Below w.heap.size w w1) => HROF.out w1 hb z R hR
        have CM := Lib.hid fun w1 (hb : Below w.heap.size w w1) => HCM.out w1 hb z hzw
        have RCM := Lib.hid fun w1 (hb : Below w.heap.size w w1) => HRCM.out w1 hb z
        obtain ⟨CA, hCA⟩ : ∃ c : Nat, (cameV (kept G) G z u.data.toList).getD 0 = c := ⟨_, rfl⟩
        obtain ⟨CB, hCB⟩ : ∃ c, (cameV (kept G) G z u.data.toList).isSome = c := ⟨_, rfl⟩
        obtain ⟨L, hL⟩ : ∃ L, R.getD [] = L := ⟨_, rfl⟩
        obtain ⟨ok, hok⟩ : ∃ b, R.isSome = b := ⟨_, rfl⟩
        rw [hL] at hRl
        rw [hCA, hCB] at CM RCM
        rw [hL, hok] at OF ROF
        have hsame := fun w1 v1 v2 (h1 : SliceD w1 v1 L) (h2 : SliceD w1 v2 L) => same_any w1 v1 v2 L L h1 h2 (by omega) (by omega)
        simp only [decide_true] at hsame
        have HSM := Lib.hid hsame
        have e1 : (ok == ok) = true := by simp
        have e2 : (ok != ok) = false := by simp
        have e3 : ((CA : Int) == (CA : Int)) = true := by simp
        have e4 : ((CA : Int) != (CA : Int)) = false := by simp
        have e5 : (CB == CB) = true := by simp
        have e6 : (CB != CB) = false := by simp
        clear hCA hCB hL hok hR hsame
        go_upto_region 15 with (first
          | (go_at_call 73; refine (HRN.out _ hB).mono ?_; rintro e wu ⟨rfl, hw⟩; subst wu)
          | (go_at_call 23; refine (OF.out _ hB).mono ?_; rintro e w1 ⟨p1, c1, rfl, hrow1, hb1⟩; have B1 := hB.trans (hb1.mono hB.size); have HS1 := Lib.hid (own_slice hrow1); have HR1 := Lib.hid hrow1; clear hrow1)
          | (go_at_call 75; refine (ROF.out _ B1).mono ?_; rintro e wu ⟨p2, c2, rfl, hsl2, hw⟩; subst wu; have HS2 := Lib.hid hsl2; clear hsl2)
          | (go_at_call 25; refine (CM.out _ B1).mono ?_; rintro e wu ⟨hw, rfl⟩; subst wu)
          | (go_at_call 76; refine (RCM.out _ B1).mono ?_; rintro e w3 ⟨rfl, hb3⟩; have B3 := B1.trans (hb3.mono B1.size))
          | (go_at_call 60; refine (HSM.out _ _ _ (HS1.out.below hb3) (HS2.out.below hb3)).mono ?_; rintro e w4 ⟨rfl, hb4⟩; have B4 := B3.trans (hb4.mono B3.size)))
        have hrow4 := own_kept HR1.out (gb_below (row := none) (hb3.trans (hb4.mono hb3.size))) (by
          cases hp : (Value.slice p1 L.length c1).ownBlock with
          | none => exact .inr rfl
          | some k => exact .inl (by simp))
        have HR4 := Lib.hid hrow4
        have hwz := hB.size
        clear hrow4 HR1 HS1 HS2 hb3 hb4 hb1 B1 B3 e1 e2 e3 e4 e5 e6
        go_wp2_with fail
        go_loopw [19] (fun iv wx => ∃ (k : Nat) (cs : List Value), iv = .int .i64 k ∧ k ≤ L.length ∧ wx.ownsRow wo.heap.size 53 3 (.slice p1 L.length c1) L.length cs ∧ Below w.heap.size w wx) (fun iv _ => L.length - (RowKit.intOf iv).toNat)
        case atStart => exact ⟨0, _, rfl, Nat.zero_le _, HR4.out, B4⟩
        case round =>
          obtain ⟨k, cs, rfl, hk, hown, hB5⟩ := hrel
          clear B4
          by_cases hkn : (k : Int) < (L.length : Int)
          · rcases hown.2 with ⟨_, h0⟩ | ⟨g1, cap1, cur, hv1, hbg, hg, _⟩
            · omega
            · obtain ⟨rfl, rfl⟩ : p1 = some ⟨g1, 0, none⟩ ∧ c1 = cap1 := by cases hv1; exact ⟨rfl, rfl⟩
              have hth := own_there (o := k * 3) (m := 3) hown (by omega)
              obtain ⟨cs2, hown2, hg2, _⟩ := own_setCells emptyC (k * 3) _ _ hown
              have hB2 : Below w.heap.size w _ := hB5.grown hg2 hB5.size (fun q hq => by cases hq; omega)
              obtain ⟨W2, hW2⟩ : ∃ W2, wr.setCells g1 (k * 3) emptyC = W2 := ⟨_, rfl⟩
              rw [hW2] at hown2 hB2
              have HO2 := Lib.hid hown2
              have HB2 := Lib.hid hB2
              have HTH := Lib.hid hth
              have HW2 := Lib.hid hW2
              clear hth hown2 hg2 hB2 hW2 hown hg
              go_wp2_with (first
                | (refine wpList_store_to rfl 53 (.tmp 97) (.tmp 96) rfl g1 (k * 3) emptyC rfl rfl HTH.out (by kernel_rfl) empty_one HW2.out ?_))
              go_roundw
              case rel => exact ⟨k + 1, cs2, by go_num, by omega, HO2.out, HB2.out⟩
              case measure => simp [RowKit.intOf]; omega
          · go_wp2_with fail
            go_roundw
            case rel => exact ⟨z + 1, by go_num, by omega, by omega, hB5⟩
            case measure => simp [RowKit.intOf]; omega
    · go_wp2_with (first | (go_at_call 73; refine (HRN.out _ hB).mono ?_; rintro e wu ⟨rfl, hw⟩; subst wu))
      go_ret
      exact ⟨rfl, hB⟩
end Go.Proofs.Dc
