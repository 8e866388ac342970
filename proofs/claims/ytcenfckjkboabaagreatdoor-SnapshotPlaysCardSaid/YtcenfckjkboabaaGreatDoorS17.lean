/- SnapshotStays' walk. -/
import Derived.Test.YtcenfckjkboabaaGreatDoorS15
import Derived.Test.YtcenfckjkboabaaGreatDoorS16
namespace Go.Proofs.Dc
open Go.RowKit Go.Proofs Go.Lib Go.Maps

/-- a row of documents stays, whatever is done to a Snapshots -/
theorem own_fs {w w' : World} {s m lo B n : Nat} {G : List Gen} {v : Value} {xs : List Value} (h : w.ownsRow B 53 3 v n xs) (hs : SV w s m lo G) (hf : FsK w w' s m) : w'.ownsRow B 53 3 v n xs := by
  obtain ⟨_, _, D, k⟩ := hs
  refine ⟨h.1, ?_⟩
  rcases h.2 with h2 | ⟨g, cap, cur, rfl, h2, h3, h4⟩
  · exact .inl h2
  · refine .inr ⟨g, cap, cur, rfl, h2, (hf.block g (Array.getElem?_eq_some_iff.1 h3).1 (fun e => ?_) (fun e => ?_) (fun c f e => ?_)).trans h3, h4⟩
    · exact ne_types h3 k.hd (by decide) e
    · exact ne_map k.mp h3 e.symm
    · rw [h3] at e
      simp at e
theorem own_below {w w' : World} {B n : Nat} {v : Value} {xs : List Value} (h : w.ownsRow B 53 3 v n xs) (hb : Below w.heap.size w w') : w'.ownsRow B 53 3 v n xs := own_kept h (gb_below (row := none) hb) (by
  cases hp : v.ownBlock with
  | none => exact .inr rfl
  | some k => exact .inl (by simp))
theorem sof_any {w : World} {s m lo : Nat} {G : List Gen} (h : SV w s m lo G) (hO : ∀ g ∈ G, Inv g.docs) (i : Int) (hi : wfI i) :
    Calls Tryz.prog 23 #[.pointer (some ⟨s, 0, none⟩), .int .i64 i] w fun e w' => Below w.heap.size w w' ∧
      ((ofV (kept G) G i = none ∧ e = .returned (.tuple #[.slice none 0 0, .bool false])) ∨ ∃ L v, ofV (kept G) G i = some L ∧ e = .returned (.tuple #[v, .bool true]) ∧ w'.ownsRow w.heap.size 53 3 v L.length (docCells L)) := by
  obtain ⟨_, _, _, k⟩ := h
  exact of_any k hO i hi
theorem snone_any {w : World} {s m lo : Nat} {G : List Gen} (h : SV w s m lo G) (hO : ∀ g ∈ G, Inv g.docs) (i : Int) (hi : wfI i) (hn : ofV (kept G) G i = none) :
    Calls Tryz.prog 32 #[.pointer (some ⟨s, 0, none⟩), .int .i64 i] w fun e w' => e = .returned (.bool true) ∧ Below w.heap.size w w' := by
  obtain ⟨_, _, _, k⟩ := h
  exact none_any k hO i hi hn
end Go.Proofs.Dc
namespace Go.Proofs.Sn
open Go.RowKit Go.Proofs Go.Lib Go.Maps Go.Proofs.Dc

theorem free0_act {G : List Gen} (h : Free0 G) (x : Act) : Free0 (actG G x) := by
  unfold actG
  split
  · unfold nextG
    split
    · unfold addG
      exact free0_snoc h _ _
    · exact h
  · exact h
/-- an act behind a held generation -/
theorem act_mid (P A : List Gen) (x : Gen) (hA : Free0 A) (y : Act) : ∃ A', actG (P ++ x :: A) y = P ++ x :: A' ∧ Free0 A' ∧ (actR (P ++ x :: A) y = 0 → A' ≠ []) := by
  have hl : (P ++ x :: A).length - 1 < (P ++ x :: A).length := by simp
  obtain ⟨g, hg⟩ : ∃ g, (P ++ x :: A)[(P ++ x :: A).length - 1]? = some g := ⟨_, List.getElem?_eq_getElem hl⟩
  unfold actG actR
  rw [hg]
  simp only
  unfold nextG
  by_cases he : actE g.docs y = 0
  · rw [if_pos he]
    exact ⟨A ++ [⟨actD g.docs y, 0, y.uri.data.toList⟩], by simp [addG], free0_snoc hA _ _, fun _ => by simp⟩
  · rw [if_neg he]
    exact ⟨A, rfl, hA, fun e => absurd e he⟩
set_option maxRecDepth 100000 in
set_option maxHeartbeats 8000000 in
theorem stays_walk (w : World) (hT : Tabs w) (p : Option Addr) (n c : Nat) (hn2 : n ≤ maxLen) (hl : ∃ l : List Act, n = l.length ∧ ActsAt w p l) (p' : Option Addr) (n' c' : Nat) (hn2' : n' ≤ maxLen) (hl' : ∃ l : List Act, n' = l.length ∧ ActsAt w p' l) :
    Calls Tryz.prog 7 #[.slice p n c, .slice p' n' c'] w fun e w' => e = .returned (.bool true) ∧ Below w.heap.size w w' := by
  obtain ⟨l, hn, hI⟩ := hl
  obtain ⟨l', hn', hI'⟩ := hl'
  have hw := works28_any
  have hlg := large_any w p n c l hn hn2 hI
  have hlg' := large_any w p' n' c' l' hn' hn2' hI'
  cases hB : largeB l with
  | true =>
    rw [hB] at hlg
    clear hn hI hB hn' hI' hlg'
    go_enter Tryz.func7, Tryz.ntmps7
    go_wp2_with (first
      | (go_at_call 18; refine hlg.mono ?_; rintro e w1 ⟨rfl, hww⟩; subst w1)
      | (go_at_call 19; refine (hw _ hT).mono ?_; rintro e w2 ⟨rfl, hb2⟩))
    go_ret
    exact ⟨rfl, hb2⟩
  | false =>
  rw [hB] at hlg
  cases hB' : largeB l' with
  | true =>
    rw [hB'] at hlg'
    clear hn hI hB hn' hI' hB'
    go_enter Tryz.func7, Tryz.ntmps7
    go_wp2_with (first
      | (have GU := hlg; clear GU; go_at_call 18; refine hlg.mono ?_; rintro e w1 ⟨rfl, hww⟩; subst w1; clear hlg)
      | (go_at_call 18; refine hlg'.mono ?_; rintro e w1 ⟨rfl, hww⟩; subst w1)
      | (go_at_call 19; refine (hw _ hT).mono ?_; rintro e w2 ⟨rfl, hb2⟩))
    go_ret
    exact ⟨rfl, hb2⟩
  | false =>
  rw [hB'] at hlg'
  have hsm := small_of hB
  have hsm' := small_of hB'
  have HN := Lib.hid hn
  have HI := Lib.hid hI
  have HS := Lib.hid hsm
  have HN' := Lib.hid hn'
  have HI' := Lib.hid hI'
  have HS' := Lib.hid hsm'
  have hn30 : n ≤ 30 := by have := hsm.2; omega
  have hn30' : n' ≤ 30 := by have := hsm'.2; omega
  have hlo := hT.lo
  have hnew := snew_any w
  clear hn hI hB hsm hn' hI' hB' hsm'
  go_enter Tryz.func7, Tryz.ntmps7
  go_wp2_with (first
    | (have GU := hlg; clear GU; go_at_call 18; refine hlg.mono ?_; rintro e w1 ⟨rfl, hww⟩; subst w1; clear hlg)
    | (go_at_call 18; refine hlg'.mono ?_; rintro e w1 ⟨rfl, hww⟩; subst w1)
    | (go_at_call 20; refine hnew.mono ?_; rintro e w1 ⟨s, m, rfl, S0, b1⟩))
  clear hlg' hnew
  go_loopw [6] (fun iv wr => ∃ (k : Nat) (G : List Gen), iv = .int .i64 k ∧ k ≤ n ∧ GI G (k + 1) ∧ Free0 G ∧ SV wr s m w.heap.size G ∧ Below w.heap.size w wr) (fun iv _ => n - (RowKit.intOf iv).toNat)
  case atStart => exact ⟨0, G0, rfl, Nat.zero_le _, ⟨by decide, fun g hg => by rw [List.mem_singleton.1 hg]; exact Inv.nil, by decide, fun g hg => by rw [List.mem_singleton.1 hg]; exact Nat.zero_le _⟩, fun g hg => by rw [List.mem_singleton.1 hg], S0, b1⟩
  case round =>
    obtain ⟨k, G, rfl, hk, hGI, hF0, SVr, hB⟩ := hrel
    clear S0 b1
    by_cases hkn : (k : Int) < (n : Int)
    · obtain ⟨x, hx⟩ : ∃ x, l[k]? = some x := ⟨_, List.getElem?_eq_getElem (by have := HN.out; omega)⟩
      have hok := HS.out.1 x (List.mem_of_getElem? hx)
      obtain ⟨a, rfl, hA0⟩ := HI.out k x hx
      have hA1 := hA0.below hB
      have hact := act_any (hT.below hB) (by omega) SVr hGI (by omega) x hok hA1.len hA1.chgs
      obtain ⟨t0, t1, t2, t3, t4, t5⟩ := act_cells hA1
      have HACT := Lib.hid hact
      have HGI := Lib.hid (gi_act hGI x)
      have HF := Lib.hid (free0_act hF0 x)
      clear hact hGI hF0 hA0 hA1 hx hok
      unfold actVal at HACT
      go_wp2_with (first
        | (go_at_call 21; refine HACT.out.mono ?_; rintro e w4 ⟨rfl, S4, _, b4⟩))
      go_roundw
      case rel => exact ⟨k + 1, actG G x, by go_num, by omega, HGI.out, HF.out, S4, hB.trans b4⟩
      case measure => simp [RowKit.intOf]; omega
    · obtain ⟨P, x, rfl⟩ := split_last hGI.ne
      have hP0 : Free0 P := fun g hg => hF0 g (List.mem_append_left _ hg)
      have hx0 : x.held = 0 := hF0 x (List.mem_append_right _ (List.mem_singleton.2 rfl))
      have hlen := hGI.len
      have hPl : P.length ≤ 31 := by simp at hlen; omega
      obtain ⟨xh, hxh⟩ : ∃ y : Gen, { x with held := 1 } = y := ⟨_, rfl⟩
      have hxd : xh.docs = x.docs := by rw [← hxh]
      have hx1 : xh.held = 1 := by rw [← hxh]
      have hho := hold_any SVr (by omega) (fun g hg => by have := hGI.held g hg; omega)
      rw [hold_snoc, hx0, show ({ x with held := 0 + 1 } : Gen) = xh from hxh, show ((P ++ [x]).length - 1 : Nat) = P.length by simp] at hho
      have hGIh : GI (P ++ [xh]) (k + 2) := by
        have := hGI.hold
        rw [hold_snoc, hx0, show ({ x with held := 0 + 1 } : Gen) = xh from hxh] at this
        exact this
      have hA00 : Free0 [] := fun g hg => by cases hg
      have hof := fun w2 (S : SV w2 s m w.heap.size (P ++ [xh])) => sof_any S hGIh.inv (P.length : Nat) (wfI_of (by omega) (by omega))
      rw [of_mid hP0 hA00 (by omega)] at hof
      have hnw := fun w2 (S : SV w2 s m w.heap.size (P ++ [xh])) => snow_any S
      have hkp := fun w2 (S : SV w2 s m w.heap.size (P ++ [xh])) => skept_any S
      rw [cnt_held hP0 hA00 (by omega), if_pos rfl] at hkp
      rw [show ((P ++ [xh]).length - 1 : Nat) = P.length by simp] at hnw
      obtain ⟨q, hq⟩ : ∃ q, P.length = q := ⟨_, rfl⟩
      rw [hq] at hho hof hnw
      have HQ := Lib.hid hq
      have HHO := Lib.hid hho
      have HOF := Lib.hid hof
      have HNW := Lib.hid hnw
      have HKP := Lib.hid hkp
      have HP0 := Lib.hid hP0
      have HXD := Lib.hid hxd
      have HX1 := Lib.hid hx1
      have HGI := Lib.hid hGIh
      have hqs : q ≤ 31 := by omega
      clear hho hof hnw hkp hP0 hx0 hlen hPl hxh hxd hx1 hGI hF0 hGIh hA00 hq
      go_wp2_with (first
        | (go_at_call 22; refine HHO.out.mono ?_; rintro e w2 ⟨rfl, S2, _, b2⟩; have B2 := hB.trans b2)
        | (go_at_call 23; refine (HOF.out _ S2).mono ?_; rintro e w3 ⟨hb3, ⟨hx, _⟩ | ⟨L, v0, hx, rfl, hrow3⟩⟩; (case inl => cases hx); have S3 := S2.below hb3; have B3 := B2.trans (hb3.mono B2.size))
        | (go_at_call 24; refine (HNW.out _ S3).mono ?_; rintro e wu ⟨rfl, hw⟩; subst wu)
        | (go_at_call 29; refine (HKP.out _ S3).mono ?_; rintro e wu ⟨rfl, hw⟩; subst wu))
      obtain ⟨LD, hLD⟩ : ∃ LD, xh.docs = LD := ⟨_, rfl⟩
      have hLL : L = LD := by
        have := Option.some.inj hx
        rw [← this, hLD]
      subst hLL
      have HLD := Lib.hid hLD
      obtain ⟨pv, cv, rfl⟩ := own_shape hrow3
      have hbase : w.heap.size ≤ w2.heap.size := B2.size
      have hrow0 := hrow3.mono hbase
      clear hrow3 hx hLD HHO HOF HNW HKP S2 B2 hb3 hB SVr b2
      go_loopw [10] (fun iv wx => ∃ (k2 : Nat) (A : List Gen), iv = .int .i64 k2 ∧ k2 ≤ n' ∧ Free0 A ∧ GI (P ++ xh :: A) (33 + k2) ∧ SV wx s m w.heap.size (P ++ xh :: A) ∧ Below w.heap.size w wx ∧ wx.ownsRow w.heap.size 53 3 (.slice pv L.length cv) L.length (docCells L)) (fun iv _ => n' - (RowKit.intOf iv).toNat)
      case atStart => exact ⟨0, [], rfl, Nat.zero_le _, (fun g hg => by cases hg), HGI.out.mono (by omega), S3, B3, hrow0⟩
      case round =>
        obtain ⟨k2, A, rfl, hk2, hA0, hG2, SVx, hBX, hrowx⟩ := hrel
        clear S3 B3 hrow0
        by_cases hkn2 : (k2 : Int) < (n' : Int)
        · obtain ⟨y, hy⟩ : ∃ y, l'[k2]? = some y := ⟨_, List.getElem?_eq_getElem (by have := HN'.out; omega)⟩
          have hok := HS'.out.1 y (List.mem_of_getElem? hy)
          obtain ⟨a, rfl, hAy⟩ := HI'.out k2 y hy
          have hA1 := hAy.below hBX
          have hact := act_any (hT.below hBX) (by omega) SVx hG2 (by omega) y hok hA1.len hA1.chgs
          obtain ⟨t0, t1, t2, t3, t4, t5⟩ := act_cells hA1
          have hG3 := gi_act hG2 y
          obtain ⟨A', hA', hF', hE'⟩ := act_mid P A xh hA0 y
          rw [hA'] at hact hG3
          obtain ⟨E, hE⟩ : ∃ E, actR (P ++ xh :: A) y = E := ⟨_, rfl⟩
          rw [hE] at hact hE'
          have hlen3 : (P ++ xh :: A').length - 1 = P.length + A'.length := by simp
          have hwf := wfI_of (a := (P.length : Int)) (by omega) (by have := HQ.out; omega)
          have hof := fun w2 (S : SV w2 s m w.heap.size (P ++ xh :: A')) => sof_any S hG3.inv (P.length : Nat) hwf
          rw [of_mid HP0.out hF' (by have := HX1.out; omega)] at hof
          have hnw := fun w2 (S : SV w2 s m w.heap.size (P ++ xh :: A')) => snow_any S
          have hkp := fun w2 (S : SV w2 s m w.heap.size (P ++ xh :: A')) => skept_any S
          rw [hlen3] at hnw
          rw [HQ.out] at hof hnw
          obtain ⟨bf, hbf⟩ : ∃ bf, cnt (kept (P ++ xh :: A')) (P ++ xh :: A').length = bf := ⟨_, rfl⟩
          simp only [hbf] at hkp
          rw [cnt_held HP0.out hF' (by have := HX1.out; omega)] at hbf
          obtain ⟨nw, hnwv⟩ : ∃ nw, q + A'.length = nw := ⟨_, rfl⟩
          simp only [hnwv] at hnw
          obtain ⟨bb, hb1, hb2⟩ : ∃ bb : Bool, ((nw : Int) == (q : Int)) = bb ∧ ((bf : Int) == 1) = bb := by
            by_cases e : A' = []
            · rw [if_pos e] at hbf
              subst e
              refine ⟨true, by rw [← hnwv]; simp, by rw [← hbf]; rfl⟩
            · rw [if_neg e] at hbf
              have : 0 < A'.length := List.length_pos_iff.2 e
              refine ⟨false, beq_eq_false_iff_ne.2 (by omega), by rw [← hbf]; rfl⟩
          have hb3 : ¬ (2 : Int) < (bf : Int) := by rw [← hbf]; split <;> decide
          have hbE : (E == 0) = true → bb = false := fun e => by
            have := hE' (by simpa using e)
            rw [if_neg this] at hbf
            rw [← hb2, ← hbf]
            rfl
          have hsame := fun w2 v2 (h1 : SliceD w2 v2 L) (h2 : SliceD w2 (.slice pv L.length cv) L) => ssame_any w2 v2 _ L L h1 h2 (by
            have := HLD.out
            have hi := HGI.out.inv xh (List.mem_append_right _ (List.mem_singleton.2 rfl))
            rw [this] at hi
            have := hi.len
            omega) (by
            have := HLD.out
            have hi := HGI.out.inv xh (List.mem_append_right _ (List.mem_singleton.2 rfl))
            rw [this] at hi
            have := hi.len
            omega)
          simp only [decide_true] at hsame
          have HACT := Lib.hid hact
          have HOF := Lib.hid hof
          have HNW := Lib.hid hnw
          have HKP := Lib.hid hkp
          have HSAME := Lib.hid hsame
          have HF := Lib.hid hF'
          have HG3 := Lib.hid hG3
          have HROW := Lib.hid (fun w2 hf => own_fs (w' := w2) hrowx SVx hf)
          clear hact hof hnw hkp hsame hF' hE' hG3 hA0 hG2 hAy hA1 hy hok hA' hE hlen3 hwf hbf hnwv
          unfold actVal at HACT
          have HBX := Lib.hid hBX
          clear hrowx
          cases hEb : (E == 0) with
          | true =>
            have hbb := hbE hEb
            subst hbb
            clear hbE
            go_wp2_with (first
              | (go_at_call 21; refine HACT.out.mono ?_; rintro e w4 ⟨rfl, S4, f4, b4⟩; have B4 := HBX.out.trans b4; have R4 := HROW.out w4 f4)
              | (go_at_call 29; refine (HKP.out _ S4).mono ?_; rintro e wu ⟨rfl, hw⟩; subst wu)
              | (go_at_call 23; refine (HOF.out _ S4).mono ?_; rintro e w5 ⟨hb5, ⟨hx, _⟩ | ⟨L5, v5, hx, rfl, hrow5⟩⟩; (case inl => cases hx); have S5 := S4.below hb5; have B5 := B4.trans (hb5.mono B4.size); have R5 := own_below R4 hb5; obtain rfl : L = L5 := (by have := Option.some.inj hx; rw [HLD.out] at this; exact this); have D5 := own_slice hrow5)
              | (go_at_call 30; refine (HSAME.out _ _ D5 (own_slice R5)).mono ?_; rintro e w6 ⟨rfl, hb6⟩; have S6 := S5.below hb6; have B6 := B5.trans (hb6.mono B5.size); have R6 := own_below R5 hb6)
              | (go_at_call 24; refine (HNW.out _ S6).mono ?_; rintro e wu ⟨rfl, hw⟩; subst wu))
            go_roundw
            case rel => exact ⟨k2 + 1, A', by go_num, by omega, HF.out, HG3.out.mono (by omega), S6, B6, R6⟩
            case measure => simp [RowKit.intOf]; omega
          | false =>
            clear hbE
            go_wp2_with (first
              | (go_at_call 21; refine HACT.out.mono ?_; rintro e w4 ⟨rfl, S4, f4, b4⟩; have B4 := HBX.out.trans b4; have R4 := HROW.out w4 f4)
              | (go_at_call 29; refine (HKP.out _ S4).mono ?_; rintro e wu ⟨rfl, hw⟩; subst wu)
              | (go_at_call 23; refine (HOF.out _ S4).mono ?_; rintro e w5 ⟨hb5, ⟨hx, _⟩ | ⟨L5, v5, hx, rfl, hrow5⟩⟩; (case inl => cases hx); have S5 := S4.below hb5; have B5 := B4.trans (hb5.mono B4.size); have R5 := own_below R4 hb5; obtain rfl : L = L5 := (by have := Option.some.inj hx; rw [HLD.out] at this; exact this); have D5 := own_slice hrow5)
              | (go_at_call 30; refine (HSAME.out _ _ D5 (own_slice R5)).mono ?_; rintro e w6 ⟨rfl, hb6⟩; have S6 := S5.below hb6; have B6 := B5.trans (hb6.mono B5.size); have R6 := own_below R5 hb6)
              | (go_at_call 24; refine (HNW.out _ S6).mono ?_; rintro e wu ⟨rfl, hw⟩; subst wu))
            go_roundw
            case rel => exact ⟨k2 + 1, A', by go_num, by omega, HF.out, HG3.out.mono (by omega), S6, B6, R6⟩
            case measure => simp [RowKit.intOf]; omega
        · have hPl := HQ.out
          have hwf := wfI_of (a := (P.length : Int)) (by omega) (by omega)
          obtain ⟨x0, hx0⟩ : ∃ y : Gen, { xh with held := 0 } = y := ⟨_, rfl⟩
          have hz0 : x0.held = 0 := by rw [← hx0]
          have hd0 : x0.docs = xh.docs := by rw [← hx0]
          obtain ⟨hfe, hfg⟩ := free_mid P A xh HX1.out
          rw [hx0] at hfg
          obtain ⟨hfe2, hfg2⟩ := free_again P A x0 hz0
          have hinv : ∀ g ∈ P ++ x0 :: A, Inv g.docs := fun g hg => by
            rcases List.mem_append.1 hg with hg | hg
            · exact hG2.inv g (List.mem_append_left _ hg)
            · rcases List.mem_cons.1 hg with rfl | hg
              · rw [hd0]; exact hG2.inv xh (List.mem_append_right _ List.mem_cons_self)
              · exact hG2.inv g (List.mem_append_right _ (List.mem_cons_of_mem _ hg))
          have hlen2 : (P ++ x0 :: A).length ≤ 1000 := by
            have := hG2.len
            simp at this ⊢
            omega
          have hheld2 : ∀ g ∈ P ++ x0 :: A, g.held ≤ 1000000 := fun g hg => by
            rcases List.mem_append.1 hg with hg | hg
            · have := hG2.held g (List.mem_append_left _ hg); omega
            · rcases List.mem_cons.1 hg with rfl | hg
              · omega
              · have := hG2.held g (List.mem_append_right _ (List.mem_cons_of_mem _ hg)); omega
          have hf1 := free_any SVx (by have := hG2.len; omega) (fun g hg => by have := hG2.held g hg; omega) (P.length : Nat) hwf
          rw [hfe, hfg] at hf1
          have hf2 := fun w2 (S : SV w2 s m w.heap.size (P ++ x0 :: A)) => free_any S hlen2 hheld2 (P.length : Nat) hwf
          rw [hfe2, hfg2] at hf2
          have hkp := fun w2 (S : SV w2 s m w.heap.size (P ++ x0 :: A)) => skept_any S
          rw [cnt_free HP0.out hA0 hz0] at hkp
          simp only [Int.natCast_one] at hkp
          have hnw := fun w2 (S : SV w2 s m w.heap.size (P ++ x0 :: A)) => snow_any S
          rw [show (P ++ x0 :: A).length - 1 = P.length + A.length by simp] at hnw
          have hnone := fun (hA : A ≠ []) w2 (S : SV w2 s m w.heap.size (P ++ x0 :: A)) => snone_any S hinv (P.length : Nat) hwf (of_gone HP0.out hA0 hz0 hA)
          rw [hPl] at hf1 hf2 hnw hnone
          have HF1 := Lib.hid hf1
          have HF2 := Lib.hid hf2
          have HKP := Lib.hid hkp
          have HNW := Lib.hid hnw
          have HNONE := Lib.hid hnone
          have HBX := Lib.hid hBX
          by_cases hAe : A = []
          · subst hAe
            clear hPl hwf hx0 hz0 hd0 hfe hfg hfe2 hfg2 hinv hlen2 hheld2 hf1 hf2 hkp hnw hnone hrowx SVx hG2 hA0 hBX HNONE
            simp only [List.length_nil, Nat.add_zero] at HNW
            go_wp2_with (first
              | (have GU := S4; clear GU; go_at_call 31; refine (HF2.out _ S4).mono ?_; rintro e w5 ⟨rfl, S5, _, b5⟩; have B5 := B4.trans b5; clear S4)
              | (go_at_call 31; refine HF1.out.mono ?_; rintro e w4 ⟨rfl, S4, _, b4⟩; have B4 := HBX.out.trans b4; clear HF1)
              | (go_at_call 29; refine (HKP.out _ S5).mono ?_; rintro e wu ⟨rfl, hw⟩; subst wu)
              | (go_at_call 24; refine (HNW.out _ S5).mono ?_; rintro e wu ⟨rfl, hw⟩; subst wu)
              | (go_at_call 19; refine (hw _ (hT.below B5)).mono ?_; rintro e w7 ⟨rfl, b7⟩; have B7 := B5.trans (b7.mono B5.size)))
            go_ret
            exact ⟨rfl, B7⟩
          · have hno := HNONE.out hAe
            have hl0 : 0 < A.length := List.length_pos_iff.2 hAe
            have hnq : ((q : Int) == ((q + A.length : Nat) : Int)) = false := beq_eq_false_iff_ne.2 (by omega)
            obtain ⟨nw, hnwv⟩ : ∃ nw : Nat, q + A.length = nw := ⟨_, rfl⟩
            simp only [hnwv] at HNW hnq
            have HNO := Lib.hid hno
            clear hPl hwf hx0 hz0 hd0 hfe hfg hfe2 hfg2 hinv hlen2 hheld2 hf1 hf2 hkp hnw hnone hrowx SVx hG2 hA0 hBX HNONE hno hl0 hnwv hAe
            go_wp2_with (first
              | (have GU := S4; clear GU; go_at_call 31; refine (HF2.out _ S4).mono ?_; rintro e w5 ⟨rfl, S5, _, b5⟩; have B5 := B4.trans b5; clear S4)
              | (go_at_call 31; refine HF1.out.mono ?_; rintro e w4 ⟨rfl, S4, _, b4⟩; have B4 := HBX.out.trans b4; clear HF1)
              | (go_at_call 29; refine (HKP.out _ S5).mono ?_; rintro e wu ⟨rfl, hw⟩; subst wu)
              | (go_at_call 24; refine (HNW.out _ S5).mono ?_; rintro e wu ⟨rfl, hw⟩; subst wu)
              | (go_at_call 32; refine (HNO.out _ S5).mono ?_; rintro e w6 ⟨rfl, b6⟩; have B6 := B5.trans (b6.mono B5.size))
              | (go_at_call 19; refine (hw _ (hT.below B6)).mono ?_; rintro e w7 ⟨rfl, b7⟩; have B7 := B6.trans (b7.mono B6.size)))
            go_ret
            exact ⟨rfl, B7⟩
end Go.Proofs.Sn
