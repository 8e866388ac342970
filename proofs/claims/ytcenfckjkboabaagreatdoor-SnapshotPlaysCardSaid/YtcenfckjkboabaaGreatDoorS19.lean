/- SnapshotCame's walk (under way). -/
import Derived.Test.YtcenfckjkboabaaGreatDoorS17
import Derived.Test.YtcenfckjkboabaaGreatDoorS18
namespace Go.Proofs.Dc
open Go.RowKit Go.Proofs Go.Lib Go.Maps

/-- a row stays, whatever is done to a Snapshots -/
theorem own_fs2 {w w' : World} {s m lo B n e z : Nat} {G : List Gen} {v : Value} {xs : List Value} (h : w.ownsRow B e z v n xs) (h1 : e ≠ 72) (h2 : e ≠ 103) (hs : SV w s m lo G) (hf : FsK w w' s m) : w'.ownsRow B e z v n xs := by
  obtain ⟨_, _, D, k⟩ := hs
  refine ⟨h.1, ?_⟩
  rcases h.2 with h2' | ⟨g, cap, cur, rfl, h3', h3, h4⟩
  · exact .inl h2'
  · refine .inr ⟨g, cap, cur, rfl, h3', (hf.block g (Array.getElem?_eq_some_iff.1 h3).1 (fun e => ?_) (fun e => ?_) (fun c f e => ?_)).trans h3, h4⟩
    · exact ne_types h3 k.hd h1 e
    · exact ne_map k.mp h3 e.symm
    · rw [h3] at e
      simp at e
      exact h2 e.2.1
theorem own_below2 {w w' : World} {B n e z : Nat} {v : Value} {xs : List Value} (h : w.ownsRow B e z v n xs) (hb : Below w.heap.size w w') : w'.ownsRow B e z v n xs := by
  refine ⟨h.1, ?_⟩
  rcases h.2 with h2' | ⟨g, cap, cur, rfl, h3', h3, h4⟩
  · exact .inl h2'
  · exact .inr ⟨g, cap, cur, rfl, h3', (hb.block g (Array.getElem?_eq_some_iff.1 h3).1).trans h3, h4⟩
/-- a row of the call's own is written: the generations stay -/
theorem sv_grown {w w' : World} {s m lo B n : Nat} {G : List Gen} {v : Value} {xs : List Value} (h : SV w s m lo G) (hr : w.ownsRow B 9 1 v n xs) (hg : w.grownBy w' v.ownBlock) : SV w' s m lo G := by
  obtain ⟨hne, BB, D, k⟩ := h
  rcases hr.2 with ⟨rfl, _⟩ | ⟨g, cap, cur, rfl, _, h3, _⟩
  · exact (SV.below ⟨hne, BB, D, k⟩ ⟨hg.os, hg.tape, hg.output, hg.size, fun j hj => hg.block j hj (by simp [Value.ownBlock])⟩)
  · refine ⟨hne, BB, D, ⟨(hg.block s k.lt.1 (fun e => ne_types k.hd h3 (by decide) (Option.some.inj e))).trans k.hd, k.slo, k.mlo, k.mp.kept hg (fun e => ne_map k.mp h3 (Option.some.inj e)), k.siz, k.has, k.inj, fun j hj => ?_⟩⟩
    obtain ⟨h1, h2, ⟨ge⟩⟩ := k.el j hj
    exact ⟨h1, h2, ⟨ge.keep hg h3 (by decide) (ne_types ge.hd h3 (by decide))⟩⟩
theorem row_grown {w w' : World} {B B' n n' : Nat} {v v' : Value} {xs xs' : List Value} (h : w.ownsRow B 53 3 v n xs) (hr : w.ownsRow B' 9 1 v' n' xs') (hg : w.grownBy w' v'.ownBlock) : w'.ownsRow B 53 3 v n xs := by
  refine own_kept h hg ?_
  rcases h.2 with ⟨rfl, _⟩ | ⟨g, cap, cur, rfl, _, h3, _⟩
  · exact .inr rfl
  · refine .inl fun e => ?_
    rcases hr.2 with ⟨rfl, _⟩ | ⟨g2, cap2, cur2, rfl, _, h4, _⟩
    · cases e
    · exact ne_types h3 h4 (by decide) (Option.some.inj e)
theorem sc_any {w : World} {s m lo : Nat} {G : List Gen} (h : SV w s m lo G) (i : Int) (hi : wfI i) (u : ByteArray) (hu : u.size ≤ maxLen) :
    Calls Tryz.prog 25 #[.pointer (some ⟨s, 0, none⟩), .int .i64 i, .string u] w fun e w' => w = w' ∧ e = .returned (.tuple #[.int .i64 (((cameV (kept G) G i u.data.toList).getD 0 : Nat) : Int), .bool (cameV (kept G) G i u.data.toList).isSome]) := by
  obtain ⟨_, _, _, k⟩ := h
  exact came_any k i hi u hu
end Go.Proofs.Dc
namespace Go.Proofs.Sn
open Go.RowKit Go.Proofs Go.Lib Go.Maps Go.Proofs.Dc

theorem get_mem {L : List Doc} {u : List UInt8} {d : Doc} (h : getD? L u = some d) : d ∈ L := by
  unfold getD? at h
  exact List.mem_of_find?_eq_some h
theorem ci_act {G : List Gen} {N : Nat} (h : CI G) (hG : GI G N) (x : Act) : CI (actG G x) := by
  obtain ⟨g, hg, hi⟩ := hG.last
  unfold actG
  rw [hg]
  simp only
  unfold nextG
  split
  · rename_i he
    exact h.add hG.ne hg (one_act hi x he)
  · exact h
theorem act_mid2 (P A : List Gen) (x : Gen) (y : Act) : ∃ g, (P ++ x :: A)[P.length + A.length]? = some g ∧ actR (P ++ x :: A) y = actE g.docs y ∧ actG (P ++ x :: A) y = (if actE g.docs y = 0 then P ++ x :: (A ++ [⟨actD g.docs y, 0, y.uri.data.toList⟩]) else P ++ x :: A) := by
  have hlen : (P ++ x :: A).length - 1 = P.length + A.length := by simp
  obtain ⟨g, hg⟩ : ∃ g, (P ++ x :: A)[P.length + A.length]? = some g := ⟨_, List.getElem?_eq_getElem (by simp)⟩
  refine ⟨g, hg, ?_, ?_⟩
  · unfold actR
    rw [hlen, hg]
  · unfold actG
    rw [hlen, hg]
    simp only
    unfold nextG addG
    by_cases he : actE g.docs y = 0
    · rw [if_pos he, if_pos he]
      simp
    · rw [if_neg he, if_neg he]
def strV (g : Gen) : Value := .string ⟨g.uri.toArray⟩
theorem info9 : (Tryz.prog.info? 9).map (fun i => (i.zero, i.size, i.bytes)) = some (some (.string ⟨#[]⟩), 1, 16) := by kernel_rfl
set_option maxRecDepth 100000 in
set_option maxHeartbeats 8000000 in
theorem scame_walk (w : World) (hT : Tabs w) (p : Option Addr) (n c : Nat) (hn2 : n ≤ maxLen) (hl : ∃ l : List Act, n = l.length ∧ ActsAt w p l) (p' : Option Addr) (n' c' : Nat) (hn2' : n' ≤ maxLen) (hl' : ∃ l : List Act, n' = l.length ∧ ActsAt w p' l) :
    Calls Tryz.prog 5 #[.slice p n c, .slice p' n' c'] w fun e w' => e = .returned (.bool true) ∧ Below w.heap.size w w' := by
  obtain ⟨l, hn, hI⟩ := hl
  obtain ⟨l', hn', hI'⟩ := hl'
  have hw := works28_any
  have hlg := large_any w p n c l hn hn2 hI
  have hlg' := large_any w p' n' c' l' hn' hn2' hI'
  cases hB : largeB l with
  | true =>
    rw [hB] at hlg
    clear hn hI hB hn' hI' hlg'
    go_enter Tryz.func5, Tryz.ntmps5
    go_wp2_with (first
      | (go_at_call 18; refine hlg.mono ?_; rintro e w1 ⟨rfl, hww⟩; subst w1)
      | (go_at_call 19; refine (hw _ hT).mono ?_; rintro e w2 ⟨rfl, hb2⟩))
    go_ret
    exact ⟨rfl, hb2⟩
  | false =>
  rw [hB] at hlg
  cases hB' : largeB l' with
  | true =>
    rw [hB'] at hlg'
    clear hn hI hB hn' hI' hB'
    go_enter Tryz.func5, Tryz.ntmps5
    go_wp2_with (first
      | (have GU := hlg; clear GU; go_at_call 18; refine hlg.mono ?_; rintro e w1 ⟨rfl, hww⟩; subst w1; clear hlg)
      | (go_at_call 18; refine hlg'.mono ?_; rintro e w1 ⟨rfl, hww⟩; subst w1)
      | (go_at_call 19; refine (hw _ hT).mono ?_; rintro e w2 ⟨rfl, hb2⟩))
    go_ret
    exact ⟨rfl, hb2⟩
  | false =>
  rw [hB'] at hlg'
  have hsm := small_of hB
  have hsm' := small_of hB'
  have HN := Lib.hid hn
  have HI := Lib.hid hI
  have HS := Lib.hid hsm
  have HN' := Lib.hid hn'
  have HI' := Lib.hid hI'
  have HS' := Lib.hid hsm'
  have hn30 : n ≤ 30 := by have := hsm.2; omega
  have hn30' : n' ≤ 30 := by have := hsm'.2; omega
  have hlo := hT.lo
  have hnew := snew_any w
  clear hn hI hB hsm hn' hI' hB' hsm'
  go_enter Tryz.func5, Tryz.ntmps5
  go_wp2_with (first
    | (have GU := hlg; clear GU; go_at_call 18; refine hlg.mono ?_; rintro e w1 ⟨rfl, hww⟩; subst w1; clear hlg)
    | (go_at_call 18; refine hlg'.mono ?_; rintro e w1 ⟨rfl, hww⟩; subst w1)
    | (go_at_call 20; refine hnew.mono ?_; rintro e w1 ⟨s, m, rfl, S0, b1⟩))
  clear hlg' hnew
  go_loopw [6] (fun iv wr => ∃ (k : Nat) (G : List Gen), iv = .int .i64 k ∧ k ≤ n ∧ GI G (k + 1) ∧ Free0 G ∧ CI G ∧ SV wr s m w.heap.size G ∧ Below w.heap.size w wr) (fun iv _ => n - (RowKit.intOf iv).toNat)
  case atStart => exact ⟨0, G0, rfl, Nat.zero_le _, ⟨by decide, fun g hg => by rw [List.mem_singleton.1 hg]; exact Inv.nil, by decide, fun g hg => by rw [List.mem_singleton.1 hg]; exact Nat.zero_le _⟩, (fun g hg => by rw [List.mem_singleton.1 hg]), ci_G0, S0, b1⟩
  case round =>
    obtain ⟨k, G, rfl, hk, hGI, hF0, hCI, SVr, hB⟩ := hrel
    clear S0 b1
    by_cases hkn : (k : Int) < (n : Int)
    · obtain ⟨x, hx⟩ : ∃ x, l[k]? = some x := ⟨_, List.getElem?_eq_getElem (by have := HN.out; omega)⟩
      have hok := HS.out.1 x (List.mem_of_getElem? hx)
      obtain ⟨a, rfl, hA0⟩ := HI.out k x hx
      have hA1 := hA0.below hB
      have hact := act_any (hT.below hB) (by omega) SVr hGI (by omega) x hok hA1.len hA1.chgs
      obtain ⟨t0, t1, t2, t3, t4, t5⟩ := act_cells hA1
      have HACT := Lib.hid hact
      have HGI := Lib.hid (gi_act hGI x)
      have HF := Lib.hid (free0_act hF0 x)
      have HCI := Lib.hid (ci_act hCI hGI x)
      clear hact hGI hF0 hCI hA0 hA1 hx hok
      unfold actVal at HACT
      go_wp2_with (first
        | (go_at_call 21; refine HACT.out.mono ?_; rintro e w4 ⟨rfl, S4, _, b4⟩))
      go_roundw
      case rel => exact ⟨k + 1, actG G x, by go_num, by omega, HGI.out, HF.out, HCI.out, S4, hB.trans b4⟩
      case measure => simp [RowKit.intOf]; omega
    · obtain ⟨P, x, rfl⟩ := split_last hGI.ne
      have hP0 : Free0 P := fun g hg => hF0 g (List.mem_append_left _ hg)
      have hx0 : x.held = 0 := hF0 x (List.mem_append_right _ (List.mem_singleton.2 rfl))
      have hlen := hGI.len
      have hPl : P.length ≤ 31 := by simp at hlen; omega
      obtain ⟨xh, hxh⟩ : ∃ y : Gen, { x with held := 1 } = y := ⟨_, rfl⟩
      have hxd : xh.docs = x.docs := by rw [← hxh]
      have hx1 : xh.held = 1 := by rw [← hxh]
      have hho := hold_any SVr (by omega) (fun g hg => by have := hGI.held g hg; omega)
      rw [hold_snoc, hx0, show ({ x with held := 0 + 1 } : Gen) = xh from hxh, show ((P ++ [x]).length - 1 : Nat) = P.length by simp] at hho
      have hGIh : GI (P ++ [xh]) (k + 2) := by
        have := hGI.hold
        rw [hold_snoc, hx0, show ({ x with held := 0 + 1 } : Gen) = xh from hxh] at this
        exact this
      have hA00 : Free0 [] := fun g hg => by cases hg
      have hof := fun w2 (S : SV w2 s m w.heap.size (P ++ [xh])) => sof_any S hGIh.inv (P.length : Nat) (wfI_of (by omega) (by omega))
      rw [of_mid hP0 hA00 (by omega)] at hof
      obtain ⟨q, hq⟩ : ∃ q, P.length = q := ⟨_, rfl⟩
      rw [hq] at hho hof
      have HQ := Lib.hid hq
      have HHO := Lib.hid hho
      have HOF := Lib.hid hof
      have HP0 := Lib.hid hP0
      have HXD := Lib.hid hxd
      have HX1 := Lib.hid hx1
      have HGI := Lib.hid hGIh
      have HCI := Lib.hid (hCI.hold (y := xh) hxd (by rw [← hxh]))
      have hqs : q ≤ 31 := by omega
      clear hho hof hP0 hx0 hlen hPl hxh hxd hx1 hGI hF0 hGIh hA00 hq hCI
      go_wp2_with (first
        | (go_at_call 22; refine HHO.out.mono ?_; rintro e w2 ⟨rfl, S2, _, b2⟩; have B2 := hB.trans b2)
        | (go_at_call 23; refine (HOF.out _ S2).mono ?_; rintro e w3 ⟨hb3, ⟨hx, _⟩ | ⟨L, v0, hx, rfl, hrow3⟩⟩; (case inl => cases hx); have S3 := S2.below hb3; have B3 := B2.trans (hb3.mono B2.size)))
      obtain ⟨LD, hLD⟩ : ∃ LD, xh.docs = LD := ⟨_, rfl⟩
      have hLL : L = LD := by
        have := Option.some.inj hx
        rw [← this, hLD]
      subst hLL
      have HLD := Lib.hid hLD
      obtain ⟨pv, cv, rfl⟩ := own_shape hrow3
      have hrow0 := hrow3.mono B2.size
      clear hrow3 hx hLD HHO HOF S2 B2 hb3 hB SVr b2
      obtain ⟨i0, hi0, hz0, hz1, hz2⟩ := infoP info9
      go_loopw [10, 11] (fun dv iv wx => ∃ (k2 : Nat) (A : List Gen), iv = .int .i64 k2 ∧ k2 ≤ n' ∧ A.length ≤ k2 ∧ Free0 A ∧ GI (P ++ xh :: A) (33 + k2) ∧ CI (P ++ xh :: A) ∧ Tch P xh A ∧ SV wx s m w.heap.size (P ++ xh :: A) ∧ Below w.heap.size w wx ∧ wx.ownsRow w.heap.size 53 3 (.slice pv L.length cv) L.length (docCells L) ∧ wx.ownsRow w.heap.size 9 1 dv A.length (A.map strV)) (fun _ iv _ => n' - (RowKit.intOf iv).toNat)
      case atStart => exact ⟨0, [], rfl, Nat.zero_le _, Nat.zero_le _, (fun g hg => by cases hg), HGI.out.mono (by omega), HCI.out, Tch.nil _ _, S3, B3, hrow0, World.ownsRow_nil _ _ _ _⟩
      case round =>
        obtain ⟨k2, A, rfl, hk2, hAk, hA0, hG2, hC2, hT2, SVx, hBX, hrowx, hdone⟩ := hrel
        clear S3 B3 hrow0
        obtain ⟨pd, cd, rfl⟩ := own_shape hdone
        by_cases hkn2 : (k2 : Int) < (n' : Int)
        · obtain ⟨y, hy⟩ : ∃ y, l'[k2]? = some y := ⟨_, List.getElem?_eq_getElem (by have := HN'.out; omega)⟩
          have hok := HS'.out.1 y (List.mem_of_getElem? hy)
          obtain ⟨a, rfl, hAy⟩ := HI'.out k2 y hy
          have hA1 := hAy.below hBX
          have HC : Hid (∀ w', Below w.heap.size w w' → ActAt w' (a.add (k2 * 6)) y) := Lib.hid fun w' hb => hAy.below hb
          have hact := act_any (hT.below hBX) (by omega) SVx hG2 (by omega) y hok hA1.len hA1.chgs
          obtain ⟨t0, t1, t2, t3, t4, t5⟩ := act_cells hA1
          obtain ⟨g, hg, hR, hG3⟩ := act_mid2 P A xh y
          have hgi := gi_act hG2 y
          have hgd : Inv g.docs := hG2.inv g (List.mem_of_getElem? hg)
          rw [hR] at hact
          obtain ⟨E, hE⟩ : ∃ E, actE g.docs y = E := ⟨_, rfl⟩
          rw [hE] at hact hG3
          have HROW := Lib.hid (fun w2 hf => own_fs2 (w' := w2) hrowx (by decide) (by decide) SVx hf)
          have HDONE := Lib.hid (fun w2 hf => own_fs2 (w' := w2) hdone (by decide) (by decide) SVx hf)
          have HBX := Lib.hid hBX
          have hsz := hBX.size
          by_cases hE0 : E = 0
          · have hEb : (E == 0) = true := by rw [hE0]; rfl
            rw [if_pos hE0] at hG3
            rw [hG3] at hact hgi
            have hone := one_act hgd y (by rw [hE]; exact hE0)
            have HF := Lib.hid (free0_snoc hA0 (actD g.docs y) y.uri.data.toList)
            have HG3 := Lib.hid hgi
            have hlast : (P ++ xh :: A)[(P ++ xh :: A).length - 1]? = some g := by
              rw [show (P ++ xh :: A).length - 1 = P.length + A.length by simp]
              exact hg
            have HC3 := Lib.hid (hC2.add (by simp) hlast hone)
            have HT3 := Lib.hid (hT2.snoc hg hone)
            have hul : strV (⟨actD g.docs y, 0, y.uri.data.toList⟩ : Gen) = .string y.uri := rfl
            have HUL := Lib.hid hul
            obtain ⟨nd, hnd⟩ : ∃ nd, A ++ [(⟨actD g.docs y, 0, y.uri.data.toList⟩ : Gen)] = nd := ⟨_, rfl⟩
            have HND := Lib.hid hnd
            have HACT := Lib.hid hact
            clear hact hE0 hG3 hgi hone hlast hul hnd hg hR hE hgd hA0 hG2 hC2 hT2 SVx hrowx hdone hAy hA1 hy hok hBX
            unfold actVal at HACT
            go_wp2_with (first
              | (go_at_call 21; refine HACT.out.mono ?_; rintro e w4 ⟨rfl, S4, f4, b4⟩; have B4 := HBX.out.trans b4; have R4 := HROW.out w4 f4; have D4 := HDONE.out w4 f4; obtain ⟨u0, u1, u2, u3, u4, u5⟩ := act_cells (HC.out _ B4))
              | (at_builtin; refine wpList_append_own _ rfl (.tmp 68) (.tmp 74) 51 rfl w.heap.size 9 i0 _ 1 16 Tryz.underlying51 hi0 hz0 hz1 hz2 rfl (by decide) _ _ _ rfl (D4.alloc _) ⟨w4.heap.size, 0, none⟩ 1 1 [.string y.uri] rfl rfl (YtcenfckjkboabaaGreatDoor.cells_at_new _ _ _ _ rfl) (by intro x hx; simp at hx; subst hx; rfl) (by unfold maxLen; omega) (by omega) (by have := B4.size; simp; omega) ?_; intro v' w5 hown' hg5 _))
            have ba : Below w4.heap.size w4 (w4.alloc (.cells #[.string y.uri] 9)) := (Below.refl _ _).alloc (Nat.le_refl _) _
            have S5 := sv_grown (S4.below ba) (D4.alloc _) hg5
            have R5 := row_grown (own_below2 R4 ba) (D4.alloc _) hg5
            have B5 := (B4.alloc B4.size (.cells #[.string y.uri] 9)).grown hg5 (Nat.le_trans B4.size ba.size) (fun z hz => (D4.lt z hz).1)
            have hmap : nd.map strV = A.map strV ++ [.string y.uri] := by rw [← HND.out, List.map_append]; rfl
            have hln : nd.length = A.length + 1 := by rw [← HND.out]; simp
            go_roundw
            case rel => exact ⟨k2 + 1, nd, by go_num, by omega, by omega, by rw [← HND.out]; exact HF.out, by rw [← HND.out]; exact HG3.out.mono (by omega), by rw [← HND.out]; have := HC3.out; simpa [addG] using this, by rw [← HND.out]; exact HT3.out, by rw [← HND.out]; exact S5, B5, R5, by rw [hmap, hln]; exact hown'⟩
            case measure => simp [RowKit.intOf]; omega
          · have hEb : (E == 0) = false := beq_eq_false_iff_ne.2 hE0
            rw [if_neg hE0] at hG3
            rw [hG3] at hact hgi
            have HF := Lib.hid hA0
            have HG3 := Lib.hid hgi
            have HC3 := Lib.hid hC2
            have HT3 := Lib.hid hT2
            have HACT := Lib.hid hact
            clear hact hE0 hG3 hgi hg hR hE hgd hA0 hG2 hC2 hT2 SVx hrowx hdone hAy hA1 hy hok hBX
            unfold actVal at HACT
            go_wp2_with (first
              | (go_at_call 21; refine HACT.out.mono ?_; rintro e w4 ⟨rfl, S4, f4, b4⟩; have B4 := HBX.out.trans b4; have R4 := HROW.out w4 f4; have D4 := HDONE.out w4 f4))
            go_roundw
            case rel => exact ⟨k2 + 1, A, by go_num, by omega, by omega, HF.out, HG3.out.mono (by omega), HC3.out, HT3.out, S4, B4, R4, D4⟩
            case measure => simp [RowKit.intOf]; omega
        · have hPl := HQ.out
          obtain ⟨lg, hlg⟩ : ∃ g, (P ++ xh :: A)[P.length + A.length]? = some g := ⟨_, List.getElem?_eq_getElem (by simp)⟩
          have hli : Inv lg.docs := hG2.inv lg (List.mem_of_getElem? hlg)
          have hlen3 : (P ++ xh :: A).length - 1 = P.length + A.length := by simp
          have hP0 := HP0.out
          have hx1 := HX1.out
          have hwf := wfI_of (a := ((P.length + A.length : Nat) : Int)) (by omega) (by have := hG2.len; simp at this; omega)
          have hwfg := wfI_of (a := (P.length : Int)) (by omega) (by omega)
          have hofN : ofV (kept (P ++ xh :: A)) (P ++ xh :: A) ((P.length + A.length : Nat) : Int) = some lg.docs := by
            unfold ofV
            rw [if_pos ⟨by omega, by rw [kept_mid hP0 hA0]; simp; left; omega⟩]
            simp only [Int.toNat_natCast]
            rw [hlg]
            rfl
          have hofG : ofV (kept (P ++ xh :: A)) (P ++ xh :: A) (P.length : Nat) = some xh.docs := of_mid hP0 hA0 (by omega)
          have hof := fun w2 (S : SV w2 s m w.heap.size (P ++ xh :: A)) => sof_any S hG2.inv ((P.length + A.length : Nat) : Int) hwf
          rw [hofN] at hof
          have hnw := fun w2 (S : SV w2 s m w.heap.size (P ++ xh :: A)) => snow_any S
          rw [hlen3] at hnw
          obtain ⟨N1, hN1⟩ : ∃ N1, P.length + A.length = N1 := ⟨_, rfl⟩
          rw [hN1] at hof hnw
          have HOF := Lib.hid hof
          have HNW := Lib.hid hnw
          have HBX := Lib.hid hBX
          have HSV := Lib.hid SVx
          have HROW := Lib.hid hrowx
          have HDONE := Lib.hid hdone
          have HA0 := Lib.hid hA0
          have HG2 := Lib.hid hG2
          have HC2 := Lib.hid hC2
          have HT2 := Lib.hid hT2
          have HLG := Lib.hid hlg
          have HN1 := Lib.hid hN1
          have HOFN := Lib.hid hofN
          have HOFG := Lib.hid hofG
          have HLI := Lib.hid hli
          clear hof hnw hBX SVx hrowx hdone hA0 hG2 hC2 hT2 hlg hN1 hofN hofG hli hPl hlen3 hP0 hx1 hwf hwfg
          go_wp2_with (first
            | (go_at_call 24; refine (HNW.out _ HSV.out).mono ?_; rintro e wu ⟨rfl, hw⟩; subst wu)
            | (go_at_call 23; refine (HOF.out _ HSV.out).mono ?_; rintro e w5 ⟨hb5, ⟨hx, _⟩ | ⟨LN, vn, hx, rfl, hrow5⟩⟩; (case inl => cases hx); have S5 := HSV.out.below hb5; have B5 := HBX.out.trans (hb5.mono HBX.out.size); have R5 := own_below2 HROW.out hb5; have D5 := own_below2 HDONE.out hb5))
          obtain rfl : lg.docs = LN := Option.some.inj hx
          clear hx
          have HS5 := Lib.hid S5
          have HB5 := Lib.hid B5
          have HR5 := Lib.hid (own_slice R5)
          have HN5 := Lib.hid (own_slice hrow5)
          have HD5 := Lib.hid D5
          obtain ⟨pn, cn, rfl⟩ := own_shape hrow5
          clear S5 B5 R5 hrow5 D5 hb5
          have hlgn : lg.docs.length ≤ 32 := HLI.out.len
          have hLn : L.length ≤ 32 := by
            have hi := HG2.out.inv xh (List.mem_append_right _ List.mem_cons_self)
            rw [HLD.out] at hi
            exact hi.len
          go_loopw [14] (fun iv wx => ∃ k3 : Nat, iv = .int .i64 k3 ∧ k3 ≤ L.length ∧ Below w5.heap.size w5 wx) (fun iv _ => L.length - (RowKit.intOf iv).toNat)
          case atStart => exact ⟨0, rfl, Nat.zero_le _, Below.refl _ _⟩
          case round =>
            obtain ⟨k3, rfl, hk3, hB3⟩ := hrel
            have hB3w := HB5.out.trans (hB3.mono HB5.out.size)
            by_cases hk3n : (k3 : Int) < (L.length : Int)
            · have hk31 : k3 < L.length := by omega
              obtain ⟨d, hd⟩ : ∃ d, L[k3]? = some d := ⟨_, List.getElem?_eq_getElem (by omega)⟩
              have hsl := HR5.out.below hB3
              obtain ⟨ps, cs, hps, _, hdocs⟩ := hsl
              obtain ⟨rfl, _, rfl⟩ : pv = ps ∧ L.length = L.length ∧ cv = cs := by cases hps; exact ⟨rfl, rfl, rfl⟩
              obtain ⟨a, rfl, hA⟩ := hdocs k3 d hd
              have HDA : Hid (∀ wx, Below w5.heap.size w5 wx → DocA wx (a.add (k3 * 3)) d) := Lib.hid fun wx hb => by
                obtain ⟨p2, c2, h1, _, h3⟩ := HR5.out.below hb
                obtain ⟨a2, h4, h5⟩ := h3 k3 d hd
                cases h1
                cases h4
                exact h5
              have HDD := Lib.hid hd
              clear hd hps hdocs hA
              go_wp2_with fail
              go_loopw [15, 16] (fun tv jv wx => ∃ j : Nat, jv = .int .i64 j ∧ j ≤ A.length ∧ tv = .bool (decide (d.uri ∈ (A.take j).map (·.uri))) ∧ Below w5.heap.size w5 wx) (fun _ jv _ => A.length - (RowKit.intOf jv).toNat)
              case atStart => exact ⟨0, rfl, Nat.zero_le _, by simp, hB3⟩
              case round =>
                obtain ⟨j, rfl, hj, rfl, hB4⟩ := hrel
                clear hB3 hB3w
                by_cases hjn : (j : Int) < (A.length : Int)
                · obtain ⟨gA, hgA⟩ : ∃ g, A[j]? = some g := ⟨_, List.getElem?_eq_getElem (by omega)⟩
                  have htk : (A.take (j + 1)).map (·.uri) = (A.take j).map (·.uri) ++ [gA.uri] := by
                    rw [List.take_add_one, hgA]
                    simp
                  have hDn := own_below2 HD5.out hB4
                  rcases hDn.2 with ⟨_, h0⟩ | ⟨gd, cap1, cur, hv1, _, _, _⟩
                  · omega
                  obtain ⟨rfl, rfl⟩ : pd = some ⟨gd, 0, none⟩ ∧ cd = cap1 := by cases hv1; exact ⟨rfl, rfl⟩
                  have hcell : wr.cell? ⟨gd, j, none⟩ = some (.string ⟨gA.uri.toArray⟩) := by
                    rw [hDn.cellAt j (by omega), List.getElem?_map, hgA]
                    rfl
                  have hda := (HDA.out _ hB4).c0
                  obtain ⟨U1, hU1⟩ : ∃ U : ByteArray, (⟨gA.uri.toArray⟩ : ByteArray) = U := ⟨_, rfl⟩
                  obtain ⟨U2, hU2⟩ : ∃ U : ByteArray, (⟨d.uri.toArray⟩ : ByteArray) = U := ⟨_, rfl⟩
                  have hcmp : (U1.toList == U2.toList) = decide (gA.uri = d.uri) := by
                    rw [← hU1, ← hU2, ByteArray.toList_eq, ByteArray.toList_eq]
                    by_cases e : gA.uri = d.uri
                    · rw [decide_eq_true e]; simpa using e
                    · rw [decide_eq_false e]; simpa using e
                  have hnx : decide (d.uri ∈ (A.take (j + 1)).map (·.uri)) = (decide (d.uri ∈ (A.take j).map (·.uri)) || decide (gA.uri = d.uri)) := by
                    rw [htk, Bool.eq_iff_iff, Bool.or_eq_true, decide_eq_true_iff, decide_eq_true_iff, decide_eq_true_iff, List.mem_append, List.mem_singleton]
                    exact or_congr Iff.rfl eq_comm
                  rw [hU1] at hcell
                  rw [hU2] at hda
                  have HNX := Lib.hid hnx
                  clear htk hDn hv1 hgA hU1 hU2 hnx
                  obtain ⟨tb, htb⟩ : ∃ tb, decide (d.uri ∈ (A.take j).map (·.uri)) = tb := ⟨_, rfl⟩
                  rw [htb] at HNX ⊢
                  obtain ⟨cb, hcb⟩ : ∃ cb, decide (gA.uri = d.uri) = cb := ⟨_, rfl⟩
                  rw [hcb] at HNX hcmp
                  clear htb hcb
                  cases tb with
                  | true =>
                    go_wp2_with fail
                    go_quiet (fail)
                    go_wp2_with fail
                    go_roundw
                    case rel => exact ⟨j + 1, by go_num, by omega, by rw [HNX.out]; rfl, below_draws hB4 _⟩
                    case measure => simp [RowKit.intOf]; omega
                  | false =>
                    cases cb with
                    | true =>
                      go_wp2_with fail
                      go_quiet (fail)
                      go_wp2_with fail
                      go_roundw
                      case rel => exact ⟨j + 1, by go_num, by omega, by rw [HNX.out]; rfl, below_draws hB4 _⟩
                      case measure => simp [RowKit.intOf]; omega
                    | false =>
                      go_wp2_with fail
                      go_quiet (fail)
                      go_wp2_with fail
                      go_roundw
                      case rel => exact ⟨j + 1, by go_num, by omega, by rw [HNX.out]; rfl, below_draws hB4 _⟩
                      case measure => simp [RowKit.intOf]; omega
                · have hjA : j = A.length := by omega
                  obtain ⟨tb, htb⟩ : ∃ tb, decide (d.uri ∈ A.map (·.uri)) = tb := ⟨_, rfl⟩
                  rw [hjA, List.take_length, htb]
                  have HTB := Lib.hid htb
                  clear hjA htb hj hjn
                  have hL := HLD.out
                  have hget : getD? L d.uri = some d := by
                    have hO : Ord L := by
                      have := (HG2.out.inv xh (List.mem_append_right _ List.mem_cons_self)).ord
                      rwa [hL] at this
                    rcases at_get L d.uri with ⟨g1, _⟩ | ⟨k, d2, g1, g2, g3, _, _⟩
                    · exact absurd rfl (get_none_all g1 d (List.mem_of_getElem? HDD.out))
                    · rw [g3]
                      congr 1
                      by_cases e : k = k3
                      · subst e
                        rw [HDD.out] at g1
                        exact (Option.some.inj g1).symm
                      · exfalso
                        obtain ⟨hk1, e1⟩ := List.getElem?_eq_some_iff.1 g1
                        obtain ⟨hk2, e2⟩ := List.getElem?_eq_some_iff.1 HDD.out
                        have hp := List.pairwise_iff_getElem.1 hO
                        rcases Nat.lt_or_ge k k3 with h | h
                        · have := hp k k3 hk1 hk2 h
                          rw [e1, e2, g2, bb_irrefl] at this
                          cases this
                        · have := hp k3 k hk2 hk1 (by omega)
                          rw [e1, e2, g2, bb_irrefl] at this
                          cases this
                  have hdi : (dirV d.uri).isSome = true := by
                    have hi := HG2.out.inv xh (List.mem_append_right _ List.mem_cons_self)
                    rw [hL] at hi
                    exact (hi.all d (List.mem_of_getElem? HDD.out)).1
                  have hPq := HQ.out
                  have hNq := HN1.out
                  have hgl := HG2.out.len
                  have hq2 : N1 ≤ 100 := by simp at hgl; omega
                  obtain ⟨U2, hU2⟩ : ∃ U : ByteArray, (⟨d.uri.toArray⟩ : ByteArray) = U := ⟨_, rfl⟩
                  have hUd : U2.data.toList = d.uri := by rw [← hU2]
                  have hUs : U2.size ≤ maxLen := by
                    rw [← hU2, size_arr]
                    have := dir_size hdi
                    unfold maxLen
                    omega
                  obtain ⟨G, hGd⟩ : ∃ G, P ++ xh :: A = G := ⟨_, rfl⟩
                  have hofG := HOFG.out
                  have hofN := HOFN.out
                  have hC := HC2.out
                  have hTc := HT2.out
                  have hlg := HLG.out
                  rw [hGd, hPq] at hofG
                  rw [hGd, hNq] at hofN
                  rw [hGd] at hC
                  rw [hGd, hNq] at hlg
                  have hatG : G[q]? = some xh := by rw [← hGd, ← hPq]; simp
                  obtain ⟨c1, hc1⟩ : ∃ c, cameOf G q d.uri = c := ⟨_, rfl⟩
                  obtain ⟨c2, hc2⟩ : ∃ c, cameOf G N1 d.uri = c := ⟨_, rfl⟩
                  have hb1 : 1 ≤ c1 ∧ c1 ≤ q := by
                    rw [← hc1]
                    exact hC q xh hatG d.uri (by rw [hL, hget]; rfl)
                  obtain ⟨st, hst⟩ : ∃ st, (getD? lg.docs d.uri).isSome = st := ⟨_, rfl⟩
                  have hb2 : st = true → c2 ≤ N1 := fun e => by
                    rw [← hc2]
                    exact (hC N1 lg hlg d.uri (by rw [hst, e])).2
                  have hvG : cameV (kept G) G (q : Int) d.uri = some c1 := by
                    unfold cameV
                    rw [hofG]
                    simp only
                    rw [if_pos (by rw [hL, hget]; rfl), Int.toNat_natCast, hc1]
                  have hvN : cameV (kept G) G (N1 : Int) d.uri = if st = true then some c2 else none := by
                    unfold cameV
                    rw [hofN]
                    simp only
                    rw [hst, Int.toNat_natCast, hc2]
                  have hno : tb = false → getD? lg.docs d.uri = some d ∧ c2 = c1 := fun e => by
                    have hn : d.uri ∉ A.map (·.uri) := by have := HTB.out; rw [e] at this; simpa using this
                    obtain ⟨h1, h2⟩ := hTc.no d.uri hn
                    rw [hGd, hNq] at h1 h2
                    refine ⟨by rw [h1 lg hlg, hL]; exact hget, ?_⟩
                    rw [← hc1, ← hc2, h2, ← hGd, hPq]
                    unfold cameOf
                    rw [List.take_of_length_le (by simp; omega), show P ++ xh :: A = (P ++ [xh]) ++ A by simp, List.take_append_of_le_length (by simp; omega), List.take_of_length_le (by simp; omega)]
                  have hyes : tb = true → q < c2 := fun e => by
                    have hn : d.uri ∈ A.map (·.uri) := by have := HTB.out; rw [e] at this; simpa using this
                    have := hTc.yes d.uri hn
                    rw [hGd, hNq, hPq] at this
                    rw [← hc2]
                    exact this
                  have hca := fun w2 (S : SV w2 s m w.heap.size (P ++ xh :: A)) => sc_any S (q : Int) (wfI_of (by omega) (by omega)) U2 hUs
                  have hcb := fun w2 (S : SV w2 s m w.heap.size (P ++ xh :: A)) => sc_any S (N1 : Int) (wfI_of (by omega) (by omega)) U2 hUs
                  rw [hGd, hUd, hvG] at hca
                  rw [hGd, hUd, hvN] at hcb
                  have hnw2 := fun w2 (S : SV w2 s m w.heap.size (P ++ xh :: A)) => snow_any S
                  rw [show (P ++ xh :: A).length - 1 = N1 by rw [← hNq]; simp, hGd] at hnw2
                  have HSV2 := Lib.hid (fun wx (hb : Below w5.heap.size w5 wx) => (HS5.out.below hb))
                  rw [hGd] at HSV2
                  have HCA := Lib.hid hca
                  have HCB := Lib.hid hcb
                  have HNW2 := Lib.hid hnw2
                  have HUD : Hid (∀ wx, Below w5.heap.size w5 wx → wx.cell? (a.add (k3 * 3)) = some (.string U2)) := Lib.hid fun wx hb => by rw [← hU2]; exact (HDA.out wx hb).c0
                  have HNO := Lib.hid hno
                  have HST := Lib.hid hst
                  have HDM : Hid (getD? lg.docs d.uri = some d → d ∈ lg.docs) := Lib.hid get_mem
                  have hd0 := HUD.out _ hB4
                  clear hdi hPq hNq hgl hU2 hUd hUs hGd hofG hofN hC hTc hlg hatG hc1 hc2 hst hvG hvN hno hca hcb hnw2 hget hL
                  simp only [Option.getD_some, Option.isSome_some] at HCA
                  cases tb with
                  | false =>
                    have hno2 := HNO.out rfl
                    have hdl := HDM.out hno2.1
                    obtain rfl : st = true := by rw [← HST.out, hno2.1]; rfl
                    obtain rfl : c1 = c2 := hno2.2.symm
                    have hb2' := hb2 rfl
                    clear hb2 HNO hno2 hyes
                    simp only [if_true, Option.getD_some, Option.isSome_some] at HCB
                    go_upto_region 32 with (first
                      | (go_at_call 25; refine (HCA.out _ (HSV2.out _ hB4)).mono ?_; rintro e wu ⟨hw, rfl⟩; subst wu))
                    have hB4d : Below w5.heap.size w5 wr.drew := hB4.trans ((Below.refl wr.heap.size wr).drew.mono hB4.size)
                    go_region_held3 (fun v => v.cell? (a.add (k3 * 3)) = some (.string U2)) (first | exact hd0 | exact HUD.out _ hB4d) (first
                      | (go_at_call 24; refine (HNW2.out _ (HSV2.out _ hB4d)).mono ?_; rintro e wu ⟨rfl, hw⟩; subst wu)
                      | (go_at_call 25; refine (HCB.out _ (HSV2.out _ hB4d)).mono ?_; rintro e wu ⟨hw, rfl⟩; subst wu))
                    have h1a : ¬ (c1 : Int) < 1 := by omega
                    have h1b : ¬ (q : Int) < (c1 : Int) := by omega
                    have h2a : ((c1 : Int) == (c1 : Int)) = true := by simp
                    have h2b : ¬ (N1 : Int) < (c1 : Int) := by omega
                    go_wp2_with (first
                      | (go_at_call 24; refine (HNW2.out _ (HSV2.out _ hB4d)).mono ?_; rintro e wu ⟨rfl, hw⟩; subst wu))
                    go_loopw [21, 22] (fun fv jv wx => ∃ j : Nat, jv = .int .i64 j ∧ j ≤ lg.docs.length ∧ fv = .bool (decide (d ∈ lg.docs.take j)) ∧ Below w5.heap.size w5 wx) (fun _ jv _ => lg.docs.length - (RowKit.intOf jv).toNat)
                    case atStart => exact ⟨0, rfl, Nat.zero_le _, by simp, hB4d⟩
                    case round =>
                      obtain ⟨j, rfl, hj, rfl, hB6⟩ := hrel
                      by_cases hjn : (j : Int) < (lg.docs.length : Int)
                      · obtain ⟨x, hx⟩ : ∃ x, lg.docs[j]? = some x := ⟨_, List.getElem?_eq_getElem (by omega)⟩
                        obtain ⟨p6, c6, h61, _, h63⟩ := HN5.out.below hB6
                        obtain ⟨b6, h64, h65⟩ := h63 j x hx
                        cases h61
                        obtain rfl := h64
                        have hnx : decide (d ∈ lg.docs.take (j + 1)) = (decide (d ∈ lg.docs.take j) || decide (x = d)) := by
                          rw [List.take_add_one, hx, Bool.eq_iff_iff, Bool.or_eq_true, decide_eq_true_iff, decide_eq_true_iff, decide_eq_true_iff, List.mem_append]
                          exact or_congr Iff.rfl (by simp [eq_comm])
                        obtain ⟨e0, e1, e2⟩ := h65
                        obtain ⟨f0, f1, f2⟩ := HDA.out _ hB6
                        have HNX := Lib.hid hnx
                        clear hnx hx h63
                        obtain ⟨fb, hfb⟩ : ∃ fb, decide (d ∈ lg.docs.take j) = fb := ⟨_, rfl⟩
                        rw [hfb] at HNX ⊢
                        clear hfb
                        have hB6q := fun q => below_draws hB6 q
                        cases fb with
                        | true =>
                          go_wp2_with fail
                          go_quiet (fail)
                          go_wp2_with fail
                          go_roundw
                          case rel => exact ⟨j + 1, by go_num, by omega, by rw [HNX.out]; rfl, hB6q _⟩
                          case measure => simp [RowKit.intOf]; omega
                        | false =>
                          by_cases hxd : x = d
                          · rw [decide_eq_true hxd] at HNX
                            subst hxd
                            obtain ⟨V1, hV1⟩ : ∃ U : ByteArray, (⟨x.uri.toArray⟩ : ByteArray) = U := ⟨_, rfl⟩
                            obtain ⟨V2, hV2⟩ : ∃ U : ByteArray, (⟨x.text.toArray⟩ : ByteArray) = U := ⟨_, rfl⟩
                            rw [hV1] at e0 f0
                            rw [hV2] at e1 f1
                            clear hV1 hV2
                            go_wp2_with fail
                            go_quiet (fail)
                            go_wp2_with fail
                            go_roundw
                            case rel => exact ⟨j + 1, by go_num, by omega, by rw [HNX.out]; rfl, hB6q _⟩
                            case measure => simp [RowKit.intOf]; omega
                          · rw [decide_eq_false hxd] at HNX
                            by_cases n0 : x.uri = d.uri
                            · obtain ⟨U, hU⟩ : ∃ U : ByteArray, (⟨x.uri.toArray⟩ : ByteArray) = U := ⟨_, rfl⟩
                              rw [← n0, hU] at f0
                              rw [hU] at e0
                              clear hU
                              by_cases n1 : x.text = d.text
                              · obtain ⟨V, hV⟩ : ∃ U : ByteArray, (⟨x.text.toArray⟩ : ByteArray) = U := ⟨_, rfl⟩
                                rw [← n1, hV] at f1
                                rw [hV] at e1
                                clear hV
                                have n2 : ¬ x.ver = d.ver := fun e => hxd (by cases x; cases d; simp_all)
                                clear hxd n0 n1
                                go_wp2_with fail
                                go_quiet (fail)
                                go_wp2_with fail
                                go_roundw
                                case rel => exact ⟨j + 1, by go_num, by omega, by rw [HNX.out]; rfl, hB6q _⟩
                                case measure => simp [RowKit.intOf]; omega
                              · have n1' := list_ne n1
                                obtain ⟨V, hV⟩ : ∃ U : ByteArray, (⟨x.text.toArray⟩ : ByteArray) = U := ⟨_, rfl⟩
                                obtain ⟨V', hV'⟩ : ∃ U : ByteArray, (⟨d.text.toArray⟩ : ByteArray) = U := ⟨_, rfl⟩
                                rw [hV] at e1 n1'
                                rw [hV'] at f1 n1'
                                clear hV hV' hxd n0 n1
                                go_wp2_with fail
                                go_quiet (fail)
                                go_wp2_with fail
                                go_roundw
                                case rel => exact ⟨j + 1, by go_num, by omega, by rw [HNX.out]; rfl, hB6q _⟩
                                case measure => simp [RowKit.intOf]; omega
                            · have n0' := list_ne n0
                              obtain ⟨U, hU⟩ : ∃ U : ByteArray, (⟨x.uri.toArray⟩ : ByteArray) = U := ⟨_, rfl⟩
                              obtain ⟨U', hU'⟩ : ∃ U : ByteArray, (⟨d.uri.toArray⟩ : ByteArray) = U := ⟨_, rfl⟩
                              rw [hU] at e0 n0'
                              rw [hU'] at f0 n0'
                              clear hU hU' hxd n0
                              go_wp2_with fail
                              go_quiet (fail)
                              go_wp2_with fail
                              go_roundw
                              case rel => exact ⟨j + 1, by go_num, by omega, by rw [HNX.out]; rfl, hB6q _⟩
                              case measure => simp [RowKit.intOf]; omega
                      · have hjl : j = lg.docs.length := by omega
                        have hft : decide (d ∈ lg.docs.take j) = true := by rw [hjl, List.take_length]; exact decide_eq_true hdl
                        rw [hft]
                        clear hft hjl hdl
                        go_wp2_with fail
                        go_roundw
                        case rel => exact ⟨k3 + 1, by go_num, by omega, hB6⟩
                        case measure => simp [RowKit.intOf]; omega
                  | true =>
                    have hlt := hyes rfl
                    clear hyes HNO
                    cases st with
                    | false =>
                      clear hb2
                      simp only [Bool.false_eq_true, if_false, Option.getD_none, Option.isSome_none] at HCB
                      go_upto_region 32 with (first
                        | (go_at_call 25; refine (HCA.out _ (HSV2.out _ hB4)).mono ?_; rintro e wu ⟨hw, rfl⟩; subst wu))
                      have hB4d : Below w5.heap.size w5 wr.drew := hB4.trans ((Below.refl wr.heap.size wr).drew.mono hB4.size)
                      go_region_held3 (fun v => v.cell? (a.add (k3 * 3)) = some (.string U2)) (first | exact hd0 | exact HUD.out _ hB4d) (first
                        | (go_at_call 24; refine (HNW2.out _ (HSV2.out _ hB4d)).mono ?_; rintro e wu ⟨rfl, hw⟩; subst wu)
                        | (go_at_call 25; refine (HCB.out _ (HSV2.out _ hB4d)).mono ?_; rintro e wu ⟨hw, rfl⟩; subst wu))
                      have h1a : ¬ (c1 : Int) < 1 := by omega
                      have h1b : ¬ (q : Int) < (c1 : Int) := by omega
                      have h0 := True.intro
                      go_wp2_with (first
                        | (go_at_call 24; refine (HNW2.out _ (HSV2.out _ hB4d)).mono ?_; rintro e wu ⟨rfl, hw⟩; subst wu))
                      go_loopw [21, 22] (fun fv jv wx => ∃ j : Nat, jv = .int .i64 j ∧ j ≤ lg.docs.length ∧ fv = .bool (decide (d ∈ lg.docs.take j)) ∧ Below w5.heap.size w5 wx) (fun _ jv _ => lg.docs.length - (RowKit.intOf jv).toNat)
                      case atStart => exact ⟨0, rfl, Nat.zero_le _, by simp, hB4d⟩
                      case round =>
                        obtain ⟨j, rfl, hj, rfl, hB6⟩ := hrel
                        by_cases hjn : (j : Int) < (lg.docs.length : Int)
                        · obtain ⟨x, hx⟩ : ∃ x, lg.docs[j]? = some x := ⟨_, List.getElem?_eq_getElem (by omega)⟩
                          obtain ⟨p6, c6, h61, _, h63⟩ := HN5.out.below hB6
                          obtain ⟨b6, h64, h65⟩ := h63 j x hx
                          cases h61
                          obtain rfl := h64
                          have hnx : decide (d ∈ lg.docs.take (j + 1)) = (decide (d ∈ lg.docs.take j) || decide (x = d)) := by
                            rw [List.take_add_one, hx, Bool.eq_iff_iff, Bool.or_eq_true, decide_eq_true_iff, decide_eq_true_iff, decide_eq_true_iff, List.mem_append]
                            exact or_congr Iff.rfl (by simp [eq_comm])
                          obtain ⟨e0, e1, e2⟩ := h65
                          obtain ⟨f0, f1, f2⟩ := HDA.out _ hB6
                          have HNX := Lib.hid hnx
                          clear hnx hx h63
                          obtain ⟨fb, hfb⟩ : ∃ fb, decide (d ∈ lg.docs.take j) = fb := ⟨_, rfl⟩
                          rw [hfb] at HNX ⊢
                          clear hfb
                          have hB6q := fun q => below_draws hB6 q
                          cases fb with
                          | true =>
                            go_wp2_with fail
                            go_quiet (fail)
                            go_wp2_with fail
                            go_roundw
                            case rel => exact ⟨j + 1, by go_num, by omega, by rw [HNX.out]; rfl, hB6q _⟩
                            case measure => simp [RowKit.intOf]; omega
                          | false =>
                            by_cases hxd : x = d
                            · rw [decide_eq_true hxd] at HNX
                              subst hxd
                              obtain ⟨V1, hV1⟩ : ∃ U : ByteArray, (⟨x.uri.toArray⟩ : ByteArray) = U := ⟨_, rfl⟩
                              obtain ⟨V2, hV2⟩ : ∃ U : ByteArray, (⟨x.text.toArray⟩ : ByteArray) = U := ⟨_, rfl⟩
                              rw [hV1] at e0 f0
                              rw [hV2] at e1 f1
                              clear hV1 hV2
                              go_wp2_with fail
                              go_quiet (fail)
                              go_wp2_with fail
                              go_roundw
                              case rel => exact ⟨j + 1, by go_num, by omega, by rw [HNX.out]; rfl, hB6q _⟩
                              case measure => simp [RowKit.intOf]; omega
                            · rw [decide_eq_false hxd] at HNX
                              by_cases n0 : x.uri = d.uri
                              · obtain ⟨U, hU⟩ : ∃ U : ByteArray, (⟨x.uri.toArray⟩ : ByteArray) = U := ⟨_, rfl⟩
                                rw [← n0, hU] at f0
                                rw [hU] at e0
                                clear hU
                                by_cases n1 : x.text = d.text
                                · obtain ⟨V, hV⟩ : ∃ U : ByteArray, (⟨x.text.toArray⟩ : ByteArray) = U := ⟨_, rfl⟩
                                  rw [← n1, hV] at f1
                                  rw [hV] at e1
                                  clear hV
                                  have n2 : ¬ x.ver = d.ver := fun e => hxd (by cases x; cases d; simp_all)
                                  clear hxd n0 n1
                                  go_wp2_with fail
                                  go_quiet (fail)
                                  go_wp2_with fail
                                  go_roundw
                                  case rel => exact ⟨j + 1, by go_num, by omega, by rw [HNX.out]; rfl, hB6q _⟩
                                  case measure => simp [RowKit.intOf]; omega
                                · have n1' := list_ne n1
                                  obtain ⟨V, hV⟩ : ∃ U : ByteArray, (⟨x.text.toArray⟩ : ByteArray) = U := ⟨_, rfl⟩
                                  obtain ⟨V', hV'⟩ : ∃ U : ByteArray, (⟨d.text.toArray⟩ : ByteArray) = U := ⟨_, rfl⟩
                                  rw [hV] at e1 n1'
                                  rw [hV'] at f1 n1'
                                  clear hV hV' hxd n0 n1
                                  go_wp2_with fail
                                  go_quiet (fail)
                                  go_wp2_with fail
                                  go_roundw
                                  case rel => exact ⟨j + 1, by go_num, by omega, by rw [HNX.out]; rfl, hB6q _⟩
                                  case measure => simp [RowKit.intOf]; omega
                              · have n0' := list_ne n0
                                obtain ⟨U, hU⟩ : ∃ U : ByteArray, (⟨x.uri.toArray⟩ : ByteArray) = U := ⟨_, rfl⟩
                                obtain ⟨U', hU'⟩ : ∃ U : ByteArray, (⟨d.uri.toArray⟩ : ByteArray) = U := ⟨_, rfl⟩
                                rw [hU] at e0 n0'
                                rw [hU'] at f0 n0'
                                clear hU hU' hxd n0
                                go_wp2_with fail
                                go_quiet (fail)
                                go_wp2_with fail
                                go_roundw
                                case rel => exact ⟨j + 1, by go_num, by omega, by rw [HNX.out]; rfl, hB6q _⟩
                                case measure => simp [RowKit.intOf]; omega
                        · go_wp2_with fail
                          go_roundw
                          case rel => exact ⟨k3 + 1, by go_num, by omega, hB6⟩
                          case measure => simp [RowKit.intOf]; omega
                    | true =>
                      have hb2' := hb2 rfl
                      clear hb2
                      simp only [if_true, Option.getD_some, Option.isSome_some] at HCB
                      go_upto_region 32 with (first
                        | (go_at_call 25; refine (HCA.out _ (HSV2.out _ hB4)).mono ?_; rintro e wu ⟨hw, rfl⟩; subst wu))
                      have hB4d : Below w5.heap.size w5 wr.drew := hB4.trans ((Below.refl wr.heap.size wr).drew.mono hB4.size)
                      go_region_held3 (fun v => v.cell? (a.add (k3 * 3)) = some (.string U2)) (first | exact hd0 | exact HUD.out _ hB4d) (first
                        | (go_at_call 24; refine (HNW2.out _ (HSV2.out _ hB4d)).mono ?_; rintro e wu ⟨rfl, hw⟩; subst wu)
                        | (go_at_call 25; refine (HCB.out _ (HSV2.out _ hB4d)).mono ?_; rintro e wu ⟨hw, rfl⟩; subst wu))
                      have h1a : ¬ (c1 : Int) < 1 := by omega
                      have h1b : ¬ (q : Int) < (c1 : Int) := by omega
                      have h2a : ((c1 : Int) == (c2 : Int)) = false := by simp; omega
                      have h2b : ¬ (N1 : Int) < (c2 : Int) := by omega
                      go_wp2_with (first
                        | (go_at_call 24; refine (HNW2.out _ (HSV2.out _ hB4d)).mono ?_; rintro e wu ⟨rfl, hw⟩; subst wu))
                      go_loopw [21, 22] (fun fv jv wx => ∃ j : Nat, jv = .int .i64 j ∧ j ≤ lg.docs.length ∧ fv = .bool (decide (d ∈ lg.docs.take j)) ∧ Below w5.heap.size w5 wx) (fun _ jv _ => lg.docs.length - (RowKit.intOf jv).toNat)
                      case atStart => exact ⟨0, rfl, Nat.zero_le _, by simp, hB4d⟩
                      case round =>
                        obtain ⟨j, rfl, hj, rfl, hB6⟩ := hrel
                        by_cases hjn : (j : Int) < (lg.docs.length : Int)
                        · obtain ⟨x, hx⟩ : ∃ x, lg.docs[j]? = some x := ⟨_, List.getElem?_eq_getElem (by omega)⟩
                          obtain ⟨p6, c6, h61, _, h63⟩ := HN5.out.below hB6
                          obtain ⟨b6, h64, h65⟩ := h63 j x hx
                          cases h61
                          obtain rfl := h64
                          have hnx : decide (d ∈ lg.docs.take (j + 1)) = (decide (d ∈ lg.docs.take j) || decide (x = d)) := by
                            rw [List.take_add_one, hx, Bool.eq_iff_iff, Bool.or_eq_true, decide_eq_true_iff, decide_eq_true_iff, decide_eq_true_iff, List.mem_append]
                            exact or_congr Iff.rfl (by simp [eq_comm])
                          obtain ⟨e0, e1, e2⟩ := h65
                          obtain ⟨f0, f1, f2⟩ := HDA.out _ hB6
                          have HNX := Lib.hid hnx
                          clear hnx hx h63
                          obtain ⟨fb, hfb⟩ : ∃ fb, decide (d ∈ lg.docs.take j) = fb := ⟨_, rfl⟩
                          rw [hfb] at HNX ⊢
                          clear hfb
                          have hB6q := fun q => below_draws hB6 q
                          cases fb with
                          | true =>
                            go_wp2_with fail
                            go_quiet (fail)
                            go_wp2_with fail
                            go_roundw
                            case rel => exact ⟨j + 1, by go_num, by omega, by rw [HNX.out]; rfl, hB6q _⟩
                            case measure => simp [RowKit.intOf]; omega
                          | false =>
                            by_cases hxd : x = d
                            · rw [decide_eq_true hxd] at HNX
                              subst hxd
                              obtain ⟨V1, hV1⟩ : ∃ U : ByteArray, (⟨x.uri.toArray⟩ : ByteArray) = U := ⟨_, rfl⟩
                              obtain ⟨V2, hV2⟩ : ∃ U : ByteArray, (⟨x.text.toArray⟩ : ByteArray) = U := ⟨_, rfl⟩
                              rw [hV1] at e0 f0
                              rw [hV2] at e1 f1
                              clear hV1 hV2
                              go_wp2_with fail
                              go_quiet (fail)
                              go_wp2_with fail
                              go_roundw
                              case rel => exact ⟨j + 1, by go_num, by omega, by rw [HNX.out]; rfl, hB6q _⟩
                              case measure => simp [RowKit.intOf]; omega
                            · rw [decide_eq_false hxd] at HNX
                              by_cases n0 : x.uri = d.uri
                              · obtain ⟨U, hU⟩ : ∃ U : ByteArray, (⟨x.uri.toArray⟩ : ByteArray) = U := ⟨_, rfl⟩
                                rw [← n0, hU] at f0
                                rw [hU] at e0
                                clear hU
                                by_cases n1 : x.text = d.text
                                · obtain ⟨V, hV⟩ : ∃ U : ByteArray, (⟨x.text.toArray⟩ : ByteArray) = U := ⟨_, rfl⟩
                                  rw [← n1, hV] at f1
                                  rw [hV] at e1
                                  clear hV
                                  have n2 : ¬ x.ver = d.ver := fun e => hxd (by cases x; cases d; simp_all)
                                  clear hxd n0 n1
                                  go_wp2_with fail
                                  go_quiet (fail)
                                  go_wp2_with fail
                                  go_roundw
                                  case rel => exact ⟨j + 1, by go_num, by omega, by rw [HNX.out]; rfl, hB6q _⟩
                                  case measure => simp [RowKit.intOf]; omega
                                · have n1' := list_ne n1
                                  obtain ⟨V, hV⟩ : ∃ U : ByteArray, (⟨x.text.toArray⟩ : ByteArray) = U := ⟨_, rfl⟩
                                  obtain ⟨V', hV'⟩ : ∃ U : ByteArray, (⟨d.text.toArray⟩ : ByteArray) = U := ⟨_, rfl⟩
                                  rw [hV] at e1 n1'
                                  rw [hV'] at f1 n1'
                                  clear hV hV' hxd n0 n1
                                  go_wp2_with fail
                                  go_quiet (fail)
                                  go_wp2_with fail
                                  go_roundw
                                  case rel => exact ⟨j + 1, by go_num, by omega, by rw [HNX.out]; rfl, hB6q _⟩
                                  case measure => simp [RowKit.intOf]; omega
                              · have n0' := list_ne n0
                                obtain ⟨U, hU⟩ : ∃ U : ByteArray, (⟨x.uri.toArray⟩ : ByteArray) = U := ⟨_, rfl⟩
                                obtain ⟨U', hU'⟩ : ∃ U : ByteArray, (⟨d.uri.toArray⟩ : ByteArray) = U := ⟨_, rfl⟩
                                rw [hU] at e0 n0'
                                rw [hU'] at f0 n0'
                                clear hU hU' hxd n0
                                go_wp2_with fail
                                go_quiet (fail)
                                go_wp2_with fail
                                go_roundw
                                case rel => exact ⟨j + 1, by go_num, by omega, by rw [HNX.out]; rfl, hB6q _⟩
                                case measure => simp [RowKit.intOf]; omega
                        · go_wp2_with fail
                          go_roundw
                          case rel => exact ⟨k3 + 1, by go_num, by omega, hB6⟩
                          case measure => simp [RowKit.intOf]; omega
            · go_wp2_with (first
                | (go_at_call 19; refine (hw _ (hT.below hB3w)).mono ?_; rintro e w7 ⟨rfl, b7⟩))
              go_ret
              exact ⟨rfl, hB3w.trans (b7.mono hB3w.size)⟩
end Go.Proofs.Sn
