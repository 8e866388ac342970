/- The reference's Parse. Printed by gen_z10.py. -/
import Derived.Test.YtphiceebhncflaaGreatDoorZ9
import Derived.Test.YtphiceebhncflaaGreatDoorZ4
import Derived.Test.YtphiceebhncflaaGreatDoorZ5
namespace Go.Proofs.Jt
open Go.RowKit Go.Maps Go.Lib Go.Proofs.Utf Go.Proofs

theorem next_kind1 {l : List UInt8} {k : Nat} {x : List UInt8} {m : Nat} (h : nextL l = some (k, x, m)) : 1 ≤ k := by
  cases l with
  | nil => cases h
  | cons c t =>
    rw [nextL_cons] at h
    split at h
    · cases h; omega
    · split at h
      · obtain ⟨q, hq, e⟩ := Option.map_eq_some_iff.1 h
        cases e; omega
      · split at h
        · cases h; omega
        · split at h
          · cases h; omega
          · cases h
theorem Lx.k1 {l : List UInt8} {a : Nat} {T : List Tok} (h : Lx l a T) : ∀ y ∈ kt T, 1 ≤ y.1 := by
  induction h with
  | nil a => intro y hy; cases hy
  | blank h _ ih => exact ih
  | @tok c t a T k x m h h1 h2 ih =>
    intro y hy
    rcases List.mem_cons.1 hy with e | hy
    · cases e
      exact next_kind1 h1
    · exact ih y hy
theorem PP.okv {w w3 w5 w6 V : World} {l : List UInt8} {v : JV} {S : ByteArray} {kp ip : Option Addr} {kc ic : Nat} (hp : parV l = (v, 0)) (hS : (⟨v.str.toArray⟩ : ByteArray) = S) (hk : KP w5 (w3.heap.size ≤ ·) v kp kc ip ic) (hvl : v.str.length ≤ maxLen) (hz : w.heap.size < w3.heap.size) (h6 : Below w5.heap.size w5 w6) (hb : Below w.heap.size w w6) (hg : w6.grownBy V (some w.heap.size)) :
    PP w l (.returned (.tuple #[.agg #[.int .i64 v.kind, .string S, .slice kp v.keys.length kc, .slice ip v.items.length ic], .int .i64 0])) V := by
  subst hS
  refine ⟨⟨kp, kc, ip, ic, by rw [hp]; rfl, ?_, by rw [hp]; exact hvl⟩, below_gbz hb (Nat.le_refl _) hg⟩
  rw [hp]
  exact (hk.fr ((FrP.of_none (P := fun b => b = w.heap.size) (gb_below' h6)).trans (FrP.of hg rfl)) fun b hb e => by omega).keep (Nat.le_refl _) (fun _ _ _ => rfl) fun b hb _ => by omega
set_option maxRecDepth 100000 in
set_option maxHeartbeats 8000000 in
theorem rparse_any (s : ByteArray) (w : World) (hs : s.size ≤ 5000) : Calls Tryz.prog 16 #[.string s] w (PP w s.data.toList) := by
  obtain ⟨W, hW⟩ : ∃ W, w.alloc (.cells #[.int .i64 0, .string ⟨#[]⟩, .slice none 0 0, .slice none 0 0] 25) = W := ⟨_, rfl⟩
  have bW : Below w.heap.size w W := by rw [← hW]; exact (Below.refl _ _).alloc (Nat.le_refl _) _
  have hz0 : JBox W w.heap.size := by rw [← hW]; exact JBox.alloc _ _ _ _ _
  have htk := tokens_ref s W (by omega)
  have hsl : s.data.toList.length = s.size := Array.length_toList
  obtain ⟨l, hl⟩ : ∃ l, s.data.toList = l := ⟨_, rfl⟩
  rw [hl] at htk hsl ⊢
  have hpar : parV l = if (toksL l).2.2 ≠ 0 then (jn 0, (toksL l).2.2) else if 64 < openN (kt (toksL l).1) 0 0 then (jn 0, 3) else match valP (2 * (toksL l).1.length + 1) (kt (toksL l).1) with
    | some (v, []) => if v.dup then (jn 0, 13) else (v, 0)
    | _ => (jn 0, 4) := rfl
  have hlx := @toks_lx l
  obtain ⟨T, A, E, hTK⟩ : ∃ T A E, toksL l = (T, A, E) := ⟨_, _, _, rfl⟩
  rw [hTK] at htk hpar hlx
  dsimp only at htk hpar hlx
  have HB0 := Lib.hid bW
  have HZ := Lib.hid hz0
  have HP := Lib.hid hpar
  have HSL := Lib.hid hsl
  clear hsl bW hz0 hl hTK
  by_cases hE : E = 0
  · obtain ⟨hv, hx⟩ := hlx hE
    have hwk : WK (kt T) := hx.wk (by have := HSL.out; omega)
    have hkw := hx.kw_le
    have hktl : (kt T).length = T.length := List.length_map ..
    have hkl : (kt T).length ≤ 10000 := by
      have h1 : ∀ K : List KT, K.length ≤ kw K := fun K => by
        induction K with
        | nil => exact Nat.le_refl _
        | cons y t ih => obtain ⟨k, x⟩ := y; simp only [List.length_cons, kw]; omega
      have := h1 (kt T)
      have := HSL.out
      omega
    have HWK := Lib.hid hwk
    have HKT := Lib.hid hktl
    have HKL := Lib.hid hkl
    have HK1 := Lib.hid hx.k1
    have HGK := Lib.hid (hx.good hv)
    have HKW : Hid (kw (kt T) ≤ 10000) := Lib.hid (by have := HSL.out; omega)
    rw [if_neg (fun h => h hE)] at hpar
    subst hE
    clear hlx hv hx hwk hkw hktl
    obtain ⟨D, hD⟩ : ∃ D, openN (kt T) 0 0 = D := ⟨_, rfl⟩
    rw [hD] at hpar
    have HOP := Lib.hid hD
    clear hD
    by_cases hd : 64 < D
    · rw [if_pos hd] at hpar
      have hd2 : (D : Int) > 64 := by omega
      have HPE := Lib.hid hpar
      clear hpar HP
      go_enter Tryz.func16, Tryz.ntmps16
      go_wp2_with (first
        | (go_at_call 40; refine htk.mono ?_; rintro e w2 ⟨tv, rfl, hrow, hb2⟩
           obtain ⟨p, c, rfl, hc, hcm, hTP⟩ := tokP_rowE hrow (Nat.le_refl _) HWK.out
           have hop := ropen_any (c := c) hTP (by have := HKL.out; omega) w2 (Below.refl _ _)
           rw [HOP.out] at hop
           have hbx : JBox w2 w.heap.size := HZ.out.same (hb2.block _ HZ.out.lt)
           have HB := Lib.hid hbx
           have HB2 := Lib.hid (Below.on HB0.out hb2)
           have HTP := Lib.hid hTP
           clear hTP hc hcm hrow htk hbx)
        | (go_at_call 41; refine hop.mono ?_; rintro e w3 ⟨rfl, hw⟩; subst hw)
        | (refine store_val rfl (.tmp 2) (.tmp 22) rfl w.heap.size rfl (.int .i64 0) (.string ⟨#[]⟩) (.slice none 0 0) (.slice none 0 0) rfl rfl HB.out (fun V hV hgV _ => ?_)))
      refine bodyPost_ret (ret_val2 Tryz.results16 rfl rfl hV) rfl (PP.zero HPE.out ?_ rfl)
      exact below_gbz HB2.out (Nat.le_refl _) hgV
    · rw [if_neg hd] at hpar
      have hd2 : ¬ (D : Int) > 64 := by omega
      clear HP
      cases ho : valP (2 * T.length + 1) (kt T) with
      | none =>
        rw [ho] at hpar
        have HPE := Lib.hid hpar
        have HVO := Lib.hid ho
        have nm : ((-1 : Int) != ((kt T).length : Int)) = true := bne_iff_ne.2 (by omega)
        clear ho hpar
        go_enter Tryz.func16, Tryz.ntmps16
        go_wp2_with (first
          | (go_at_call 40; refine htk.mono ?_; rintro e w2 ⟨tv, rfl, hrow, hb2⟩
             obtain ⟨p, c, rfl, hc, hcm, hTP⟩ := tokP_rowE hrow (Nat.le_refl _) HWK.out
             have hop := ropen_any (c := c) hTP (by have := HKL.out; omega) w2 (Below.refl _ _)
             rw [HOP.out] at hop
             have hbx : JBox w2 w.heap.size := HZ.out.same (hb2.block _ HZ.out.lt)
             have HB := Lib.hid hbx
             have HB2 := Lib.hid (Below.on HB0.out hb2)
             have HTP := Lib.hid hTP
             clear hTP hc hcm hrow htk hbx)
          | (go_at_call 41; refine hop.mono ?_; rintro e w3 ⟨rfl, hw⟩; subst hw
             have hval := rvalue_all (2 * T.length + 1) w3 p c w3.heap.size (kt T) 0 HTP.out HK1.out (Nat.le_refl _) (by have := HKL.out; omega) (Nat.zero_le _) (by rw [List.drop_zero]; have := HKT.out; omega)
             rw [List.drop_zero, HVO.out, show ((0 : Nat) : Int) = 0 from rfl] at hval
             have HZS : Hid (w.heap.size < w3.heap.size) := Lib.hid (HB.out.lt))
          | (go_at_call 42; refine hval.mono ?_; rintro e w5 ⟨hb5, k1, S1, p1, n1, c1, p1', n1', c1', rfl⟩
             obtain ⟨V5, hV5⟩ : ∃ V, w5.alloc (.cells #[.int .i64 k1, .string S1, .slice p1 n1 c1, .slice p1' n1' c1'] 25) = V := ⟨_, rfl⟩
             have b5 := Below.on hb5 (alloc_b hV5)
             have HB5 := Lib.hid (Below.on HB2.out b5)
             replace HB := Lib.hid (HB.out.same (b5.block _ HB.out.lt)))
          | (refine store_val rfl (.tmp 2) (.tmp 32) rfl w.heap.size rfl (.int .i64 0) (.string ⟨#[]⟩) (.slice none 0 0) (.slice none 0 0) rfl rfl HB.out (fun V hV hgV _ => ?_)))
        refine bodyPost_ret (ret_val2 Tryz.results16 rfl rfl hV) rfl (PP.zero HPE.out ?_ rfl)
        exact below_gbz HB5.out (Nat.le_refl _) hgV
      | some q =>
        obtain ⟨v, r⟩ := q
        have hok := (val_ok _).1 _ _ _ HGK.out ho
        have hwt := (val_wt _).1 _ _ _ ho
        have hln := (val_len _).1 _ _ _ ho
        have hfn := ok_fnd v hok.1
        rw [ho] at hpar
        have HVO := Lib.hid ho
        obtain ⟨Y, hY⟩ : ∃ Y : ByteArray, (⟨v.str.toArray⟩ : ByteArray) = Y := ⟨_, rfl⟩
        have HY := Lib.hid hY
        have HWT : Hid (v.wt ≤ 1000000) := Lib.hid (by have := HKW.out; omega)
        cases r with
        | cons y t =>
          have hpe : parV l = (jn 0, 4) := hpar
          have HPE := Lib.hid hpe
          obtain ⟨nx, hnx⟩ : ∃ nx, (kt T).length - (y :: t).length = nx := ⟨_, rfl⟩
          have nm : ((nx : Int) != ((kt T).length : Int)) = true := by
            rw [List.length_cons] at hnx hln
            simp
            omega
          have HNX := Lib.hid hnx
          clear ho hpar hpe hok hwt hfn hY hnx hln
          go_enter Tryz.func16, Tryz.ntmps16
          go_wp2_with (first
            | (go_at_call 40; refine htk.mono ?_; rintro e w2 ⟨tv, rfl, hrow, hb2⟩
               obtain ⟨p, c, rfl, hc, hcm, hTP⟩ := tokP_rowE hrow (Nat.le_refl _) HWK.out
               have hop := ropen_any (c := c) hTP (by have := HKL.out; omega) w2 (Below.refl _ _)
               rw [HOP.out] at hop
               have hbx : JBox w2 w.heap.size := HZ.out.same (hb2.block _ HZ.out.lt)
               have HB := Lib.hid hbx
               have HB2 := Lib.hid (Below.on HB0.out hb2)
               have HTP := Lib.hid hTP
               clear hTP hc hcm hrow htk hbx)
            | (go_at_call 41; refine hop.mono ?_; rintro e w3 ⟨rfl, hw⟩; subst hw
               have hval := rvalue_all (2 * T.length + 1) w3 p c w3.heap.size (kt T) 0 HTP.out HK1.out (Nat.le_refl _) (by have := HKL.out; omega) (Nat.zero_le _) (by rw [List.drop_zero]; have := HKT.out; omega)
               rw [List.drop_zero, HVO.out, show ((0 : Nat) : Int) = 0 from rfl] at hval
               have HZS : Hid (w.heap.size < w3.heap.size) := Lib.hid (HB.out.lt)
               replace hval := hval.mono (fun e w' h => RVP.out h HNX.out HY.out))
            | (go_at_call 42; refine hval.mono ?_; rintro e w5 ⟨hb5, kp, kc, ip, ic, rfl, hkp, hvl⟩
               obtain ⟨V5, hV5⟩ : ∃ V, w5.alloc (.cells #[.int .i64 v.kind, .string Y, .slice kp v.keys.length kc, .slice ip v.items.length ic] 25) = V := ⟨_, rfl⟩
               have hv5 := alloc_b hV5
               have b5 := Below.on hb5 hv5
               have HB5 := Lib.hid (Below.on HB2.out b5)
               have HBX := Lib.hid (box_of hV5)
               obtain ⟨x0, x1, x2, x3⟩ := HBX.out V5 (Below.refl _ _)
               have HKP := Lib.hid (And.intro hkp hvl)
               replace HB := Lib.hid (HB.out.same (b5.block _ HB.out.lt)))
            | (refine store_val rfl (.tmp 2) (.tmp 32) rfl w.heap.size rfl (.int .i64 0) (.string ⟨#[]⟩) (.slice none 0 0) (.slice none 0 0) rfl rfl HB.out (fun V hV hgV _ => ?_)))
          refine bodyPost_ret (ret_val2 Tryz.results16 rfl rfl hV) rfl (PP.zero HPE.out ?_ rfl)
          exact below_gbz HB5.out (Nat.le_refl _) hgV
        | nil =>
          have nm : (((kt T).length : Int) != ((kt T).length : Int)) = false := by simp
          have HNX : Hid ((kt T).length - ([] : List KT).length = (kt T).length) := Lib.hid rfl
          cases hdu : v.dup with
          | true =>
            rw [hdu, if_pos rfl] at hfn
            have hpe : parV l = (jn 0, 13) := by rw [hpar]; simp [hdu]
            have HPE := Lib.hid hpe
            have HFN := Lib.hid hfn
            clear ho hpar hpe hok hwt hfn hY hln
            go_enter Tryz.func16, Tryz.ntmps16
            go_wp2_with (first
              | (go_at_call 40; refine htk.mono ?_; rintro e w2 ⟨tv, rfl, hrow, hb2⟩
                 obtain ⟨p, c, rfl, hc, hcm, hTP⟩ := tokP_rowE hrow (Nat.le_refl _) HWK.out
                 have hop := ropen_any (c := c) hTP (by have := HKL.out; omega) w2 (Below.refl _ _)
                 rw [HOP.out] at hop
                 have hbx : JBox w2 w.heap.size := HZ.out.same (hb2.block _ HZ.out.lt)
                 have HB := Lib.hid hbx
                 have HB2 := Lib.hid (Below.on HB0.out hb2)
                 have HTP := Lib.hid hTP
                 clear hTP hc hcm hrow htk hbx)
              | (go_at_call 41; refine hop.mono ?_; rintro e w3 ⟨rfl, hw⟩; subst hw
                 have hval := rvalue_all (2 * T.length + 1) w3 p c w3.heap.size (kt T) 0 HTP.out HK1.out (Nat.le_refl _) (by have := HKL.out; omega) (Nat.zero_le _) (by rw [List.drop_zero]; have := HKT.out; omega)
                 rw [List.drop_zero, HVO.out, show ((0 : Nat) : Int) = 0 from rfl] at hval
                 have HZS : Hid (w.heap.size < w3.heap.size) := Lib.hid (HB.out.lt)
                 replace hval := hval.mono (fun e w' h => RVP.out h HNX.out HY.out))
              | (go_at_call 42; refine hval.mono ?_; rintro e w5 ⟨hb5, kp, kc, ip, ic, rfl, hkp, hvl⟩
                 obtain ⟨V5, hV5⟩ : ∃ V, w5.alloc (.cells #[.int .i64 v.kind, .string Y, .slice kp v.keys.length kc, .slice ip v.items.length ic] 25) = V := ⟨_, rfl⟩
                 have hv5 := alloc_b hV5
                 have b5 := Below.on hb5 hv5
                 have HB5 := Lib.hid (Below.on HB2.out b5)
                 have HBX := Lib.hid (box_of hV5)
                 obtain ⟨x0, x1, x2, x3⟩ := HBX.out V5 (Below.refl _ _)
                 have HKP := Lib.hid (And.intro hkp hvl)
                 have hf := rfound_any hkp.ki HWT.out V5 hv5
                 unfold jval at hf
                 rw [HY.out, HFN.out] at hf
                 replace HB := Lib.hid (HB.out.same (b5.block _ HB.out.lt)))
              | (go_at_call 36; refine hf.mono ?_; rintro e w6 ⟨rfl, hb6⟩
                 obtain ⟨y0, y1, y2, y3⟩ := HBX.out w6 hb6
                 have HB6 := Lib.hid (Below.on HB5.out hb6)
                 have H56 := Lib.hid (Below.on hv5 hb6)
                 replace HB := Lib.hid (HB.out.same (hb6.block _ HB.out.lt)))
              | (refine store_val rfl (.tmp 2) (.tmp 36) rfl w.heap.size rfl (.int .i64 0) (.string ⟨#[]⟩) (.slice none 0 0) (.slice none 0 0) rfl rfl HB.out (fun V hV hgV _ => ?_)))
            refine bodyPost_ret (ret_val2 Tryz.results16 rfl rfl hV) rfl (PP.zero HPE.out ?_ rfl)
            exact below_gbz HB6.out (Nat.le_refl _) hgV
          | false =>
            rw [hdu, if_neg (by simp)] at hfn
            have hpe : parV l = (v, 0) := by rw [hpar]; simp [hdu]
            have HPE := Lib.hid hpe
            have HFN := Lib.hid hfn
            clear ho hpar hpe hok hwt hfn hY hln
            go_enter Tryz.func16, Tryz.ntmps16
            go_wp2_with (first
              | (go_at_call 40; refine htk.mono ?_; rintro e w2 ⟨tv, rfl, hrow, hb2⟩
                 obtain ⟨p, c, rfl, hc, hcm, hTP⟩ := tokP_rowE hrow (Nat.le_refl _) HWK.out
                 have hop := ropen_any (c := c) hTP (by have := HKL.out; omega) w2 (Below.refl _ _)
                 rw [HOP.out] at hop
                 have hbx : JBox w2 w.heap.size := HZ.out.same (hb2.block _ HZ.out.lt)
                 have HB := Lib.hid hbx
                 have HB2 := Lib.hid (Below.on HB0.out hb2)
                 have HTP := Lib.hid hTP
                 clear hTP hc hcm hrow htk hbx)
              | (go_at_call 41; refine hop.mono ?_; rintro e w3 ⟨rfl, hw⟩; subst hw
                 have hval := rvalue_all (2 * T.length + 1) w3 p c w3.heap.size (kt T) 0 HTP.out HK1.out (Nat.le_refl _) (by have := HKL.out; omega) (Nat.zero_le _) (by rw [List.drop_zero]; have := HKT.out; omega)
                 rw [List.drop_zero, HVO.out, show ((0 : Nat) : Int) = 0 from rfl] at hval
                 have HZS : Hid (w.heap.size < w3.heap.size) := Lib.hid (HB.out.lt)
                 replace hval := hval.mono (fun e w' h => RVP.out h HNX.out HY.out))
              | (go_at_call 42; refine hval.mono ?_; rintro e w5 ⟨hb5, kp, kc, ip, ic, rfl, hkp, hvl⟩
                 obtain ⟨V5, hV5⟩ : ∃ V, w5.alloc (.cells #[.int .i64 v.kind, .string Y, .slice kp v.keys.length kc, .slice ip v.items.length ic] 25) = V := ⟨_, rfl⟩
                 have hv5 := alloc_b hV5
                 have b5 := Below.on hb5 hv5
                 have HB5 := Lib.hid (Below.on HB2.out b5)
                 have HBX := Lib.hid (box_of hV5)
                 obtain ⟨x0, x1, x2, x3⟩ := HBX.out V5 (Below.refl _ _)
                 have HKP := Lib.hid (And.intro hkp hvl)
                 have hf := rfound_any hkp.ki HWT.out V5 hv5
                 unfold jval at hf
                 rw [HY.out, HFN.out] at hf
                 replace HB := Lib.hid (HB.out.same (b5.block _ HB.out.lt)))
              | (go_at_call 36; refine hf.mono ?_; rintro e w6 ⟨rfl, hb6⟩
                 obtain ⟨y0, y1, y2, y3⟩ := HBX.out w6 hb6
                 have HB6 := Lib.hid (Below.on HB5.out hb6)
                 have H56 := Lib.hid (Below.on hv5 hb6)
                 replace HB := Lib.hid (HB.out.same (hb6.block _ HB.out.lt)))
              | (refine store_val rfl (.tmp 2) (.tmp 37) rfl w.heap.size rfl (.int .i64 v.kind) (.string Y) (.slice kp v.keys.length kc) (.slice ip v.items.length ic) rfl rfl HB.out (fun V hV hgV _ => ?_)))
            refine bodyPost_ret (ret_val2 Tryz.results16 rfl rfl hV) rfl ?_
            exact PP.okv HPE.out HY.out HKP.out.1 HKP.out.2 HZS.out H56.out HB6.out hgV
  · rw [if_pos hE] at hpar
    have n1 : ((E : Int) != 0) = true := by simp; omega
    have HPE := Lib.hid hpar
    clear hpar HP hlx
    go_enter Tryz.func16, Tryz.ntmps16
    go_wp2_with (first
      | (go_at_call 40; refine htk.mono ?_; rintro e w2 ⟨tv, rfl, hrow, hb2⟩
         have hbx : JBox w2 w.heap.size := HZ.out.same (hb2.block _ HZ.out.lt)
         have HB := Lib.hid hbx
         have HB2 := Lib.hid (Below.on HB0.out hb2)
         clear hrow htk hbx)
      | (refine store_val rfl (.tmp 2) (.tmp 17) rfl w.heap.size rfl (.int .i64 0) (.string ⟨#[]⟩) (.slice none 0 0) (.slice none 0 0) rfl rfl HB.out (fun V hV hgV _ => ?_)))
    refine bodyPost_ret (ret_val2 Tryz.results16 rfl rfl hV) rfl (PP.zero HPE.out ?_ rfl)
    exact below_gbz HB2.out (Nat.le_refl _) hgV
theorem rparse_is {s : ByteArray} {w : World} (hs : s.size ≤ 5000) {v : JV} {n : Nat} {S : ByteArray} (hp : parV s.data.toList = (v, n)) (hS : (⟨v.str.toArray⟩ : ByteArray) = S) :
    Calls Tryz.prog 16 #[.string s] w fun e w' => ∃ kp kc ip ic, e = .returned (.tuple #[.agg #[.int .i64 v.kind, .string S, .slice kp v.keys.length kc, .slice ip v.items.length ic], .int .i64 (n : Nat)]) ∧ KP w' (w.heap.size ≤ ·) v kp kc ip ic ∧ v.str.length ≤ maxLen ∧ Below w.heap.size w w' := by
  refine (rparse_any s w hs).mono ?_
  rintro e w' ⟨⟨kp, kc, ip, ic, h1, h2, h3⟩, h4⟩
  rw [hp] at h1 h2 h3
  exact ⟨kp, kc, ip, ic, by rw [h1, ← hS]; rfl, h2, h3, h4⟩
end Go.Proofs.Jt
