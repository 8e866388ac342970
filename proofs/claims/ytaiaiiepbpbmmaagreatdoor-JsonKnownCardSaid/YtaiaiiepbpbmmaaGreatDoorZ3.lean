/- The reference's Text, Put. Printed by gen_z3.py. -/
import Derived.Test.YtaiaiiepbpbmmaaGreatDoorZ2
namespace Go.Proofs.Jt
open Go.RowKit Go.Maps Go.Lib Go.Proofs.Utf Go.Proofs

theorem str_of {A : ByteArray} {l : List UInt8} (h : A.data.toList = l) : A = ⟨l.toArray⟩ := by
  apply ByteArray.ext
  apply Array.toList_inj.1
  rw [h]
theorem cat_list (A B : ByteArray) : (A ++ B).data.toList = A.data.toList ++ B.data.toList := by rw [ByteArray.data_append, Array.toList_append]
theorem txtL_cons (o : Bool) (x : JV) (t : List JV) (ks : List (List UInt8)) (first : Bool) : txtL o (x :: t) ks first = (if first then [] else [44]) ++ ((if o then quoteL (ks.headD []) ++ [58] else []) ++ (x.text ++ txtL o t ks.tail false)) := by rw [txtL]
set_option maxRecDepth 100000 in
set_option maxHeartbeats 8000000 in
theorem rtext_any {w : World} {x : JV} {kp ip : Option Addr} {kc ic : Nat} (h : KI w x kp kc ip ic) : x.fnd = 0 → x.wt ≤ 100000 → ∀ w', Below w.heap.size w w' → Calls Tryz.prog 153 #[jval x kp kc ip ic] w' fun e w'' => e = .returned (.string ⟨x.text.toArray⟩) ∧ Below w'.heap.size w' w'' := by
  induction h with
  | mk x kp kc ip ic fp fc gp gc hk hz hi hh ih =>
    intro hfn hwt w' hb
    obtain ⟨W, hW⟩ : ∃ W, w'.alloc (.cells #[.int .i64 x.kind, .string ⟨x.str.toArray⟩, .slice kp x.keys.length kc, .slice ip x.items.length ic] 25) = W := ⟨_, rfl⟩
    have bW : Below w'.heap.size w' W := by rw [← hW]; exact (Below.refl _ _).alloc (Nat.le_refl _) _
    have hbx := box_cells hW
    cases x with
    | mk k s ks it =>
    unfold jval
    simp only [kind_mk, str_mk, keys_mk, items_mk] at *
    obtain ⟨S, hS⟩ : ∃ S : ByteArray, (⟨s.toArray⟩ : ByteArray) = S := ⟨_, rfl⟩
    have hSl : S.data.toList = s := by rw [← hS]
    have hwt2 := hwt
    rw [JV.wt] at hwt2
    have hSz : S.size ≤ 16777216 := by rw [← hS, arr_size]; omega
    have hkl : ks.length ≤ 1000000 := by have := keys_len ks; omega
    have hil : it.length ≤ 1000000 := by have := items_len it; omega
    have hlen : ∀ o, (txtL o it ks true).length ≤ 900000 := fun o => by
      have := txtL_len o it ks true
      split at this <;> omega
    simp only [hS] at hW hbx
    rw [hS]
    obtain ⟨hsh, hv4, hfL⟩ := fnd_zero hfn
    have hsc := shaped_cases hsh
    have hFI := fun j y (hy : it[j]? = some y) => fndL_item hfL j y hy
    have hq := fun w1 => rquote_err S w1 hSz
    simp only [hSl] at hq
    have HB : Hid (∀ W', Below W.heap.size W W' → Below w.heap.size w W') := Lib.hid fun W' hb' => hb.trans ((bW.trans (hb'.mono bW.size)).mono hb.size)
    have HBW := Lib.hid bW
    have HBX := Lib.hid hbx
    obtain ⟨c0, c1, c2, c3⟩ := hbx W (Below.refl _ _)
    have HWT : Hid (∀ (i : Nat) (y : JV), it[i]? = some y → y.wt ≤ 100000) := Lib.hid fun i y hy => by have := wt_item hy; omega
    have HKW : Hid (∀ u ∈ ks, u.length ≤ 1000000) := Lib.hid fun u hu => by have := keysW_mem hu; omega
    have HI := Lib.hid hi
    have HIH := Lib.hid ih
    have HK := Lib.hid hk
    have HFI := Lib.hid hFI
    have HSS := Lib.hid hS
    have HQ := Lib.hid hq
    have HLEN := Lib.hid hlen
    clear hi ih hh hk hz hbx hq bW hb hwt hwt2 hS hSl hSz hfn hsh hfL hFI hlen
    rcases hsc with ⟨hk, rfl, rfl, rfl⟩ | ⟨rfl, rfl, rfl, hn⟩ | ⟨rfl, rfl, rfl⟩ | ⟨rfl, rfl, rfl⟩ | ⟨rfl, rfl, hlen⟩
    · simp only [List.length_nil] at hW
      rcases hk with rfl | rfl | rfl
      · rw [show (JV.mk 0 [] [] []).text = wNull by rw [JV.text, if_pos rfl]]
        go_enter Tryz.func153, Tryz.ntmps153
        go_wp2_with fail
        go_ret
        exact ⟨rfl, HBW.out⟩
      · rw [show (JV.mk 1 [] [] []).text = wFalse by rw [JV.text, if_neg (by decide), if_pos rfl]]
        go_enter Tryz.func153, Tryz.ntmps153
        go_wp2_with fail
        go_ret
        exact ⟨rfl, HBW.out⟩
      · rw [show (JV.mk 2 [] [] []).text = wTrue by rw [JV.text, if_neg (by decide), if_neg (by decide), if_pos rfl]]
        go_enter Tryz.func153, Tryz.ntmps153
        go_wp2_with fail
        go_ret
        exact ⟨rfl, HBW.out⟩
    · simp only [List.length_nil] at hW
      rw [show (JV.mk 3 s [] []).text = s by rw [JV.text]; simp, HSS.out]
      go_enter Tryz.func153, Tryz.ntmps153
      go_wp2_with fail
      go_ret
      exact ⟨rfl, HBW.out⟩
    · simp only [List.length_nil] at hW
      rw [show (JV.mk 4 s [] []).text = quoteL s by rw [JV.text]; simp]
      have h55 := HQ.out
      simp only [hv4 rfl, if_true] at h55
      have H55 := Lib.hid h55
      clear hv4 HQ h55
      go_enter Tryz.func153, Tryz.ntmps153
      go_wp2_with (first | (go_at_call 130; refine (H55.out _).mono ?_; rintro e w1 ⟨X, rfl, hb1, hX⟩))
      go_ret
      exact ⟨by have hxx := str_of (hX trivial); subst hxx; rfl, Below.on HBW.out hb1⟩
    · simp only [List.length_nil] at hW
      rw [show (JV.mk 5 [] [] it).text = 91 :: (txtL false it [] true ++ [93]) by rw [JV.text]; simp]
      have hlen2 := HLEN.out false
      obtain ⟨TX, hTX⟩ : ∃ TX, txtL false it [] true = TX := ⟨_, rfl⟩
      rw [hTX] at hlen2 ⊢
      have HTX := Lib.hid hTX
      clear hv4 HQ HLEN hTX
      go_enter Tryz.func153, Tryz.ntmps153
      go_wp2_with fail
      go_loopw [5, 6] (fun sv iv wr => ∃ (A : ByteArray) (j : Nat), sv = .string A ∧ iv = .int .i64 j ∧ j ≤ it.length ∧ A.data.toList ++ txtL false (it.drop j) [] (decide (j = 0)) = TX ∧ Below W.heap.size W wr) (fun _ iv _ => it.length - (RowKit.intOf iv).toNat)
      case atStart => exact ⟨⟨#[]⟩, 0, rfl, rfl, Nat.zero_le _, by simpa using HTX.out, Below.refl _ _⟩
      case round =>
        obtain ⟨A, j, rfl, rfl, hj, hA, hB⟩ := hrel
        have hAs : A.size ≤ 900000 := by
          have := congrArg List.length hA
          rw [List.length_append, Array.length_toList] at this
          show A.data.size ≤ _
          omega
        clear c0 c1 c2 c3
        obtain ⟨c0, c1, c2, c3⟩ := HBX.out wr hB
        by_cases hjn : (j : Int) < (it.length : Int)
        · obtain ⟨y, hy⟩ : ∃ y, it[j]? = some y := ⟨_, List.getElem?_eq_getElem (by omega)⟩
          obtain ⟨_, a, rfl, hjc⟩ := HI.out j y hy
          obtain ⟨hyf, hyv⟩ := HFI.out j y hy
          obtain ⟨Y, hY⟩ : ∃ Y : ByteArray, (⟨y.str.toArray⟩ : ByteArray) = Y := ⟨_, rfl⟩
          have HJC : Hid (∀ V, Below W.heap.size W V → V.cell? (a.add (j * 4)) = some (.int .i64 y.kind) ∧ V.cell? ⟨(a.add (j * 4)).block, (a.add (j * 4)).off + 1, none⟩ = some (.string Y) ∧ V.cell? ⟨(a.add (j * 4)).block, (a.add (j * 4)).off + 2, none⟩ = some (.slice (fp j) y.keys.length (fc j)) ∧ V.cell? ⟨(a.add (j * 4)).block, (a.add (j * 4)).off + 3, none⟩ = some (.slice (gp j) y.items.length (gc j))) := Lib.hid fun V hV => by
            have h := hjc.below (HB.out V hV)
            have h1 := h.c1
            rw [hY] at h1
            exact ⟨h.c0, h1, h.c2, h.c3⟩
          have hcall := fun W3 hb3 => HIH.out j y hy hyf (HWT.out j y hy) W3 hb3
          unfold jval at hcall
          obtain ⟨X2, hX2⟩ : ∃ X : ByteArray, (⟨y.text.toArray⟩ : ByteArray) = X := ⟨_, rfl⟩
          have hX2l : X2.data.toList = y.text := by rw [← hX2]
          have hX2s : X2.size ≤ 900000 := by rw [← hX2, arr_size]; have := text_len y; have := HWT.out j y hy; omega
          simp only [hY, hX2] at hcall
          rw [drop_cons hy, txtL_cons] at hA
          have HCL := Lib.hid hcall
          have HX2 := Lib.hid hX2l
          obtain ⟨g0, g1, g2, g3⟩ := HJC.out wr hB
          have h32 := HCL.out wr (HB.out _ hB)
          have HA := Lib.hid hA
          clear hjc hcall hY hy hyf hyv hX2 hX2l hA
          by_cases hj0 : (0 : Int) < (j : Int)
          · have HN : Hid ((A ++ ⟨#[44]⟩ ++ X2).data.toList ++ txtL false (it.drop (j + 1)) [] (decide (j + 1 = 0)) = TX) := Lib.hid (by
              rw [← HA.out, decide_eq_false (show ¬ j = 0 by omega), decide_eq_false (show ¬ j + 1 = 0 by omega)]
              simp only [cat_list, HX2.out]
              simp)
            go_wp2_with (first
              | (go_at_call 153; refine h32.mono ?_; rintro e w3 ⟨rfl, hb3⟩; have hB3 := hB.trans (hb3.mono hB.size)))
            go_roundw
            case rel => exact ⟨_, j + 1, rfl, by go_num, by omega, HN.out, hB3⟩
            case measure => simp [RowKit.intOf]; omega
          · have HN : Hid ((A ++ X2).data.toList ++ txtL false (it.drop (j + 1)) [] (decide (j + 1 = 0)) = TX) := Lib.hid (by
              rw [← HA.out, decide_eq_true (show j = 0 by omega), decide_eq_false (show ¬ j + 1 = 0 by omega)]
              simp only [cat_list, HX2.out]
              simp)
            go_wp2_with (first
              | (go_at_call 153; refine h32.mono ?_; rintro e w3 ⟨rfl, hb3⟩; have hB3 := hB.trans (hb3.mono hB.size)))
            go_roundw
            case rel => exact ⟨_, j + 1, rfl, by go_num, by omega, HN.out, hB3⟩
            case measure => simp [RowKit.intOf]; omega
        · have hj2 : j = it.length := by omega
          subst hj2
          rw [List.drop_length, txtL, List.append_nil] at hA
          have HA := Lib.hid hA
          clear hA
          go_wp2_with fail
          go_ret
          exact ⟨by
            rw [show (⟨(91 :: (TX ++ [93])).toArray⟩ : ByteArray) = ⟨#[91]⟩ ++ A ++ ⟨#[93]⟩ from (str_of (by rw [cat_list, cat_list, HA.out]; rfl)).symm]
            rfl, HBW.out.trans (hB.mono HBW.out.size)⟩
    · have HKL := Lib.hid hlen
      clear hlen
      rw [show (JV.mk 6 [] ks it).text = 123 :: (txtL true it ks true ++ [125]) by rw [JV.text]; simp]
      have hlen2 := HLEN.out true
      obtain ⟨TX, hTX⟩ : ∃ TX, txtL true it ks true = TX := ⟨_, rfl⟩
      rw [hTX] at hlen2 ⊢
      have HTX := Lib.hid hTX
      clear hv4 HQ HLEN hTX
      go_enter Tryz.func153, Tryz.ntmps153
      go_wp2_with fail
      go_loopw [5, 6] (fun sv iv wr => ∃ (A : ByteArray) (j : Nat), sv = .string A ∧ iv = .int .i64 j ∧ j ≤ it.length ∧ A.data.toList ++ txtL true (it.drop j) (ks.drop j) (decide (j = 0)) = TX ∧ Below W.heap.size W wr) (fun _ iv _ => it.length - (RowKit.intOf iv).toNat)
      case atStart => exact ⟨⟨#[]⟩, 0, rfl, rfl, Nat.zero_le _, by simpa using HTX.out, Below.refl _ _⟩
      case round =>
        obtain ⟨A, j, rfl, rfl, hj, hA, hB⟩ := hrel
        have hAs : A.size ≤ 900000 := by
          have := congrArg List.length hA
          rw [List.length_append, Array.length_toList] at this
          show A.data.size ≤ _
          omega
        clear c0 c1 c2 c3
        obtain ⟨c0, c1, c2, c3⟩ := HBX.out wr hB
        by_cases hjn : (j : Int) < (it.length : Int)
        · obtain ⟨y, hy⟩ : ∃ y, it[j]? = some y := ⟨_, List.getElem?_eq_getElem (by omega)⟩
          obtain ⟨_, a, rfl, hjc⟩ := HI.out j y hy
          obtain ⟨hyf, hyv⟩ := HFI.out j y hy
          obtain ⟨Y, hY⟩ : ∃ Y : ByteArray, (⟨y.str.toArray⟩ : ByteArray) = Y := ⟨_, rfl⟩
          have HJC : Hid (∀ V, Below W.heap.size W V → V.cell? (a.add (j * 4)) = some (.int .i64 y.kind) ∧ V.cell? ⟨(a.add (j * 4)).block, (a.add (j * 4)).off + 1, none⟩ = some (.string Y) ∧ V.cell? ⟨(a.add (j * 4)).block, (a.add (j * 4)).off + 2, none⟩ = some (.slice (fp j) y.keys.length (fc j)) ∧ V.cell? ⟨(a.add (j * 4)).block, (a.add (j * 4)).off + 3, none⟩ = some (.slice (gp j) y.items.length (gc j))) := Lib.hid fun V hV => by
            have h := hjc.below (HB.out V hV)
            have h1 := h.c1
            rw [hY] at h1
            exact ⟨h.c0, h1, h.c2, h.c3⟩
          have hcall := fun W3 hb3 => HIH.out j y hy hyf (HWT.out j y hy) W3 hb3
          unfold jval at hcall
          obtain ⟨X2, hX2⟩ : ∃ X : ByteArray, (⟨y.text.toArray⟩ : ByteArray) = X := ⟨_, rfl⟩
          have hX2l : X2.data.toList = y.text := by rw [← hX2]
          have hX2s : X2.size ≤ 900000 := by rw [← hX2, arr_size]; have := text_len y; have := HWT.out j y hy; omega
          simp only [hY, hX2] at hcall
          rw [drop_cons hy, txtL_cons] at hA
          have HCL := Lib.hid hcall
          have HX2 := Lib.hid hX2l
          obtain ⟨u, hu⟩ : ∃ u, ks[j]? = some u := ⟨_, List.getElem?_eq_getElem (by have := HKL.out; omega)⟩
          have hjk : (j : Int) < (ks.length : Int) := by have := HKL.out; omega
          obtain ⟨b, rfl, hkc, _⟩ := (HK.out.below (HB.out _ hB)) j u hu
          have hul := HKW.out u (List.mem_of_getElem? hu)
          obtain ⟨U, hU⟩ : ∃ U : ByteArray, (⟨u.toArray⟩ : ByteArray) = U := ⟨_, rfl⟩
          have hUs : U.size ≤ 16777216 := by rw [← hU, arr_size]; omega
          rw [hU] at hkc
          have h55 := rquote_err U wr hUs
          rw [show U.data.toList = u by rw [← hU], hyv rfl u hu] at h55
          simp only [if_true] at h55
          rw [drop_cons hu, List.headD_cons, List.tail_cons] at hA
          obtain ⟨XQ, hXQ⟩ : ∃ X : ByteArray, (⟨(quoteL u).toArray⟩ : ByteArray) = X := ⟨_, rfl⟩
          have hXQl : XQ.data.toList = quoteL u := by rw [← hXQ]
          have hXQs : XQ.size ≤ 9000000 := by rw [← hXQ, arr_size]; have := quote_len u; omega
          have HXQ := Lib.hid hXQl
          have h55b : Calls Tryz.prog 130 #[.string U] wr fun e w' => e = .returned (.tuple #[.string XQ, .int .i64 0]) ∧ Below wr.heap.size wr w' := by
            refine h55.mono ?_
            rintro e w' ⟨X, rfl, hb, hX⟩
            exact ⟨by rw [str_of (hX trivial), hXQ], hb⟩
          clear hu hU hul hUs h55 hXQ hXQl
          have HA := Lib.hid hA
          clear hjc hcall hY hy hyf hyv hX2 hX2l hA
          by_cases hj0 : (0 : Int) < (j : Int)
          · have HN : Hid ((A ++ ⟨#[44]⟩ ++ XQ ++ ⟨#[58]⟩ ++ X2).data.toList ++ txtL true (it.drop (j + 1)) (ks.drop (j + 1)) (decide (j + 1 = 0)) = TX) := Lib.hid (by
              rw [← HA.out, decide_eq_false (show ¬ j = 0 by omega), decide_eq_false (show ¬ j + 1 = 0 by omega)]
              simp only [cat_list, HX2.out, HXQ.out]
              simp)
            go_wp2_with (first
              | (go_at_call 130; refine h55b.mono ?_; rintro e w2 ⟨rfl, hb2⟩; have hB2 := hB.trans (hb2.mono hB.size); clear c0 c1 c2 c3; obtain ⟨c0, c1, c2, c3⟩ := HBX.out w2 hB2; obtain ⟨g0, g1, g2, g3⟩ := HJC.out w2 hB2; have h32 := HCL.out w2 (HB.out _ hB2))
              | (go_at_call 153; refine h32.mono ?_; rintro e w3 ⟨rfl, hb3⟩; have hB3 := hB2.trans (hb3.mono hB2.size)))
            go_roundw
            case rel => exact ⟨_, j + 1, rfl, by go_num, by omega, HN.out, hB3⟩
            case measure => simp [RowKit.intOf]; omega
          · have HN : Hid ((A ++ XQ ++ ⟨#[58]⟩ ++ X2).data.toList ++ txtL true (it.drop (j + 1)) (ks.drop (j + 1)) (decide (j + 1 = 0)) = TX) := Lib.hid (by
              rw [← HA.out, decide_eq_true (show j = 0 by omega), decide_eq_false (show ¬ j + 1 = 0 by omega)]
              simp only [cat_list, HX2.out, HXQ.out]
              simp)
            go_wp2_with (first
              | (go_at_call 130; refine h55b.mono ?_; rintro e w2 ⟨rfl, hb2⟩; have hB2 := hB.trans (hb2.mono hB.size); clear c0 c1 c2 c3; obtain ⟨c0, c1, c2, c3⟩ := HBX.out w2 hB2; obtain ⟨g0, g1, g2, g3⟩ := HJC.out w2 hB2; have h32 := HCL.out w2 (HB.out _ hB2))
              | (go_at_call 153; refine h32.mono ?_; rintro e w3 ⟨rfl, hb3⟩; have hB3 := hB2.trans (hb3.mono hB2.size)))
            go_roundw
            case rel => exact ⟨_, j + 1, rfl, by go_num, by omega, HN.out, hB3⟩
            case measure => simp [RowKit.intOf]; omega
        · have hj2 : j = it.length := by omega
          subst hj2
          rw [List.drop_length, txtL, List.append_nil] at hA
          have HA := Lib.hid hA
          clear hA
          go_wp2_with fail
          go_ret
          exact ⟨by
            rw [show (⟨(123 :: (TX ++ [125])).toArray⟩ : ByteArray) = ⟨#[123]⟩ ++ A ++ ⟨#[125]⟩ from (str_of (by rw [cat_list, cat_list, HA.out]; rfl)).symm]
            rfl, HBW.out.trans (hB.mono HBW.out.size)⟩
set_option maxRecDepth 100000 in
set_option maxHeartbeats 1000000 in
theorem rput_any {w : World} {x : JV} {kp ip : Option Addr} {kc ic : Nat} (h : KI w x kp kc ip ic) (hwt : x.wt ≤ 100000) : ∀ w', Below w.heap.size w w' → Calls Tryz.prog 106 #[jval x kp kc ip ic] w' fun e w'' => e = .returned (.tuple #[.string ⟨(putV x).1.toArray⟩, .int .i64 ((putV x).2 : Nat)]) ∧ Below w'.heap.size w' w'' := by
  intro w' hb
  obtain ⟨S, hS⟩ : ∃ S : ByteArray, (⟨x.str.toArray⟩ : ByteArray) = S := ⟨_, rfl⟩
  obtain ⟨W, hW⟩ : ∃ W, w'.alloc (.cells #[.int .i64 x.kind, .string S, .slice kp x.keys.length kc, .slice ip x.items.length ic] 25) = W := ⟨_, rfl⟩
  have bW := alloc_b hW
  have HBX := Lib.hid (box_of hW)
  obtain ⟨c0, c1, c2, c3⟩ := HBX.out W (Below.refl _ _)
  have hB : ∀ W', Below W.heap.size W W' → Below w.heap.size w W' := fun W' hb' => hb.trans ((bW.trans (hb'.mono bW.size)).mono hb.size)
  have hc := rcheck_any h (by omega) W (hB W (Below.refl _ _))
  have ht := fun (h0 : x.chk = 0) V (hV : Below W.heap.size W V) => rtext_any h (chk_zero h0).2 hwt V (hB V hV)
  unfold putV
  obtain ⟨C, hC⟩ : ∃ C, x.chk = C := ⟨_, rfl⟩
  unfold jval at hc ht ⊢
  simp only [hS, hC] at hc ht ⊢
  have HT := Lib.hid ht
  have HBW := Lib.hid bW
  clear h hwt hb hS bW hB ht hC
  by_cases h0 : C = 0
  · have HTX := Lib.hid (HT.out h0)
    subst h0
    rw [if_pos rfl]
    obtain ⟨X, hX⟩ : ∃ X : ByteArray, (⟨x.text.toArray⟩ : ByteArray) = X := ⟨_, rfl⟩
    have hT2 := HTX.out
    simp only [hX] at hT2 ⊢
    have HT2 := Lib.hid hT2
    clear HTX hX HT hT2
    go_enter Tryz.func106, Tryz.ntmps106
    go_wp2_with (first
      | (go_at_call 91; refine hc.mono ?_; rintro e w1 ⟨rfl, hb1⟩; clear c0 c1 c2 c3; obtain ⟨c0, c1, c2, c3⟩ := HBX.out w1 hb1; have h32 := HT2.out w1 hb1)
      | (go_at_call 153; refine h32.mono ?_; rintro e w2 ⟨rfl, hb2⟩))
    go_ret2
    exact ⟨rfl, Below.on HBW.out (Below.on hb1 hb2)⟩
  · rw [if_neg h0]
    have n1 : ((C : Int) != 0) = true := by simp; omega
    have n2 : ((C : Int) == 0) = false := beq_eq_false_iff_ne.2 (by omega)
    clear h0 HT
    go_enter Tryz.func106, Tryz.ntmps106
    go_wp2_with (first
      | (go_at_call 91; refine hc.mono ?_; rintro e w1 ⟨rfl, hb1⟩))
    go_ret2
    exact ⟨rfl, Below.on HBW.out hb1⟩
end Go.Proofs.Jt
