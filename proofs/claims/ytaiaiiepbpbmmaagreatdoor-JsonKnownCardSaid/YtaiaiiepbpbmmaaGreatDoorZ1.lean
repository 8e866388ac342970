/- The reference's Depth, Number, Shaped. Printed by gen_z1.py. -/
import Derived.Test.YtaiaiiepbpbmmaaGreatDoorVF
import Derived.Test.YtaiaiiepbpbmmaaGreatDoorRD
namespace Go.Proofs.Jt
open Go.RowKit Go.Maps Go.Lib Go.Proofs.Utf Go.Proofs

set_option maxRecDepth 100000 in
set_option maxHeartbeats 2000000 in
theorem rdepth_any {w : World} {x : JV} {kp ip : Option Addr} {kc ic : Nat} (h : KI w x kp kc ip ic) : x.wt ≤ 1000000 → ∀ w', Below w.heap.size w w' → Calls Tryz.prog 148 #[jval x kp kc ip ic] w' fun e w'' => e = .returned (.int .i64 (x.dep : Nat)) ∧ Below w'.heap.size w' w'' := by
  induction h with
  | mk x kp kc ip ic fp fc gp gc hk hz hi hh ih =>
    intro hwt w' hb
    obtain ⟨W, hW⟩ : ∃ W, w'.alloc (.cells #[.int .i64 x.kind, .string ⟨x.str.toArray⟩, .slice kp x.keys.length kc, .slice ip x.items.length ic] 25) = W := ⟨_, rfl⟩
    have bW : Below w'.heap.size w' W := by rw [← hW]; exact (Below.refl _ _).alloc (Nat.le_refl _) _
    have hbx := box_cells hW
    cases x with
    | mk k s ks it =>
    simp only [kind_mk, str_mk, keys_mk, items_mk] at *
    obtain ⟨S, hS⟩ : ∃ S : ByteArray, (⟨s.toArray⟩ : ByteArray) = S := ⟨_, rfl⟩
    simp only [hS] at hW hbx
    obtain ⟨c0, c1, c2, c3⟩ := hbx W (Below.refl _ _)
    have hdep : (JV.mk k s ks it).dep = if k = 5 ∨ k = 6 then depL it + 1 else 0 := by rw [JV.dep]
    have hwl : wtL it ≤ 1000000 := by rw [JV.wt] at hwt; omega
    have hdl := depL_wt it
    have hil := hz.1
    unfold maxLen at hil
    obtain ⟨D, hD⟩ : ∃ D, depL it = D := ⟨_, rfl⟩
    rw [hD] at hdl hdep
    have hD6 : D ≤ 1000000 := by omega
    have HD := Lib.hid hD
    have HI := Lib.hid hi
    have HIH := Lib.hid ih
    have HWT : Hid (∀ (i : Nat) (y : JV), it[i]? = some y → y.wt ≤ 1000000) := Lib.hid fun i y hy => by have := wt_item hy; omega
    have HB : Hid (∀ W', Below W.heap.size W W' → Below w.heap.size w W') := Lib.hid fun W' hb' => hb.trans ((bW.trans (hb'.mono bW.size)).mono hb.size)
    have HBW := Lib.hid bW
    have HBX := Lib.hid hbx
    rw [hdep]
    clear hi ih hh hD hwt hk hz hbx hdep hwl bW hb hdl
    unfold jval
    simp only [kind_mk, str_mk, keys_mk, items_mk]
    rw [hS]
    clear hS
    go_enter Tryz.func148, Tryz.ntmps148
    go_wp2_with fail
    go_loopw [3, 4] (fun mv iv wr => ∃ (j m : Nat), iv = .int .i64 j ∧ j ≤ it.length ∧ mv = .int .i64 m ∧ max m (depL (it.drop j)) = D ∧ Below W.heap.size W wr) (fun _ iv _ => it.length - (RowKit.intOf iv).toNat)
    case atStart => exact ⟨0, 0, rfl, Nat.zero_le _, rfl, by rw [List.drop_zero, HD.out]; omega, Below.refl _ _⟩
    case round =>
      obtain ⟨j, m, rfl, hj, rfl, hm, hB⟩ := hrel
      have hmD : m ≤ D := by omega
      clear c0 c1 c2 c3
      obtain ⟨c0, c1, c2, c3⟩ := HBX.out wr hB
      by_cases hjn : (j : Int) < (it.length : Int)
      · obtain ⟨y, hy⟩ : ∃ y, it[j]? = some y := ⟨_, List.getElem?_eq_getElem (by omega)⟩
        obtain ⟨_, a, rfl, hjc⟩ := HI.out j y hy
        obtain ⟨d0, d1, d2, d3, _⟩ := hjc.below (HB.out _ hB)
        obtain ⟨Y, hY⟩ : ∃ Y : ByteArray, (⟨y.str.toArray⟩ : ByteArray) = Y := ⟨_, rfl⟩
        have hcall := HIH.out j y hy (HWT.out j y hy) wr (HB.out _ hB)
        unfold jval at hcall
        rw [hY] at d1 hcall
        have hdy := dep_wt y
        have hwy := HWT.out j y hy
        rw [drop_cons hy, depL] at hm
        obtain ⟨dy, hdyy⟩ : ∃ d, y.dep = d := ⟨_, rfl⟩
        simp only [hdyy] at hcall hm hdy
        have HM := Lib.hid hm
        clear hm hdyy hY hy hjc
        by_cases hgt : (m : Int) < (dy : Int)
        · go_wp2_with (first | (go_at_call 148; refine hcall.mono ?_; rintro e w3 ⟨rfl, hb3⟩))
          go_roundw
          case rel => exact ⟨j + 1, dy, by go_num, by omega, rfl, by have := HM.out; omega, hB.trans (hb3.mono hB.size)⟩
          case measure => simp [RowKit.intOf]; omega
        · go_wp2_with (first | (go_at_call 148; refine hcall.mono ?_; rintro e w3 ⟨rfl, hb3⟩))
          go_roundw
          case rel => exact ⟨j + 1, m, by go_num, by omega, rfl, by have := HM.out; omega, hB.trans (hb3.mono hB.size)⟩
          case measure => simp [RowKit.intOf]; omega
      · have hj2 : j = it.length := by omega
        subst hj2
        rw [List.drop_length, depL] at hm
        have hm2 : m = D := by omega
        subst hm2
        clear hm HD
        rcases (show k = 5 ∨ (¬ k = 5 ∧ k = 6) ∨ (¬ k = 5 ∧ ¬ k = 6) by omega) with rfl | ⟨n5, rfl⟩ | ⟨n5, n6⟩
        · go_wp2_with fail
          go_ret
          exact ⟨by first | rfl | (rw [if_pos (.inl rfl)]; rfl), HBW.out.trans (hB.mono HBW.out.size)⟩
        · go_wp2_with fail
          go_ret
          exact ⟨by first | rfl | (rw [if_pos (.inr rfl)]; rfl), HBW.out.trans (hB.mono HBW.out.size)⟩
        · have m5 : (k == 5) = false := beq_eq_false_iff_ne.2 n5
          have m6 : (k == 6) = false := beq_eq_false_iff_ne.2 n6
          go_wp2_with fail
          go_ret
          exact ⟨by first | rfl | (rw [if_neg (by omega)]; rfl), HBW.out.trans (hB.mono HBW.out.size)⟩
theorem numB_cases (l : List UInt8) : (nextL l = none ∧ numB l = false) ∨ ∃ k x m, nextL l = some (k, x, m) ∧ numB l = (decide (k = 3) && decide (m = l.length)) := by
  cases h : nextL l with
  | none => exact .inl ⟨rfl, by unfold numB; rw [h]; rfl⟩
  | some r =>
    obtain ⟨k, x, m⟩ := r
    refine .inr ⟨k, x, m, rfl, ?_⟩
    unfold numB
    rw [h, Bool.eq_iff_iff]
    simp only [Bool.and_eq_true, decide_eq_true_eq, Option.some.injEq, Prod.mk.injEq]
    constructor
    · rintro ⟨h1, _, h3⟩; exact ⟨h1, h3⟩
    · rintro ⟨h1, h3⟩
      subst h1 h3
      exact ⟨rfl, by rw [next_text l 3 x _ h (by omega), List.take_length], rfl⟩
set_option maxRecDepth 100000 in
set_option maxHeartbeats 1000000 in
theorem rnumber_any (s : ByteArray) (w : World) (hs : s.size ≤ 16777216) : Calls Tryz.prog 233 #[.string s] w fun e w' => e = .returned (.bool (numB s.data.toList)) ∧ Below w.heap.size w w' := by
  by_cases h0 : s.size = 0
  · have e0 : s = ⟨#[]⟩ := by
      apply ByteArray.ext
      exact Array.size_eq_zero_iff.1 h0
    subst e0
    go_enter Tryz.func233, Tryz.ntmps233
    go_wp2_with fail
    go_ret
    exact ⟨rfl, Below.refl _ _⟩
  · have hne : ¬ s.toList = [] ∧ s.toList.isEmpty = false := by
      have hl : s.toList.length = s.size := by rw [ByteArray.toList_eq]; exact Array.length_toList
      refine ⟨fun e => h0 (by rw [← hl, e]; rfl), ?_⟩
      cases h : s.toList with
      | nil => rw [h] at hl; exact absurd hl.symm h0
      | cons a b => rfl
    obtain ⟨n1, n2⟩ := hne
    have hc := next_any s 0 w hs (by omega)
    unfold Nx nxIs at hc
    rw [List.drop_zero] at hc
    have hsl : s.data.toList.length = s.size := Array.length_toList
    obtain ⟨R, hR⟩ : ∃ R, numB s.data.toList = R := ⟨_, rfl⟩
    rw [hR]
    rcases numB_cases s.data.toList with ⟨h1, h2⟩ | ⟨k, x, m, h1, h2⟩
    · rw [h1] at hc
      rw [h2] at hR
      subst hR
      clear h0 hsl h1 h2
      go_enter Tryz.func233, Tryz.ntmps233
      go_wp2_with (first | (go_at_call 200; refine hc.mono ?_; rintro e w1 ⟨v, rfl, ⟨k, x, f, rfl, hk⟩, hb1⟩; have hk3 : (k == 3) = false := beq_eq_false_iff_ne.2 hk))
      go_ret
      exact ⟨rfl, hb1.trans (((Below.refl _ _).alloc (Nat.le_refl _) _).mono hb1.size)⟩
    · rw [h1] at hc
      dsimp only at hc
      rw [h2, hsl] at hR
      rw [Nat.zero_add] at hc
      by_cases hk : k = 3
      · subst hk
        have hm : ((m : Int) == (s.size : Int)) = R := by rw [← hR, Bool.eq_iff_iff]; simp; omega
        clear h0 hsl h1 h2 hR
        go_enter Tryz.func233, Tryz.ntmps233
        go_wp2_with (first | (go_at_call 200; refine hc.mono ?_; rintro e w1 ⟨v, rfl, rfl, hb1⟩))
        go_ret
        exact ⟨rfl, hb1.trans (((Below.refl _ _).alloc (Nat.le_refl _) _).mono hb1.size)⟩
      · have hk3 : ((k : Int) == 3) = false := beq_eq_false_iff_ne.2 (by omega)
        rw [decide_eq_false hk, Bool.false_and] at hR
        subst hR
        clear h0 hsl h1 h2
        go_enter Tryz.func233, Tryz.ntmps233
        go_wp2_with (first | (go_at_call 200; refine hc.mono ?_; rintro e w1 ⟨v, rfl, rfl, hb1⟩))
        go_ret
        exact ⟨rfl, hb1.trans (((Below.refl _ _).alloc (Nat.le_refl _) _).mono hb1.size)⟩
set_option maxRecDepth 100000 in
set_option maxHeartbeats 4000000 in
theorem rshaped_any {w : World} {x : JV} {kp ip : Option Addr} {kc ic : Nat} (hw : x.wt ≤ 1000000) : Calls Tryz.prog 199 #[jval x kp kc ip ic] w fun e w' => e = .returned (.bool x.shaped) ∧ Below w.heap.size w w' := by
  obtain ⟨W, hW⟩ : ∃ W, w.alloc (.cells #[.int .i64 x.kind, .string ⟨x.str.toArray⟩, .slice kp x.keys.length kc, .slice ip x.items.length ic] 25) = W := ⟨_, rfl⟩
  have bW : Below w.heap.size w W := by rw [← hW]; exact (Below.refl _ _).alloc (Nat.le_refl _) _
  have hbx := box_cells hW
  cases x with
  | mk k s ks it =>
  simp only [kind_mk, str_mk, keys_mk, items_mk] at *
  rw [JV.wt] at hw
  have hkl : ks.length ≤ 1000000 := by have := keys_len ks; omega
  have hil : it.length ≤ 1000000 := by have := items_len it; omega
  obtain ⟨S, hS⟩ : ∃ S : ByteArray, (⟨s.toArray⟩ : ByteArray) = S := ⟨_, rfl⟩
  have hSl : S.data.toList = s := by rw [← hS]
  have hSz : S.size ≤ 16777216 := by rw [← hS, arr_size]; omega
  have hnum := fun w => rnumber_any S w hSz
  rw [hSl] at hnum
  simp only [hS] at hW hbx
  obtain ⟨c0, c1, c2, c3⟩ := hbx W (Below.refl _ _)
  have HBW := Lib.hid bW
  have HNUM := Lib.hid hnum
  have hse : (s = [] ∧ S = ⟨#[]⟩) ∨ (¬ s = [] ∧ ¬ S.toList = [] ∧ S.toList.isEmpty = false) := by
    by_cases e : s = []
    · exact .inl ⟨e, by rw [← hS, e]⟩
    · refine .inr ⟨e, ?_, ?_⟩
      · rw [ByteArray.toList_eq, hSl]; exact e
      · rw [ByteArray.toList_eq, hSl]; cases s with | nil => exact absurd rfl e | cons _ _ => rfl
  have hit : (it = [] ∧ ¬ (0 : Int) < (it.length : Int)) ∨ (¬ it = [] ∧ (0 : Int) < (it.length : Int)) := by
    cases it with
    | nil => exact .inl ⟨rfl, by simp⟩
    | cons a b => exact .inr ⟨by simp, by simp only [List.length_cons]; omega⟩
  have hks : (ks = [] ∧ ¬ (0 : Int) < (ks.length : Int)) ∨ (¬ ks = [] ∧ (0 : Int) < (ks.length : Int)) := by
    cases ks with
    | nil => exact .inl ⟨rfl, by simp⟩
    | cons a b => exact .inr ⟨by simp, by simp only [List.length_cons]; omega⟩
  have hsh : (JV.mk k s ks it).shaped = if k = 0 ∨ k = 1 ∨ k = 2 then decide (s = []) && (decide (ks = []) && decide (it = [])) else if k = 3 then (decide (ks = []) && decide (it = [])) && numB s else if k = 4 then (decide (ks = []) && decide (it = [])) else if k = 5 then decide (s = []) && decide (ks = []) else if k = 6 then decide (s = []) && decide (ks.length = it.length) else false := by
    have e1 : ∀ {α : Type} (l : List α) [Decidable (l = [])], l.isEmpty = decide (l = []) := fun l => by cases l <;> simp
    rw [JV.shaped, Bool.and_assoc, e1 ks, e1 it]
    have e3 : (ks.length == it.length) = decide (ks.length = it.length) := rfl
    rw [e3]
  rw [hsh]
  unfold jval
  simp only [kind_mk, str_mk, keys_mk, items_mk]
  rw [hS]
  clear hsh bW hnum hbx hw hS hSl hSz
  rcases (show k = 0 ∨ k = 1 ∨ k = 2 ∨ k = 3 ∨ k = 4 ∨ k = 5 ∨ k = 6 ∨ k < 0 ∨ 6 < k by omega) with rfl | rfl | rfl | rfl | rfl | rfl | rfl | k0 | k0
  · rw [if_pos (by decide)]
    rcases hse with ⟨e, rfl⟩ | ⟨e, h1, h2⟩
    · rcases hit with ⟨i, i1⟩ | ⟨i, i1⟩
      · rcases hks with ⟨q, q1⟩ | ⟨q, q1⟩
        · rw [decide_eq_true e, decide_eq_true i, decide_eq_true q]
          simp only [Bool.and_true]
          clear e i q
          clear HNUM
          go_enter Tryz.func199, Tryz.ntmps199
          go_wp2_with fail
          go_ret
          exact ⟨rfl, HBW.out⟩
        · rw [decide_eq_true e, decide_eq_true i, decide_eq_false q]
          simp only [Bool.and_true, Bool.and_false]
          clear e i q
          clear HNUM
          go_enter Tryz.func199, Tryz.ntmps199
          go_wp2_with fail
          go_ret
          exact ⟨rfl, HBW.out⟩
      · rw [decide_eq_true e, decide_eq_false i]
        simp only [Bool.and_false]
        clear e i
        clear HNUM
        go_enter Tryz.func199, Tryz.ntmps199
        go_wp2_with fail
        go_ret
        exact ⟨rfl, HBW.out⟩
    · rw [decide_eq_false e]
      simp only [Bool.false_and]
      clear e
      clear HNUM
      go_enter Tryz.func199, Tryz.ntmps199
      go_wp2_with fail
      go_ret
      exact ⟨rfl, HBW.out⟩
  · rw [if_pos (by decide)]
    rcases hse with ⟨e, rfl⟩ | ⟨e, h1, h2⟩
    · rcases hit with ⟨i, i1⟩ | ⟨i, i1⟩
      · rcases hks with ⟨q, q1⟩ | ⟨q, q1⟩
        · rw [decide_eq_true e, decide_eq_true i, decide_eq_true q]
          simp only [Bool.and_true]
          clear e i q
          clear HNUM
          go_enter Tryz.func199, Tryz.ntmps199
          go_wp2_with fail
          go_ret
          exact ⟨rfl, HBW.out⟩
        · rw [decide_eq_true e, decide_eq_true i, decide_eq_false q]
          simp only [Bool.and_true, Bool.and_false]
          clear e i q
          clear HNUM
          go_enter Tryz.func199, Tryz.ntmps199
          go_wp2_with fail
          go_ret
          exact ⟨rfl, HBW.out⟩
      · rw [decide_eq_true e, decide_eq_false i]
        simp only [Bool.and_false]
        clear e i
        clear HNUM
        go_enter Tryz.func199, Tryz.ntmps199
        go_wp2_with fail
        go_ret
        exact ⟨rfl, HBW.out⟩
    · rw [decide_eq_false e]
      simp only [Bool.false_and]
      clear e
      clear HNUM
      go_enter Tryz.func199, Tryz.ntmps199
      go_wp2_with fail
      go_ret
      exact ⟨rfl, HBW.out⟩
  · rw [if_pos (by decide)]
    rcases hse with ⟨e, rfl⟩ | ⟨e, h1, h2⟩
    · rcases hit with ⟨i, i1⟩ | ⟨i, i1⟩
      · rcases hks with ⟨q, q1⟩ | ⟨q, q1⟩
        · rw [decide_eq_true e, decide_eq_true i, decide_eq_true q]
          simp only [Bool.and_true]
          clear e i q
          clear HNUM
          go_enter Tryz.func199, Tryz.ntmps199
          go_wp2_with fail
          go_ret
          exact ⟨rfl, HBW.out⟩
        · rw [decide_eq_true e, decide_eq_true i, decide_eq_false q]
          simp only [Bool.and_true, Bool.and_false]
          clear e i q
          clear HNUM
          go_enter Tryz.func199, Tryz.ntmps199
          go_wp2_with fail
          go_ret
          exact ⟨rfl, HBW.out⟩
      · rw [decide_eq_true e, decide_eq_false i]
        simp only [Bool.and_false]
        clear e i
        clear HNUM
        go_enter Tryz.func199, Tryz.ntmps199
        go_wp2_with fail
        go_ret
        exact ⟨rfl, HBW.out⟩
    · rw [decide_eq_false e]
      simp only [Bool.false_and]
      clear e
      clear HNUM
      go_enter Tryz.func199, Tryz.ntmps199
      go_wp2_with fail
      go_ret
      exact ⟨rfl, HBW.out⟩
  · rw [if_neg (by decide), if_pos rfl]
    rcases hit with ⟨i, i1⟩ | ⟨i, i1⟩
    · rcases hks with ⟨q, q1⟩ | ⟨q, q1⟩
      · rw [decide_eq_true i, decide_eq_true q]
        simp only [Bool.true_and, Bool.and_true]
        clear i q
        skip
        go_enter Tryz.func199, Tryz.ntmps199
        go_wp2_with (first | (go_at_call 233; refine (HNUM.out _).mono ?_; rintro e w1 ⟨rfl, hb1⟩))
        go_ret
        exact ⟨rfl, Below.on HBW.out hb1⟩
      · rw [decide_eq_true i, decide_eq_false q]
        simp only [Bool.and_true, Bool.false_and]
        clear i q
        clear HNUM
        go_enter Tryz.func199, Tryz.ntmps199
        go_wp2_with fail
        go_ret
        exact ⟨rfl, HBW.out⟩
    · rw [decide_eq_false i]
      simp only [Bool.false_and, Bool.and_false]
      clear i
      clear HNUM
      go_enter Tryz.func199, Tryz.ntmps199
      go_wp2_with fail
      go_ret
      exact ⟨rfl, HBW.out⟩
  · rw [if_neg (by decide), if_neg (by decide), if_pos rfl]
    rcases hit with ⟨i, i1⟩ | ⟨i, i1⟩
    · rcases hks with ⟨q, q1⟩ | ⟨q, q1⟩
      · rw [decide_eq_true i, decide_eq_true q]
        simp only [Bool.and_true]
        clear i q
        clear HNUM
        go_enter Tryz.func199, Tryz.ntmps199
        go_wp2_with fail
        go_ret
        exact ⟨rfl, HBW.out⟩
      · rw [decide_eq_true i, decide_eq_false q]
        simp only [Bool.and_true]
        clear i q
        clear HNUM
        go_enter Tryz.func199, Tryz.ntmps199
        go_wp2_with fail
        go_ret
        exact ⟨rfl, HBW.out⟩
    · rw [decide_eq_false i]
      simp only [Bool.and_false]
      clear i
      clear HNUM
      go_enter Tryz.func199, Tryz.ntmps199
      go_wp2_with fail
      go_ret
      exact ⟨rfl, HBW.out⟩
  · rw [if_neg (by decide), if_neg (by decide), if_neg (by decide), if_pos rfl]
    rcases hse with ⟨e, rfl⟩ | ⟨e, h1, h2⟩
    · rcases hks with ⟨q, q1⟩ | ⟨q, q1⟩
      · rw [decide_eq_true e, decide_eq_true q]
        simp only [Bool.and_true]
        clear e q
        clear HNUM
        go_enter Tryz.func199, Tryz.ntmps199
        go_wp2_with fail
        go_ret
        exact ⟨rfl, HBW.out⟩
      · rw [decide_eq_true e, decide_eq_false q]
        simp only [Bool.and_false]
        clear e q
        clear HNUM
        go_enter Tryz.func199, Tryz.ntmps199
        go_wp2_with fail
        go_ret
        exact ⟨rfl, HBW.out⟩
    · rw [decide_eq_false e]
      simp only [Bool.false_and]
      clear e
      clear HNUM
      go_enter Tryz.func199, Tryz.ntmps199
      go_wp2_with fail
      go_ret
      exact ⟨rfl, HBW.out⟩
  · rw [if_neg (by decide), if_neg (by decide), if_neg (by decide), if_neg (by decide), if_pos rfl]
    rcases hse with ⟨e, rfl⟩ | ⟨e, h1, h2⟩
    · rw [decide_eq_true e, Bool.true_and]
      clear e
      by_cases hl : ks.length = it.length
      · rw [decide_eq_true hl]
        have z1 : ((ks.length : Int) != (it.length : Int)) = false := by rw [hl]; simp
        clear hl
        clear HNUM
        go_enter Tryz.func199, Tryz.ntmps199
        go_wp2_with fail
        go_ret
        exact ⟨rfl, HBW.out⟩
      · rw [decide_eq_false hl]
        have z1 : ((ks.length : Int) != (it.length : Int)) = true := by simp; omega
        clear hl
        clear HNUM
        go_enter Tryz.func199, Tryz.ntmps199
        go_wp2_with fail
        go_ret
        exact ⟨rfl, HBW.out⟩
    · rw [decide_eq_false e, Bool.false_and]
      clear e
      clear HNUM
      go_enter Tryz.func199, Tryz.ntmps199
      go_wp2_with fail
      go_ret
      exact ⟨rfl, HBW.out⟩
  · rw [if_neg (by omega), if_neg (by omega), if_neg (by omega), if_neg (by omega), if_neg (by omega)]
    have y1 : (k : Int) < 0 := k0
    clear HNUM
    go_enter Tryz.func199, Tryz.ntmps199
    go_wp2_with fail
    go_ret
    exact ⟨rfl, HBW.out⟩
  · rw [if_neg (by omega), if_neg (by omega), if_neg (by omega), if_neg (by omega), if_neg (by omega)]
    have y1 : ¬ (k : Int) < 0 := by omega
    clear HNUM
    go_enter Tryz.func199, Tryz.ntmps199
    go_wp2_with fail
    go_ret
    exact ⟨rfl, HBW.out⟩
end Go.Proofs.Jt
