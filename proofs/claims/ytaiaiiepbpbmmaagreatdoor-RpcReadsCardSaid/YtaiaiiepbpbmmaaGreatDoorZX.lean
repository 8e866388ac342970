/- Merged texts: Z1, Z2. -/
import Derived.Test.YtaiaiiepbpbmmaaGreatDoorVF2
import Derived.Test.YtaiaiiepbpbmmaaGreatDoorRY
/- Z1: The reference's Depth, Number, Shaped. Printed by gen_z1.py. -/
namespace Go.Proofs.Jt
open Go.RowKit Go.Maps Go.Lib Go.Proofs.Utf Go.Proofs

set_option maxRecDepth 100000 in
set_option maxHeartbeats 2000000 in
theorem rdepth_any {w : World} {x : JV} {kp ip : Option Addr} {kc ic : Nat} (h : KI w x kp kc ip ic) : x.wt ≤ 1000000 → ∀ w', Below w.heap.size w w' → Calls Tryz.prog 148 #[jval x kp kc ip ic] w' fun e w'' => e = .returned (.int .i64 (x.dep : Nat)) ∧ Below w'.heap.size w' w'' := by
 induction h with
 | mk x kp kc ip ic fp fc gp gc hk hz hi hh ih =>
  intro hwt w' hb
  obtain ⟨W, hW⟩ : ∃ W, w'.alloc (.cells #[.int .i64 x.kind, .string ⟨x.str.toArray⟩, .slice kp x.keys.length kc, .slice ip x.items.length ic] 25) = W := ⟨_, rfl⟩
  have bW : Below w'.heap.size w' W := by rw [← hW]; exact (Below.refl _ _).alloc (Nat.le_refl _) _
  have hbx := box_cells hW
  cases x with
  | mk k s ks it =>
  simp only [kind_mk, str_mk, keys_mk, items_mk] at *
  obtain ⟨S, hS⟩ : ∃ S : ByteArray, (⟨s.toArray⟩ : ByteArray) = S := ⟨_, rfl⟩
  simp only [hS] at hW hbx
  obtain ⟨c0, c1, c2, c3⟩ := hbx W (Below.refl _ _)
  have hdep : (JV.mk k s ks it).dep = if k = 5 ∨ k = 6 then depL it + 1 else 0 := by rw [JV.dep]
  have hwl : wtL it ≤ 1000000 := by rw [JV.wt] at hwt; omega
  have hdl := depL_wt it
  have hil := hz.1
  unfold maxLen at hil
  obtain ⟨D, hD⟩ : ∃ D, depL it = D := ⟨_, rfl⟩
  rw [hD] at hdl hdep
  have hD6 : D ≤ 1000000 := by omega
  have HD := Lib.hid hD
  have HI := Lib.hid hi
  have HIH := Lib.hid ih
  have HWT : Hid (∀ (i : Nat) (y : JV), it[i]? = some y → y.wt ≤ 1000000) := Lib.hid fun i y hy => by have := wt_item hy; omega
  have HB : Hid (∀ W', Below W.heap.size W W' → Below w.heap.size w W') := Lib.hid fun W' hb' => hb.trans ((bW.trans (hb'.mono bW.size)).mono hb.size)
  have HBW := Lib.hid bW
  have HBX := Lib.hid hbx
  rw [hdep]
  clear hi ih hh hD hwt hk hz hbx hdep hwl bW hb hdl
  unfold jval
  simp only [kind_mk, str_mk, keys_mk, items_mk]
  rw [hS]
  clear hS
  go_enter Tryz.func148, Tryz.ntmps148
  go_wp2_with fail
  go_loopw [3, 4] (fun mv iv wr => ∃ (j m : Nat), iv = .int .i64 j ∧ j ≤ it.length ∧ mv = .int .i64 m ∧ max m (depL (it.drop j)) = D ∧ Below W.heap.size W wr) (fun _ iv _ => it.length - (RowKit.intOf iv).toNat)
  case atStart => exact ⟨0, 0, rfl, Nat.zero_le _, rfl, by rw [List.drop_zero, HD.out]; omega, Below.refl _ _⟩
  case round =>
   obtain ⟨j, m, rfl, hj, rfl, hm, hB⟩ := hrel
   have hmD : m ≤ D := by omega
   clear c0 c1 c2 c3
   obtain ⟨c0, c1, c2, c3⟩ := HBX.out wr hB
   by_cases hjn : (j : Int) < (it.length : Int)
   · obtain ⟨y, hy⟩ : ∃ y, it[j]? = some y := ⟨_, List.getElem?_eq_getElem (by omega)⟩
     obtain ⟨_, a, rfl, hjc⟩ := HI.out j y hy
     obtain ⟨d0, d1, d2, d3, _⟩ := hjc.below (HB.out _ hB)
     obtain ⟨Y, hY⟩ : ∃ Y : ByteArray, (⟨y.str.toArray⟩ : ByteArray) = Y := ⟨_, rfl⟩
     have hcall := HIH.out j y hy (HWT.out j y hy) wr (HB.out _ hB)
     unfold jval at hcall
     rw [hY] at d1 hcall
     have hdy := dep_wt y
     have hwy := HWT.out j y hy
     rw [drop_cons hy, depL] at hm
     obtain ⟨dy, hdyy⟩ : ∃ d, y.dep = d := ⟨_, rfl⟩
     simp only [hdyy] at hcall hm hdy
     have HM := Lib.hid hm
     clear hm hdyy hY hy hjc
     by_cases hgt : (m : Int) < (dy : Int)
     · go_wp2_with (first | (go_at_call 148; refine hcall.mono ?_; rintro e w3 ⟨rfl, hb3⟩))
       go_roundw
       case rel => exact ⟨j + 1, dy, by go_num, by omega, rfl, by have := HM.out; omega, hB.trans (hb3.mono hB.size)⟩
       case measure => simp [RowKit.intOf]; omega
     · go_wp2_with (first | (go_at_call 148; refine hcall.mono ?_; rintro e w3 ⟨rfl, hb3⟩))
       go_roundw
       case rel => exact ⟨j + 1, m, by go_num, by omega, rfl, by have := HM.out; omega, hB.trans (hb3.mono hB.size)⟩
       case measure => simp [RowKit.intOf]; omega
   · have hj2 : j = it.length := by omega
     subst hj2
     rw [List.drop_length, depL] at hm
     have hm2 : m = D := by omega
     subst hm2
     clear hm HD
     rcases (show k = 5 ∨ (¬ k = 5 ∧ k = 6) ∨ (¬ k = 5 ∧ ¬ k = 6) by omega) with rfl | ⟨n5, rfl⟩ | ⟨n5, n6⟩
     · go_wp2_with fail
       go_ret
       exact ⟨by first | rfl | (rw [if_pos (.inl rfl)]; rfl), HBW.out.trans (hB.mono HBW.out.size)⟩
     · go_wp2_with fail
       go_ret
       exact ⟨by first | rfl | (rw [if_pos (.inr rfl)]; rfl), HBW.out.trans (hB.mono HBW.out.size)⟩
     · have m5 : (k == 5) = false := beq_eq_false_iff_ne.2 n5
       have m6 : (k == 6) = false := beq_eq_false_iff_ne.2 n6
       go_wp2_with fail
       go_ret
       exact ⟨by first | rfl | (rw [if_neg (by omega)]; rfl), HBW.out.trans (hB.mono HBW.out.size)⟩
theorem numB_cases (l : List UInt8) : (nextL l = none ∧ numB l = false) ∨ ∃ k x m, nextL l = some (k, x, m) ∧ numB l = (decide (k = 3) && decide (m = l.length)) := by
 cases h : nextL l with
 | none => exact .inl ⟨rfl, by unfold numB; rw [h]; rfl⟩
 | some r =>
  obtain ⟨k, x, m⟩ := r
  refine .inr ⟨k, x, m, rfl, ?_⟩
  unfold numB
  rw [h, Bool.eq_iff_iff]
  simp only [Bool.and_eq_true, decide_eq_true_eq, Option.some.injEq, Prod.mk.injEq]
  constructor
  · rintro ⟨h1, _, h3⟩; exact ⟨h1, h3⟩
  · rintro ⟨h1, h3⟩
    subst h1 h3
    exact ⟨rfl, by rw [next_text l 3 x _ h (by omega), List.take_length], rfl⟩
set_option maxRecDepth 100000 in
set_option maxHeartbeats 1000000 in
theorem rnumber_any (s : ByteArray) (w : World) (hs : s.size ≤ 16777216) : Calls Tryz.prog 233 #[.string s] w fun e w' => e = .returned (.bool (numB s.data.toList)) ∧ Below w.heap.size w w' := by
 by_cases h0 : s.size = 0
 · have e0 : s = ⟨#[]⟩ := by
    apply ByteArray.ext
    exact Array.size_eq_zero_iff.1 h0
   subst e0
   go_enter Tryz.func233, Tryz.ntmps233
   go_wp2_with fail
   go_ret
   exact ⟨rfl, Below.refl _ _⟩
 · have hne : ¬ s.toList = [] ∧ s.toList.isEmpty = false := by
    have hl : s.toList.length = s.size := by rw [ByteArray.toList_eq]; exact Array.length_toList
    refine ⟨fun e => h0 (by rw [← hl, e]; rfl), ?_⟩
    cases h : s.toList with
    | nil => rw [h] at hl; exact absurd hl.symm h0
    | cons a b => rfl
   obtain ⟨n1, n2⟩ := hne
   have hc := next_any s 0 w hs (by omega)
   unfold Nx nxIs at hc
   rw [List.drop_zero] at hc
   have hsl : s.data.toList.length = s.size := Array.length_toList
   obtain ⟨R, hR⟩ : ∃ R, numB s.data.toList = R := ⟨_, rfl⟩
   rw [hR]
   rcases numB_cases s.data.toList with ⟨h1, h2⟩ | ⟨k, x, m, h1, h2⟩
   · rw [h1] at hc
     rw [h2] at hR
     subst hR
     clear h0 hsl h1 h2
     go_enter Tryz.func233, Tryz.ntmps233
     go_wp2_with (first | (go_at_call 200; refine hc.mono ?_; rintro e w1 ⟨v, rfl, ⟨k, x, f, rfl, hk⟩, hb1⟩; have hk3 : (k == 3) = false := beq_eq_false_iff_ne.2 hk))
     go_ret
     exact ⟨rfl, hb1.trans (((Below.refl _ _).alloc (Nat.le_refl _) _).mono hb1.size)⟩
   · rw [h1] at hc
     dsimp only at hc
     rw [h2, hsl] at hR
     rw [Nat.zero_add] at hc
     by_cases hk : k = 3
     · subst hk
       have hm : ((m : Int) == (s.size : Int)) = R := by rw [← hR, Bool.eq_iff_iff]; simp; omega
       clear h0 hsl h1 h2 hR
       go_enter Tryz.func233, Tryz.ntmps233
       go_wp2_with (first | (go_at_call 200; refine hc.mono ?_; rintro e w1 ⟨v, rfl, rfl, hb1⟩))
       go_ret
       exact ⟨rfl, hb1.trans (((Below.refl _ _).alloc (Nat.le_refl _) _).mono hb1.size)⟩
     · have hk3 : ((k : Int) == 3) = false := beq_eq_false_iff_ne.2 (by omega)
       rw [decide_eq_false hk, Bool.false_and] at hR
       subst hR
       clear h0 hsl h1 h2
       go_enter Tryz.func233, Tryz.ntmps233
       go_wp2_with (first | (go_at_call 200; refine hc.mono ?_; rintro e w1 ⟨v, rfl, rfl, hb1⟩))
       go_ret
       exact ⟨rfl, hb1.trans (((Below.refl _ _).alloc (Nat.le_refl _) _).mono hb1.size)⟩
set_option maxRecDepth 100000 in
set_option maxHeartbeats 4000000 in
theorem rshaped_any {w : World} {x : JV} {kp ip : Option Addr} {kc ic : Nat} (hw : x.wt ≤ 1000000) : Calls Tryz.prog 199 #[jval x kp kc ip ic] w fun e w' => e = .returned (.bool x.shaped) ∧ Below w.heap.size w w' := by
 obtain ⟨W, hW⟩ : ∃ W, w.alloc (.cells #[.int .i64 x.kind, .string ⟨x.str.toArray⟩, .slice kp x.keys.length kc, .slice ip x.items.length ic] 25) = W := ⟨_, rfl⟩
 have bW : Below w.heap.size w W := by rw [← hW]; exact (Below.refl _ _).alloc (Nat.le_refl _) _
 have hbx := box_cells hW
 cases x with
 | mk k s ks it =>
 simp only [kind_mk, str_mk, keys_mk, items_mk] at *
 rw [JV.wt] at hw
 have hkl : ks.length ≤ 1000000 := by have := keys_len ks; omega
 have hil : it.length ≤ 1000000 := by have := items_len it; omega
 obtain ⟨S, hS⟩ : ∃ S : ByteArray, (⟨s.toArray⟩ : ByteArray) = S := ⟨_, rfl⟩
 have hSl : S.data.toList = s := by rw [← hS]
 have hSz : S.size ≤ 16777216 := by rw [← hS, arr_size]; omega
 have hnum := fun w => rnumber_any S w hSz
 rw [hSl] at hnum
 simp only [hS] at hW hbx
 obtain ⟨c0, c1, c2, c3⟩ := hbx W (Below.refl _ _)
 have HBW := Lib.hid bW
 have HNUM := Lib.hid hnum
 have hse : (s = [] ∧ S = ⟨#[]⟩) ∨ (¬ s = [] ∧ ¬ S.toList = [] ∧ S.toList.isEmpty = false) := by
  by_cases e : s = []
  · exact .inl ⟨e, by rw [← hS, e]⟩
  · refine .inr ⟨e, ?_, ?_⟩
    · rw [ByteArray.toList_eq, hSl]; exact e
    · rw [ByteArray.toList_eq, hSl]; cases s with | nil => exact absurd rfl e | cons _ _ => rfl
 have hit : (it = [] ∧ ¬ (0 : Int) < (it.length : Int)) ∨ (¬ it = [] ∧ (0 : Int) < (it.length : Int)) := by
  cases it with
  | nil => exact .inl ⟨rfl, by simp⟩
  | cons a b => exact .inr ⟨by simp, by simp only [List.length_cons]; omega⟩
 have hks : (ks = [] ∧ ¬ (0 : Int) < (ks.length : Int)) ∨ (¬ ks = [] ∧ (0 : Int) < (ks.length : Int)) := by
  cases ks with
  | nil => exact .inl ⟨rfl, by simp⟩
  | cons a b => exact .inr ⟨by simp, by simp only [List.length_cons]; omega⟩
 have hsh : (JV.mk k s ks it).shaped = if k = 0 ∨ k = 1 ∨ k = 2 then decide (s = []) && (decide (ks = []) && decide (it = [])) else if k = 3 then (decide (ks = []) && decide (it = [])) && numB s else if k = 4 then (decide (ks = []) && decide (it = [])) else if k = 5 then decide (s = []) && decide (ks = []) else if k = 6 then decide (s = []) && decide (ks.length = it.length) else false := by
  have e1 : ∀ {α : Type} (l : List α) [Decidable (l = [])], l.isEmpty = decide (l = []) := fun l => by cases l <;> simp
  rw [JV.shaped, Bool.and_assoc, e1 ks, e1 it]
  have e3 : (ks.length == it.length) = decide (ks.length = it.length) := rfl
  rw [e3]
 rw [hsh]
 unfold jval
 simp only [kind_mk, str_mk, keys_mk, items_mk]
 rw [hS]
 clear hsh bW hnum hbx hw hS hSl hSz
 rcases (show k = 0 ∨ k = 1 ∨ k = 2 ∨ k = 3 ∨ k = 4 ∨ k = 5 ∨ k = 6 ∨ k < 0 ∨ 6 < k by omega) with rfl | rfl | rfl | rfl | rfl | rfl | rfl | k0 | k0
 · rw [if_pos (by decide)]
   rcases hse with ⟨e, rfl⟩ | ⟨e, h1, h2⟩
   · rcases hit with ⟨i, i1⟩ | ⟨i, i1⟩
     · rcases hks with ⟨q, q1⟩ | ⟨q, q1⟩
       · rw [decide_eq_true e, decide_eq_true i, decide_eq_true q]
         simp only [Bool.and_true]
         clear e i q
         clear HNUM
         go_enter Tryz.func199, Tryz.ntmps199
         go_wp2_with fail
         go_ret
         exact ⟨rfl, HBW.out⟩
       · rw [decide_eq_true e, decide_eq_true i, decide_eq_false q]
         simp only [Bool.and_true, Bool.and_false]
         clear e i q
         clear HNUM
         go_enter Tryz.func199, Tryz.ntmps199
         go_wp2_with fail
         go_ret
         exact ⟨rfl, HBW.out⟩
     · rw [decide_eq_true e, decide_eq_false i]
       simp only [Bool.and_false]
       clear e i
       clear HNUM
       go_enter Tryz.func199, Tryz.ntmps199
       go_wp2_with fail
       go_ret
       exact ⟨rfl, HBW.out⟩
   · rw [decide_eq_false e]
     simp only [Bool.false_and]
     clear e
     clear HNUM
     go_enter Tryz.func199, Tryz.ntmps199
     go_wp2_with fail
     go_ret
     exact ⟨rfl, HBW.out⟩
 · rw [if_pos (by decide)]
   rcases hse with ⟨e, rfl⟩ | ⟨e, h1, h2⟩
   · rcases hit with ⟨i, i1⟩ | ⟨i, i1⟩
     · rcases hks with ⟨q, q1⟩ | ⟨q, q1⟩
       · rw [decide_eq_true e, decide_eq_true i, decide_eq_true q]
         simp only [Bool.and_true]
         clear e i q
         clear HNUM
         go_enter Tryz.func199, Tryz.ntmps199
         go_wp2_with fail
         go_ret
         exact ⟨rfl, HBW.out⟩
       · rw [decide_eq_true e, decide_eq_true i, decide_eq_false q]
         simp only [Bool.and_true, Bool.and_false]
         clear e i q
         clear HNUM
         go_enter Tryz.func199, Tryz.ntmps199
         go_wp2_with fail
         go_ret
         exact ⟨rfl, HBW.out⟩
     · rw [decide_eq_true e, decide_eq_false i]
       simp only [Bool.and_false]
       clear e i
       clear HNUM
       go_enter Tryz.func199, Tryz.ntmps199
       go_wp2_with fail
       go_ret
       exact ⟨rfl, HBW.out⟩
   · rw [decide_eq_false e]
     simp only [Bool.false_and]
     clear e
     clear HNUM
     go_enter Tryz.func199, Tryz.ntmps199
     go_wp2_with fail
     go_ret
     exact ⟨rfl, HBW.out⟩
 · rw [if_pos (by decide)]
   rcases hse with ⟨e, rfl⟩ | ⟨e, h1, h2⟩
   · rcases hit with ⟨i, i1⟩ | ⟨i, i1⟩
     · rcases hks with ⟨q, q1⟩ | ⟨q, q1⟩
       · rw [decide_eq_true e, decide_eq_true i, decide_eq_true q]
         simp only [Bool.and_true]
         clear e i q
         clear HNUM
         go_enter Tryz.func199, Tryz.ntmps199
         go_wp2_with fail
         go_ret
         exact ⟨rfl, HBW.out⟩
       · rw [decide_eq_true e, decide_eq_true i, decide_eq_false q]
         simp only [Bool.and_true, Bool.and_false]
         clear e i q
         clear HNUM
         go_enter Tryz.func199, Tryz.ntmps199
         go_wp2_with fail
         go_ret
         exact ⟨rfl, HBW.out⟩
     · rw [decide_eq_true e, decide_eq_false i]
       simp only [Bool.and_false]
       clear e i
       clear HNUM
       go_enter Tryz.func199, Tryz.ntmps199
       go_wp2_with fail
       go_ret
       exact ⟨rfl, HBW.out⟩
   · rw [decide_eq_false e]
     simp only [Bool.false_and]
     clear e
     clear HNUM
     go_enter Tryz.func199, Tryz.ntmps199
     go_wp2_with fail
     go_ret
     exact ⟨rfl, HBW.out⟩
 · rw [if_neg (by decide), if_pos rfl]
   rcases hit with ⟨i, i1⟩ | ⟨i, i1⟩
   · rcases hks with ⟨q, q1⟩ | ⟨q, q1⟩
     · rw [decide_eq_true i, decide_eq_true q]
       simp only [Bool.true_and, Bool.and_true]
       clear i q
       skip
       go_enter Tryz.func199, Tryz.ntmps199
       go_wp2_with (first | (go_at_call 233; refine (HNUM.out _).mono ?_; rintro e w1 ⟨rfl, hb1⟩))
       go_ret
       exact ⟨rfl, Below.on HBW.out hb1⟩
     · rw [decide_eq_true i, decide_eq_false q]
       simp only [Bool.and_true, Bool.false_and]
       clear i q
       clear HNUM
       go_enter Tryz.func199, Tryz.ntmps199
       go_wp2_with fail
       go_ret
       exact ⟨rfl, HBW.out⟩
   · rw [decide_eq_false i]
     simp only [Bool.false_and, Bool.and_false]
     clear i
     clear HNUM
     go_enter Tryz.func199, Tryz.ntmps199
     go_wp2_with fail
     go_ret
     exact ⟨rfl, HBW.out⟩
 · rw [if_neg (by decide), if_neg (by decide), if_pos rfl]
   rcases hit with ⟨i, i1⟩ | ⟨i, i1⟩
   · rcases hks with ⟨q, q1⟩ | ⟨q, q1⟩
     · rw [decide_eq_true i, decide_eq_true q]
       simp only [Bool.and_true]
       clear i q
       clear HNUM
       go_enter Tryz.func199, Tryz.ntmps199
       go_wp2_with fail
       go_ret
       exact ⟨rfl, HBW.out⟩
     · rw [decide_eq_true i, decide_eq_false q]
       simp only [Bool.and_true]
       clear i q
       clear HNUM
       go_enter Tryz.func199, Tryz.ntmps199
       go_wp2_with fail
       go_ret
       exact ⟨rfl, HBW.out⟩
   · rw [decide_eq_false i]
     simp only [Bool.and_false]
     clear i
     clear HNUM
     go_enter Tryz.func199, Tryz.ntmps199
     go_wp2_with fail
     go_ret
     exact ⟨rfl, HBW.out⟩
 · rw [if_neg (by decide), if_neg (by decide), if_neg (by decide), if_pos rfl]
   rcases hse with ⟨e, rfl⟩ | ⟨e, h1, h2⟩
   · rcases hks with ⟨q, q1⟩ | ⟨q, q1⟩
     · rw [decide_eq_true e, decide_eq_true q]
       simp only [Bool.and_true]
       clear e q
       clear HNUM
       go_enter Tryz.func199, Tryz.ntmps199
       go_wp2_with fail
       go_ret
       exact ⟨rfl, HBW.out⟩
     · rw [decide_eq_true e, decide_eq_false q]
       simp only [Bool.and_false]
       clear e q
       clear HNUM
       go_enter Tryz.func199, Tryz.ntmps199
       go_wp2_with fail
       go_ret
       exact ⟨rfl, HBW.out⟩
   · rw [decide_eq_false e]
     simp only [Bool.false_and]
     clear e
     clear HNUM
     go_enter Tryz.func199, Tryz.ntmps199
     go_wp2_with fail
     go_ret
     exact ⟨rfl, HBW.out⟩
 · rw [if_neg (by decide), if_neg (by decide), if_neg (by decide), if_neg (by decide), if_pos rfl]
   rcases hse with ⟨e, rfl⟩ | ⟨e, h1, h2⟩
   · rw [decide_eq_true e, Bool.true_and]
     clear e
     by_cases hl : ks.length = it.length
     · rw [decide_eq_true hl]
       have z1 : ((ks.length : Int) != (it.length : Int)) = false := by rw [hl]; simp
       clear hl
       clear HNUM
       go_enter Tryz.func199, Tryz.ntmps199
       go_wp2_with fail
       go_ret
       exact ⟨rfl, HBW.out⟩
     · rw [decide_eq_false hl]
       have z1 : ((ks.length : Int) != (it.length : Int)) = true := by simp; omega
       clear hl
       clear HNUM
       go_enter Tryz.func199, Tryz.ntmps199
       go_wp2_with fail
       go_ret
       exact ⟨rfl, HBW.out⟩
   · rw [decide_eq_false e, Bool.false_and]
     clear e
     clear HNUM
     go_enter Tryz.func199, Tryz.ntmps199
     go_wp2_with fail
     go_ret
     exact ⟨rfl, HBW.out⟩
 · rw [if_neg (by omega), if_neg (by omega), if_neg (by omega), if_neg (by omega), if_neg (by omega)]
   have y1 : (k : Int) < 0 := k0
   clear HNUM
   go_enter Tryz.func199, Tryz.ntmps199
   go_wp2_with fail
   go_ret
   exact ⟨rfl, HBW.out⟩
 · rw [if_neg (by omega), if_neg (by omega), if_neg (by omega), if_neg (by omega), if_neg (by omega)]
   have y1 : ¬ (k : Int) < 0 := by omega
   clear HNUM
   go_enter Tryz.func199, Tryz.ntmps199
   go_wp2_with fail
   go_ret
   exact ⟨rfl, HBW.out⟩
end Go.Proofs.Jt
/- Z2: The reference's found, Check. -/
namespace Go.Proofs.Jt
open Go.RowKit Go.Maps Go.Lib Go.Proofs.Utf Go.Proofs

/-- the reference's Quote of a text, by its error -/
theorem rquote_err (s : ByteArray) (w : World) (hs : s.size ≤ 16777216) : Calls Tryz.prog 130 #[.string s] w fun e w' => ∃ X : ByteArray, e = .returned (.tuple #[.string X, .int .i64 (if validD s.data.toList then (0 : Int) else 8)]) ∧ Below w.heap.size w w' ∧ (validD s.data.toList = true → X.data.toList = quoteL s.data.toList) := by
 refine (quote_ref s w hs).mono ?_
 rintro e w' ⟨rfl, hb⟩
 unfold quoteRV
 cases hv : validD s.data.toList with
 | true => exact ⟨_, rfl, hb, fun _ => rfl⟩
 | false => exact ⟨_, rfl, hb, fun h => by cases h⟩
set_option maxRecDepth 100000 in
set_option maxHeartbeats 8000000 in
theorem rfound_any {w : World} {x : JV} {kp ip : Option Addr} {kc ic : Nat} (h : KI w x kp kc ip ic) : x.wt ≤ 1000000 → ∀ w', Below w.heap.size w w' → Calls Tryz.prog 149 #[jval x kp kc ip ic] w' fun e w'' => e = .returned (.int .i64 (x.fnd : Nat)) ∧ Below w'.heap.size w' w'' := by
 induction h with
 | mk x kp kc ip ic fp fc gp gc hk hz hi hh ih =>
  intro hwt w' hb
  obtain ⟨W, hW⟩ : ∃ W, w'.alloc (.cells #[.int .i64 x.kind, .string ⟨x.str.toArray⟩, .slice kp x.keys.length kc, .slice ip x.items.length ic] 25) = W := ⟨_, rfl⟩
  have bW : Below w'.heap.size w' W := by rw [← hW]; exact (Below.refl _ _).alloc (Nat.le_refl _) _
  have hbx := box_cells hW
  have hsh := fun w1 => rshaped_any (w := w1) (kp := kp) (kc := kc) (ip := ip) (ic := ic) hwt
  cases x with
  | mk k s ks it =>
  unfold jval at hsh ⊢
  simp only [kind_mk, str_mk, keys_mk, items_mk] at *
  obtain ⟨S, hS⟩ : ∃ S : ByteArray, (⟨s.toArray⟩ : ByteArray) = S := ⟨_, rfl⟩
  have hSl : S.data.toList = s := by rw [← hS]
  have hwt2 := hwt
  rw [JV.wt] at hwt2
  have hSz : S.size ≤ 16777216 := by rw [← hS, arr_size]; omega
  have hkl : ks.length ≤ 1000000 := by have := keys_len ks; omega
  have hil : it.length ≤ 1000000 := by have := items_len it; omega
  simp only [hS] at hW hbx hsh
  rw [hS]
  have hq := fun w1 => rquote_err S w1 hSz
  simp only [hSl] at hq
  have HB : Hid (∀ W', Below W.heap.size W W' → Below w.heap.size w W') := Lib.hid fun W' hb' => hb.trans ((bW.trans (hb'.mono bW.size)).mono hb.size)
  have HBW := Lib.hid bW
  have HBX := Lib.hid hbx
  obtain ⟨c0, c1, c2, c3⟩ := hbx W (Below.refl _ _)
  have hfnd : (JV.mk k s ks it).fnd = if (JV.mk k s ks it).shaped = false then 4 else if k = 4 ∧ validD s = false then 8 else fndL (decide (k = 6)) it ks [] := by rw [JV.fnd]
  rw [hfnd]
  have hsc := @shaped_cases k s ks it
  have HWT : Hid (∀ (i : Nat) (y : JV), it[i]? = some y → y.wt ≤ 1000000) := Lib.hid fun i y hy => by have := wt_item hy; omega
  have HKW : Hid (∀ u ∈ ks, u.length ≤ 1000000) := Lib.hid fun u hu => by have := keysW_mem hu; omega
  have HI := Lib.hid hi
  have HIH := Lib.hid ih
  have HK := Lib.hid hk
  have HSH := Lib.hid hsh
  have HQ := Lib.hid hq
  clear hi ih hh hk hz hbx hsh hq bW hb hfnd hwt hwt2 hS hSl hSz
  have hs := HSH.out W
  cases hsd : (JV.mk k s ks it).shaped with
  | false =>
   rw [if_pos rfl]
   rw [hsd] at hs
   clear hsd hsc
   go_enter Tryz.func149, Tryz.ntmps149
   go_wp2_with (first | (go_at_call 199; refine hs.mono ?_; rintro e w1 ⟨rfl, hb1⟩))
   go_ret
   exact ⟨rfl, HBW.out.trans (hb1.mono HBW.out.size)⟩
  | true =>
   rw [if_neg (by simp)]
   rw [hsd] at hs
   have hw := hsc hsd
   clear hsd hsc
   by_cases k4 : k = 4
   · have hit : it = [] := by
      rcases hw with ⟨e2, _⟩ | ⟨e2, _⟩ | ⟨_, _, e⟩ | ⟨e2, _⟩ | ⟨e2, _⟩
      · omega
      · omega
      · exact e
      · omega
      · omega
     subst k4
     have hv : (if (4 : Int) = 4 ∧ validD s = false then 8 else fndL (decide ((4 : Int) = 6)) it ks []) = if validD s then 0 else 8 := by
      rw [hit]
      cases validD s <;> simp [fndL]
     rw [hv]
     have hcast : ((if validD s = true then 0 else 8 : Nat) : Int) = if validD s = true then (0 : Int) else 8 := by cases validD s <;> rfl
     rw [hcast]
     obtain ⟨E, hE⟩ : ∃ E : Int, (if validD s = true then (0 : Int) else 8) = E := ⟨_, rfl⟩
     have hq := HQ.out
     simp only [hE] at hq ⊢
     have HQ2 := Lib.hid hq
     clear hw hit hv hcast hE hq HQ
     go_enter Tryz.func149, Tryz.ntmps149
     go_wp2_with (first
      | (go_at_call 199; refine hs.mono ?_; rintro e w1 ⟨rfl, hb1⟩; clear c0 c1 c2 c3; obtain ⟨c0, c1, c2, c3⟩ := HBX.out w1 hb1; have h55 := HQ2.out w1)
      | (go_at_call 130; refine h55.mono ?_; rintro e w2 ⟨X, rfl, hb2, _⟩; have hb3 := hb1.trans (hb2.mono hb1.size)))
     go_ret
     exact ⟨rfl, HBW.out.trans (hb3.mono HBW.out.size)⟩
   · rw [if_neg (fun h => k4 h.1)]
     have n4 : (k == 4) = false := beq_eq_false_iff_ne.2 k4
     have hkl6 : k = 6 → ks.length = it.length := fun e => by
      rcases hw with ⟨e2, _⟩ | ⟨e2, _⟩ | ⟨e2, _⟩ | ⟨e2, _⟩ | ⟨_, _, e2⟩
      all_goals omega
     have HL6 := Lib.hid hkl6
     obtain ⟨R, hR⟩ : ∃ R, fndL (decide (k = 6)) it ks [] = R := ⟨_, rfl⟩
     rw [hR]
     have HR := Lib.hid hR
     clear hw hkl6 hR k4
     go_enter Tryz.func149, Tryz.ntmps149
     go_wp2_with (first
      | (go_at_call 199; refine hs.mono ?_; rintro e w1 ⟨rfl, hb1⟩; clear c0 c1 c2 c3; obtain ⟨c0, c1, c2, c3⟩ := HBX.out w1 hb1))
     go_loopw [5] (fun iv wr => ∃ j : Nat, iv = .int .i64 j ∧ j ≤ it.length ∧ fndL (decide (k = 6)) (it.drop j) (ks.drop j) (ks.take j).reverse = R ∧ Below W.heap.size W wr) (fun iv _ => it.length - (RowKit.intOf iv).toNat)
     case atStart => exact ⟨0, rfl, Nat.zero_le _, by rw [List.drop_zero, List.drop_zero]; exact HR.out, hb1⟩
     case round =>
      obtain ⟨j, rfl, hj, hm, hB⟩ := hrel
      clear c0 c1 c2 c3
      obtain ⟨c0, c1, c2, c3⟩ := HBX.out wr hB
      by_cases hjn : (j : Int) < (it.length : Int)
      · obtain ⟨y, hy⟩ : ∃ y, it[j]? = some y := ⟨_, List.getElem?_eq_getElem (by omega)⟩
        obtain ⟨_, a, rfl, hjc⟩ := HI.out j y hy
        obtain ⟨Y, hY⟩ : ∃ Y : ByteArray, (⟨y.str.toArray⟩ : ByteArray) = Y := ⟨_, rfl⟩
        have HJC : Hid (∀ V, Below W.heap.size W V → V.cell? (a.add (j * 4)) = some (.int .i64 y.kind) ∧ V.cell? ⟨(a.add (j * 4)).block, (a.add (j * 4)).off + 1, none⟩ = some (.string Y) ∧ V.cell? ⟨(a.add (j * 4)).block, (a.add (j * 4)).off + 2, none⟩ = some (.slice (fp j) y.keys.length (fc j)) ∧ V.cell? ⟨(a.add (j * 4)).block, (a.add (j * 4)).off + 3, none⟩ = some (.slice (gp j) y.items.length (gc j))) := Lib.hid fun V hV => by
         have h := hjc.below (HB.out V hV)
         have h1 := h.c1
         rw [hY] at h1
         exact ⟨h.c0, h1, h.c2, h.c3⟩
        have hcall := fun W3 hb3 => HIH.out j y hy (HWT.out j y hy) W3 hb3
        unfold jval at hcall
        simp only [hY] at hcall
        have hfl := fnd_le y
        obtain ⟨F, hF⟩ : ∃ F, y.fnd = F := ⟨_, rfl⟩
        simp only [hF] at hcall hfl
        rw [drop_cons hy, fndL, hF] at hm
        have HCL := Lib.hid hcall
        clear hjc hcall hF hY
        by_cases k6 : k = 6
        · have k66 : (k == 6) = true := by rw [k6]; rfl
          have hkl := HL6.out k6
          obtain ⟨u, hu⟩ : ∃ u, ks[j]? = some u := ⟨_, List.getElem?_eq_getElem (by omega)⟩
          have hjk : (j : Int) < (ks.length : Int) := by omega
          obtain ⟨b, rfl, hkc, _⟩ := (HK.out.below (HB.out _ hB)) j u hu
          have hul := HKW.out u (List.mem_of_getElem? hu)
          obtain ⟨U, hU⟩ : ∃ U : ByteArray, (⟨u.toArray⟩ : ByteArray) = U := ⟨_, rfl⟩
          have hUl : U.data.toList = u := by rw [← hU]
          have hUs : U.size ≤ 16777216 := by rw [← hU, arr_size]; omega
          rw [hU] at hkc
          have h55 := rquote_err U wr hUs
          rw [hUl] at h55
          rw [drop_cons hu, List.headD_cons, List.tail_cons, decide_eq_true k6] at hm
          simp only [true_and] at hm
          have HU := Lib.hid hu
          have HUL := Lib.hid (And.intro hU hUl)
          have HK6 := Lib.hid (decide_eq_true k6)
          have HKL := Lib.hid hkl
          clear hu hU hUl hUs hul k6 hkl
          cases hv : validD u with
          | false =>
           rw [hv, if_pos rfl] at hm
           subst hm
           rw [hv] at h55
           simp only [Bool.false_eq_true, if_false] at h55
           clear hv HR
           go_wp2_with (first | (go_at_call 130; refine h55.mono ?_; rintro e w2 ⟨X, rfl, hb2, _⟩; have hB2 := hB.trans (hb2.mono hB.size)))
           go_ret
           exact ⟨rfl, HBW.out.trans (hB2.mono HBW.out.size)⟩
          | true =>
           rw [hv, if_neg (by simp)] at hm
           rw [hv] at h55
           simp only [if_true] at h55
           have HM := Lib.hid hm
           clear hv hm
           go_wp2_with (first | (go_at_call 130; refine h55.mono ?_; rintro e w2 ⟨X, rfl, hb2, _⟩; have hB2 := hB.trans (hb2.mono hB.size)))
           go_loopw [8] (fun mv wx => ∃ m : Nat, mv = .int .i64 m ∧ m ≤ j ∧ (∀ i, i < m → ks[i]? ≠ some u) ∧ Below W.heap.size W wx) (fun mv _ => j - (RowKit.intOf mv).toNat)
           case atStart => exact ⟨0, rfl, Nat.zero_le _, fun i hi => by omega, hB2⟩
           case round =>
            obtain ⟨m, rfl, hm, hne, hB3⟩ := hrel
            clear c0 c1 c2 c3
            obtain ⟨c0, c1, c2, c3⟩ := HBX.out wr hB3
            by_cases hmj : (m : Int) < (j : Int)
            · obtain ⟨v, hv⟩ : ∃ v, ks[m]? = some v := ⟨_, List.getElem?_eq_getElem (by omega)⟩
              have hmk : (m : Int) < (ks.length : Int) := by omega
              obtain ⟨b2, e2, hvc, _⟩ := (HK.out.below (HB.out _ hB3)) m v hv
              obtain ⟨b3, e3, huc, _⟩ := (HK.out.below (HB.out _ hB3)) j u HU.out
              cases e2
              cases e3
              obtain ⟨Vs, hVs⟩ : ∃ U : ByteArray, (⟨v.toArray⟩ : ByteArray) = U := ⟨_, rfl⟩
              rw [hVs] at hvc
              rw [HUL.out.1] at huc
              have hvu := str_eq_iff hVs HUL.out.1
              have hBq := fun n => below_draws hB3 n
              have HNE := Lib.hid hne
              by_cases hq : v = u
              · obtain rfl := hvu.1 hq
                obtain ⟨t1, t2⟩ := str_same Vs
                have hR13 : R = 13 := by
                 rw [← HM.out, if_pos ?_]
                 rw [List.mem_reverse, ← hq]
                 exact List.mem_of_getElem? (i := m) (by rw [List.getElem?_take_of_lt (by omega)]; exact hv)
                subst hR13
                clear hv hVs hvu hq hne HM HR
                go_wp2_with fail
                go_quiet (fail)
                go_wp2_with fail
                go_ret
                exact ⟨rfl, HBW.out.trans ((hBq _).mono HBW.out.size)⟩
              · obtain ⟨t1, t2, t3⟩ := str_ne (fun e => hq (hvu.2 e))
                have HVN : Hid (ks[m]? ≠ some u) := Lib.hid (by rw [hv]; exact fun e => hq (Option.some.inj e))
                clear hv hVs hvu hq hne
                go_wp2_with fail
                go_quiet (fail)
                go_wp2_with fail
                go_roundw
                case rel => exact ⟨m + 1, by go_num, by omega, fun i hi => by
                 by_cases e : i = m
                 · subst e; exact HVN.out
                 · exact HNE.out i (by omega), hBq _⟩
                case measure => simp [RowKit.intOf]; omega
            · have hmm : m = j := by omega
              subst hmm
              have hnot : ¬ u ∈ (ks.take m).reverse := fun hmem => by
               rw [List.mem_reverse] at hmem
               obtain ⟨i, hi⟩ := List.getElem?_of_mem hmem
               have hil2 : i < m := by
                have := (List.getElem?_eq_some_iff.1 hi).1
                rw [List.length_take] at this
                omega
               rw [List.getElem?_take_of_lt hil2] at hi
               exact hne i hil2 hi
              have hm2 := HM.out
              rw [if_neg hnot] at hm2
              have hmt : (ks.take (m + 1)).reverse = u :: (ks.take m).reverse := by
               rw [List.take_add_one, HU.out]
               simp
              obtain ⟨g0, g1, g2, g3⟩ := HJC.out wr hB3
              have hcall := HCL.out wr (HB.out _ hB3)
              have HMT := Lib.hid hmt
              clear hnot hne HM hmt
              by_cases e0 : F = 0
              · rw [if_pos e0] at hm2
                subst e0
                simp only [Int.natCast_zero] at hcall
                have HM2 := Lib.hid hm2
                clear hm2
                go_wp2_with (first | (go_at_call 149; refine hcall.mono ?_; rintro e w4 ⟨rfl, hb4⟩))
                go_roundw
                case rel => exact ⟨m + 1, by go_num, by omega, by rw [HMT.out, HK6.out]; exact HM2.out, hB3.trans (hb4.mono hB3.size)⟩
                case measure => simp [RowKit.intOf]; omega
              · rw [if_neg e0] at hm2
                subst hm2
                have n1 : ((F : Int) != 0) = true := by simp; omega
                have n2 : ((F : Int) == 0) = false := beq_eq_false_iff_ne.2 (by omega)
                clear e0 HR
                go_wp2_with (first | (go_at_call 149; refine hcall.mono ?_; rintro e w4 ⟨rfl, hb4⟩))
                go_ret
                exact ⟨rfl, HBW.out.trans ((hB3.trans (hb4.mono hB3.size)).mono HBW.out.size)⟩
        · have k66 : (k == 6) = false := beq_eq_false_iff_ne.2 k6
          rw [decide_eq_false k6] at hm
          simp only [Bool.false_eq_true, false_and, if_false] at hm
          have HK6 := Lib.hid (decide_eq_false k6)
          obtain ⟨g0, g1, g2, g3⟩ := HJC.out wr hB
          have hcall := HCL.out wr (HB.out _ hB)
          clear k6
          by_cases e0 : F = 0
          · rw [if_pos e0] at hm
            subst e0
            simp only [Int.natCast_zero] at hcall
            have HM2 := Lib.hid hm
            clear hm
            go_wp2_with (first | (go_at_call 149; refine hcall.mono ?_; rintro e w4 ⟨rfl, hb4⟩))
            go_roundw
            case rel => exact ⟨j + 1, by go_num, by omega, by rw [HK6.out]; have := HM2.out; rw [fndL_false] at this ⊢; exact this, hB.trans (hb4.mono hB.size)⟩
            case measure => simp [RowKit.intOf]; omega
          · rw [if_neg e0] at hm
            subst hm
            have n1 : ((F : Int) != 0) = true := by simp; omega
            have n2 : ((F : Int) == 0) = false := beq_eq_false_iff_ne.2 (by omega)
            clear e0 HR
            go_wp2_with (first | (go_at_call 149; refine hcall.mono ?_; rintro e w4 ⟨rfl, hb4⟩))
            go_ret
            exact ⟨rfl, HBW.out.trans ((hB.trans (hb4.mono hB.size)).mono HBW.out.size)⟩
      · have hj2 : j = it.length := by omega
        subst hj2
        rw [List.drop_length, fndL] at hm
        subst hm
        clear HR
        go_wp2_with fail
        go_ret
        exact ⟨rfl, HBW.out.trans (hB.mono HBW.out.size)⟩
set_option maxRecDepth 100000 in
set_option maxHeartbeats 1000000 in
theorem rcheck_any {w : World} {x : JV} {kp ip : Option Addr} {kc ic : Nat} (h : KI w x kp kc ip ic) (hwt : x.wt ≤ 1000000) : ∀ w', Below w.heap.size w w' → Calls Tryz.prog 91 #[jval x kp kc ip ic] w' fun e w'' => e = .returned (.int .i64 (x.chk : Nat)) ∧ Below w'.heap.size w' w'' := by
 intro w' hb
 obtain ⟨S, hS⟩ : ∃ S : ByteArray, (⟨x.str.toArray⟩ : ByteArray) = S := ⟨_, rfl⟩
 obtain ⟨W, hW⟩ : ∃ W, w'.alloc (.cells #[.int .i64 x.kind, .string S, .slice kp x.keys.length kc, .slice ip x.items.length ic] 25) = W := ⟨_, rfl⟩
 have bW := alloc_b hW
 have HBX := Lib.hid (box_of hW)
 obtain ⟨c0, c1, c2, c3⟩ := HBX.out W (Below.refl _ _)
 have hB : ∀ W', Below W.heap.size W W' → Below w.heap.size w W' := fun W' hb' => hb.trans ((bW.trans (hb'.mono bW.size)).mono hb.size)
 have hd := rdepth_any h hwt W (hB W (Below.refl _ _))
 have hf := fun V (hV : Below W.heap.size W V) => rfound_any h hwt V (hB V hV)
 unfold jval at hd hf ⊢
 simp only [hS] at hd hf ⊢
 obtain ⟨D, hD⟩ : ∃ D, x.dep = D := ⟨_, rfl⟩
 obtain ⟨F, hF⟩ : ∃ F, x.fnd = F := ⟨_, rfl⟩
 have hchk : x.chk = if 64 < D then 3 else F := by unfold JV.chk; rw [hD, hF]
 rw [hchk]
 simp only [hD] at hd
 simp only [hF] at hf
 have HF := Lib.hid hf
 have HBW := Lib.hid bW
 clear h hwt hb hS bW hB hf hD hF hchk
 by_cases h64 : 64 < D
 · rw [if_pos h64]
   have g1 : (64 : Int) < (D : Int) := by omega
   go_enter Tryz.func91, Tryz.ntmps91
   go_wp2_with (first | (go_at_call 148; refine hd.mono ?_; rintro e w1 ⟨rfl, hb1⟩))
   go_ret
   exact ⟨rfl, Below.on HBW.out hb1⟩
 · rw [if_neg h64]
   have g1 : ¬ (64 : Int) < (D : Int) := by omega
   go_enter Tryz.func91, Tryz.ntmps91
   go_wp2_with (first
    | (go_at_call 148; refine hd.mono ?_; rintro e w1 ⟨rfl, hb1⟩; clear c0 c1 c2 c3; obtain ⟨c0, c1, c2, c3⟩ := HBX.out w1 hb1; have h36 := HF.out w1 hb1)
    | (go_at_call 149; refine h36.mono ?_; rintro e w2 ⟨rfl, hb2⟩))
   go_ret
   exact ⟨rfl, Below.on HBW.out (Below.on hb1 hb2)⟩
end Go.Proofs.Jt
