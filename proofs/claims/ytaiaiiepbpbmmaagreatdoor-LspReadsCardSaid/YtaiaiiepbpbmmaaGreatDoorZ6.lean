/- The reference's Field. Printed by gen_z6.py. -/
import Derived.Test.YtaiaiiepbpbmmaaGreatDoorVF2
namespace Go.Proofs.Jt
open Go.RowKit Go.Maps Go.Lib Go.Proofs.Utf Go.Proofs

/-- what the reference's Field leaves (R: how its value lies) -/
def RLG (R : JV → Option Addr → Nat → Option Addr → Nat → Prop) (w : World) (o : Option JV) (e : Ending) (w' : World) : Prop := ∃ kp kc ip ic, e = .returned (.tuple #[jval (o.getD (jn 0)) kp kc ip ic, .bool o.isSome]) ∧ R (o.getD (jn 0)) kp kc ip ic ∧ (o.getD (jn 0)).str.length ≤ maxLen ∧ Below w.heap.size w w'
theorem RLG.none {R : JV → Option Addr → Nat → Option Addr → Nat → Prop} (hR : R (jn 0) .none 0 .none 0) {w w' : World} (hb : Below w.heap.size w w') : RLG R w none (.returned (.tuple #[.agg #[.int .i64 0, .string ⟨#[]⟩, .slice .none 0 0, .slice .none 0 0], .bool false])) w' :=
 ⟨.none, 0, .none, 0, rfl, hR, Nat.zero_le _, hb⟩
theorem RLG.some {R : JV → Option Addr → Nat → Option Addr → Nat → Prop} {w w' : World} {y : JV} {Y : ByteArray} {kp ip : Option Addr} {kc ic : Nat} (hY : (⟨y.str.toArray⟩ : ByteArray) = Y) (hyl : y.str.length ≤ maxLen) (hk : R y kp kc ip ic) (hb : Below w.heap.size w w') :
 RLG R w (some y) (.returned (.tuple #[.agg #[.int .i64 y.kind, .string Y, .slice kp y.keys.length kc, .slice ip y.items.length ic], .bool true])) w' := ⟨kp, kc, ip, ic, by rw [← hY]; rfl, hk, hyl, hb⟩
set_option maxRecDepth 100000 in
set_option maxHeartbeats 4000000 in
theorem rfield_gen {w : World} {x : JV} {kp ip : Option Addr} {kc ic : Nat} (R : JV → Option Addr → Nat → Option Addr → Nat → Prop) (hR : R (jn 0) none 0 none 0) (fp : Nat → Option Addr) (fc : Nat → Nat) (gp : Nat → Option Addr) (gc : Nat → Nat)
 (hk : StrsP w kp x.keys) (hz : x.items.length ≤ maxLen ∧ x.keys.length ≤ maxLen ∧ ∀ s ∈ x.keys, s.length ≤ maxLen) (hi : ∀ (i : Nat) (y : JV), x.items[i]? = some y → y.str.length ≤ maxLen ∧ ∃ a, ip = some a ∧ JC w (a.add (i * 4)) y (fp i) (fc i) (gp i) (gc i))
 (hh : ∀ (i : Nat) (y : JV), x.items[i]? = some y → R y (fp i) (fc i) (gp i) (gc i)) (K : ByteArray) : ∀ w', Below w.heap.size w w' → Calls Tryz.prog 28 #[jval x kp kc ip ic, .string K] w' (RLG R w' (fieldV x K.data.toList)) := by
 intro w' hb
 cases x with
 | mk k s ks it =>
 simp only [keys_mk, items_mk] at *
 obtain ⟨S, hS⟩ : ∃ S : ByteArray, (⟨s.toArray⟩ : ByteArray) = S := ⟨_, rfl⟩
 obtain ⟨W1, hW1⟩ : ∃ W, w'.alloc (.cells #[.int .i64 k, .string S, .slice kp ks.length kc, .slice ip it.length ic] 25) = W := ⟨_, rfl⟩
 obtain ⟨W, hW⟩ : ∃ W, W1.alloc (.cells #[.int .i64 0, .string ⟨#[]⟩, .slice none 0 0, .slice none 0 0] 25) = W := ⟨_, rfl⟩
 have bW1 : Below w'.heap.size w' W1 := by rw [← hW1]; exact (Below.refl _ _).alloc (Nat.le_refl _) _
 have bW2 : Below W1.heap.size W1 W := by rw [← hW]; exact (Below.refl _ _).alloc (Nat.le_refl _) _
 have bW : Below w'.heap.size w' W := bW1.trans (bW2.mono bW1.size)
 have hz1 : W1.heap.size = w'.heap.size + 1 := by rw [← hW1]; simp
 have hbx0 := box_at (x := .mk k s ks it) hS hW1
 simp only [kind_mk, keys_mk, items_mk] at hbx0
 have hbx : ∀ V, Below W.heap.size W V → _ := fun V hV => hbx0 V (bW2.trans (hV.mono bW2.size))
 have hjz : JBox W (w'.heap.size + 1) := by rw [← hW, ← hz1]; exact JBox.alloc _ _ _ _ _
 have hzz : it.length ≤ maxLen ∧ ks.length ≤ maxLen := ⟨hz.1, hz.2.1⟩
 unfold maxLen at hzz
 obtain ⟨hil, hkl⟩ := hzz
 have hfv : fieldV (.mk k s ks it) K.data.toList = if k = 6 ∧ K.data.toList ∈ ks then it[ks.idxOf K.data.toList]? else none := rfl
 have HB : Hid (∀ W', Below W.heap.size W W' → Below w.heap.size w W') := Lib.hid fun W' hb' => hb.trans ((bW.trans (hb'.mono bW.size)).mono hb.size)
 have HBX : Hid (∀ V, Below W.heap.size W V → _) := Lib.hid hbx
 have HBW := Lib.hid bW
 have HI := Lib.hid hi
 have HH := Lib.hid hh
 have HK := Lib.hid hk
 have HJZ := Lib.hid hjz
 subst hW1
 obtain ⟨c0, c1, c2, c3⟩ := hbx W (Below.refl _ _)
 unfold jval
 simp only [kind_mk, str_mk, keys_mk, items_mk]
 rw [hS, hfv]
 clear hi hh hk hz hbx hbx0 bW1 bW2 bW hb hz1 hjz hS hfv
 obtain ⟨o, ho⟩ : ∃ o, (if k = 6 ∧ K.data.toList ∈ ks then it[ks.idxOf K.data.toList]? else none) = o := ⟨_, rfl⟩
 rw [ho]
 have HO := Lib.hid ho
 clear ho
 go_enter Tryz.func28, Tryz.ntmps28
 go_wp2_with fail
 go_loopw [6] (fun iv wr => ∃ j : Nat, iv = .int .i64 j ∧ j ≤ ks.length ∧ K.data.toList ∉ ks.take j ∧ Below W.heap.size W wr) (fun iv _ => ks.length - (RowKit.intOf iv).toNat)
 case atStart => exact ⟨0, rfl, Nat.zero_le _, by simp, Below.refl _ _⟩
 case round =>
  obtain ⟨j, rfl, hj, hnot, hB⟩ := hrel
  clear c0 c1 c2 c3
  obtain ⟨c0, c1, c2, c3⟩ := HBX.out wr hB
  have hbz : JBox wr (w'.heap.size + 1) := HJZ.out.same (hB.block _ HJZ.out.lt)
  have HJB := Lib.hid hbz
  have HNOT := Lib.hid hnot
  clear hbz hnot
  by_cases hjn : (j : Int) < (ks.length : Int)
  · obtain ⟨u, hu⟩ : ∃ u, ks[j]? = some u := ⟨_, List.getElem?_eq_getElem (by omega)⟩
    obtain ⟨a, rfl, ha, _⟩ := (HK.out.below (HB.out _ hB)) j u hu
    obtain ⟨U, hU⟩ : ∃ S : ByteArray, (⟨u.toArray⟩ : ByteArray) = S := ⟨_, rfl⟩
    have hUl : U.data.toList = u := by rw [← hU]
    rw [hU] at ha
    have HU := Lib.hid hu
    have HUL := Lib.hid hUl
    clear hU hUl hu
    by_cases hUK : U = K
    · subst hUK
      obtain ⟨t1, t2⟩ := str_same U
      have HIX : Hid (ks.idxOf U.data.toList = j) := Lib.hid (by rw [HUL.out, take_idx HU.out (by have := HNOT.out; rwa [HUL.out] at this)])
      by_cases k6 : k = 6
      · have k66 : (k == 6) = true := by rw [k6]; rfl
        have HK6 := Lib.hid k6
        by_cases hjt : (j : Int) < (it.length : Int)
        · obtain ⟨y, hy⟩ : ∃ y, it[j]? = some y := ⟨_, List.getElem?_eq_getElem (by omega)⟩
          obtain ⟨hyl, b, rfl, hjc⟩ := HI.out j y hy
          obtain ⟨g0, g1, g2, g3, _⟩ := hjc.below (HB.out _ hB)
          obtain ⟨Y, hY⟩ : ∃ Y : ByteArray, (⟨y.str.toArray⟩ : ByteArray) = Y := ⟨_, rfl⟩
          rw [hY] at g1
          have ho : o = some y := by
           rw [← HO.out, if_pos ⟨HK6.out, by rw [HUL.out]; exact List.mem_of_getElem? HU.out⟩, HIX.out]
           exact hy
          have HY := Lib.hid (And.intro hY hyl)
          have HKY := Lib.hid (HH.out j y hy)
          subst ho
          clear HO HNOT hY hyl hy hjc k6
          go_wp2_with (first
           | (refine store_val rfl (.tmp 4) (.tmp 35) rfl (w'.heap.size + 1) rfl (.int .i64 y.kind) (.string Y) (.slice (fp j) y.keys.length (fc j)) (.slice (gp j) y.items.length (gc j)) rfl rfl HJB.out (fun V hV hgV _ => ?_)))
          refine bodyPost_ret (ret_val2 Tryz.results28 rfl rfl hV) rfl ?_
          have hbV := below_fr (HBW.out.trans (hB.mono HBW.out.size)) (Nat.le_refl _) (FrP.of (P := fun b => b = w'.heap.size + 1) hgV rfl) (fun b hb => by omega)
          exact RLG.some HY.out.1 HY.out.2 HKY.out hbV
        · have hge : ¬ (j : Int) < (it.length : Int) := hjt
          have ho : o = none := by
           rw [← HO.out, if_pos ⟨HK6.out, by rw [HUL.out]; exact List.mem_of_getElem? HU.out⟩, HIX.out]
           exact List.getElem?_eq_none (by omega)
          subst ho
          clear HO HNOT k6
          go_wp2_with (first | (refine store_val rfl (.tmp 4) (.tmp 36) rfl (w'.heap.size + 1) rfl (.int .i64 0) (.string ⟨#[]⟩) (.slice none 0 0) (.slice none 0 0) rfl rfl HJB.out (fun V hV hgV _ => ?_)))
          refine bodyPost_ret (ret_val2 Tryz.results28 rfl rfl hV) rfl ?_
          exact RLG.none hR (below_fr (HBW.out.trans (hB.mono HBW.out.size)) (Nat.le_refl _) (FrP.of (P := fun b => b = w'.heap.size + 1) hgV rfl) (fun b hb => by omega))
      · have k66 : (k == 6) = false := beq_eq_false_iff_ne.2 k6
        have ho : o = none := by rw [← HO.out]; exact if_neg (fun h => k6 h.1)
        subst ho
        clear HO HNOT k6
        go_wp2_with (first | (refine store_val rfl (.tmp 4) (.tmp 36) rfl (w'.heap.size + 1) rfl (.int .i64 0) (.string ⟨#[]⟩) (.slice none 0 0) (.slice none 0 0) rfl rfl HJB.out (fun V hV hgV _ => ?_)))
        refine bodyPost_ret (ret_val2 Tryz.results28 rfl rfl hV) rfl ?_
        exact RLG.none hR (below_fr (HBW.out.trans (hB.mono HBW.out.size)) (Nat.le_refl _) (FrP.of (P := fun b => b = w'.heap.size + 1) hgV rfl) (fun b hb => by omega))
    · obtain ⟨t1, t2, t3⟩ := str_ne hUK
      have hnext : Hid (K.data.toList ∉ ks.take (j + 1)) := Lib.hid (take_not HU.out HNOT.out (by rw [← HUL.out]; intro e; exact hUK (ByteArray.ext (Array.toList_inj.1 e))))
      clear HNOT hUK
      go_wp2_with fail
      go_roundw
      case rel => exact ⟨j + 1, by go_num, by omega, hnext.out, hB⟩
      case measure => simp [RowKit.intOf]; omega
  · have hj2 : j = ks.length := by omega
    have ho : o = none := by
     rw [← HO.out]
     refine if_neg fun h => ?_
     have := HNOT.out
     rw [hj2, List.take_length] at this
     exact this h.2
    subst ho
    clear HO HNOT hj2
    go_wp2_with (first | (refine store_val rfl (.tmp 4) (.tmp 37) rfl (w'.heap.size + 1) rfl (.int .i64 0) (.string ⟨#[]⟩) (.slice none 0 0) (.slice none 0 0) rfl rfl HJB.out (fun V hV hgV _ => ?_)))
    refine bodyPost_ret (ret_val2 Tryz.results28 rfl rfl hV) rfl ?_
    exact RLG.none hR (below_fr (HBW.out.trans (hB.mono HBW.out.size)) (Nat.le_refl _) (FrP.of (P := fun b => b = w'.heap.size + 1) hgV rfl) (fun b hb => by omega))
end Go.Proofs.Jt
