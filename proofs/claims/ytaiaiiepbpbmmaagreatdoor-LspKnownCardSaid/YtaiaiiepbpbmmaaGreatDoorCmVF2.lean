/- Merged texts: V29, VF, ZE. -/
import Derived.Test.YtaiaiiepbpbmmaaGreatDoorCmVY
import Derived.Maps.OwnSet
import Derived.Test.YtaiaiiepbpbmmaaGreatDoorCmV30
/- V29: Values of JSON in memory: same; Same. -/
namespace Go.Proofs.Jt
open Go.RowKit Go.Maps Go.Lib Go.Proofs.Utf Go.Proofs

/-- the place of each key -/
def MetI (w : World) (M : Nat) (l : List (List UInt8)) : Prop := ∃ D, w.ownsMap Tryz.prog 9 intEl M (Maps.size D) D ∧ Maps.size D ≤ l.length ∧ (∀ u, Maps.has D (.string u) = decide (u ∈ l)) ∧ ∀ u, u ∈ l → ∀ z, D.atKey (.string u) z = .lit (.int .i64 (l.idxOf u : Nat))
theorem MetI.below {w w' : World} {M : Nat} {l : List (List UInt8)} (h : MetI w M l) (hb : Below w.heap.size w w') : MetI w' M l := by
 obtain ⟨D, h1, h2⟩ := h
 exact ⟨D, h1.kept (gb_below' hb) (by simp), h2⟩
theorem MetI.lt {w : World} {M : Nat} {l : List (List UInt8)} (h : MetI w M l) : M < w.heap.size := by
 obtain ⟨D, h1, _⟩ := h
 exact h1.lt
theorem MetI.made (w : World) : MetI (w.alloc (.map #[] 0)) w.heap.size [] := ⟨.map [], World.ownsMap_made w Tryz.prog 9 intEl, Nat.le_refl _, fun _ => rfl, fun u hu => by cases hu⟩
theorem MetI.look {w : World} {M : Nat} {l : List (List UInt8)} (h : MetI w M l) (u : ByteArray) (hu : u.size ≤ maxLen) :
 (u.data.toList ∈ l → (Instr.lookup 211 (.map (some M)) (.string u) true).run Tryz.prog w = .ok (.tuple #[.int .i64 (l.idxOf u.data.toList : Nat), .bool true]) w) ∧
 (u.data.toList ∉ l → (Instr.lookup 211 (.map (some M)) (.string u) true).run Tryz.prog w = .ok (.tuple #[.int .i64 0, .bool false]) w) := by
 obtain ⟨D, h1, h2, h3, h4⟩ := h
 obtain ⟨v, ps, hrun, hv⟩ := h1.look_ok lawS Tryz.underlying211 (z := .int .i64 0) (by kernel_rfl) (zd := .lit (.int .i64 0)) (zp := []) rfl (Go.WideMaps.keyOf_string_mk Tryz.underlying9 hu)
 rw [hrun]
 refine ⟨fun hm => ?_, fun hm => ?_⟩
 · rw [h4 _ hm] at hv
   rw [intEl_int hv, h3, decide_eq_true hm]
 · rw [atKey_of_not_has (by rw [h3]; exact decide_eq_false hm)] at hv
   rw [intEl_int hv, h3, decide_eq_false hm]
theorem MetI.put {w : World} {M n : Nat} {l : List (List UInt8)} (h : MetI w M l) (u : ByteArray) (hu : u.size ≤ maxLen) (hl : l.length = n) (hn : n < 1000000000) (hm : u.data.toList ∉ l) :
 ∃ w', (Instr.mapUpdate 211 (.map (some M)) (.string u) (.int .i64 n)).run Tryz.prog w = .ok () w' ∧ w.grownBy w' (some M) ∧ MetI w' M (l ++ [u.data.toList]) := by
 obtain ⟨D, h1, h2, h3, h4⟩ := h
 obtain ⟨w', k1, k2, ht⟩ := h1.store lawS Tryz.underlying211 (by unfold maxLen; omega) (Go.WideMaps.keyOf_string_mk Tryz.underlying9 hu) (show intEl (.int .i64 n) = some (.lit (.int .i64 n), []) from rfl)
 have hsz := size_put (D := D) (k := .string u.data.toList) (h1.tidy lawS) (.lit (.int .i64 n))
 refine ⟨w', k1, World.mapTurned.grown ht, D.put (.string u.data.toList) (.lit (.int .i64 n)), ownM_tight k2, ?_, fun x => ?_, fun x hx z => ?_⟩
 · rw [hsz, List.length_append, List.length_singleton]
   split <;> omega
 · by_cases e : x = u.data.toList
   · subst e
     rw [has_put_same (h1.tidy lawS).isMap (by exact trivial)]
     simp
   · rw [has_put_other (by intro e2; exact e (by cases e2; rfl)), h3]
     simp [e]
 · by_cases e : u.data.toList = x
   · subst e
     rw [atKey_put_same (h1.tidy lawS).isMap (by exact trivial), List.idxOf_append, if_neg hm, List.idxOf_cons_self, hl, Nat.zero_add]
   · have hx2 : x ∈ l := by
      rcases List.mem_append.1 hx with h | h
      · exact h
      · exact absurd (List.mem_singleton.1 h).symm e
     rw [atKey_put_other (by intro e2; exact e (by cases e2; rfl)), List.idxOf_append, if_pos hx2]
     exact h4 x hx2 z
end Go.Proofs.Jt
/- VF: Merged texts: V31, V32. -/
/- V31: Values of JSON in memory: Field. -/
namespace Go.Proofs.Jt
open Go.RowKit Go.Maps Go.Lib Go.Proofs.Utf Go.Proofs

/-- what Field leaves -/
def FL (w : World) (o : Option JV) (e : Ending) (w' : World) : Prop := ∃ kp kc ip ic, e = .returned (.tuple #[jval (o.getD (jn 0)) kp kc ip ic, .bool o.isSome]) ∧ KP w' (w.heap.size ≤ ·) (o.getD (jn 0)) kp kc ip ic ∧ (o.getD (jn 0)).str.length ≤ maxLen ∧ Below w.heap.size w w'
theorem FL.none {w w' : World} (hb : Below w.heap.size w w') : FL w none (.returned (.tuple #[.agg #[.int .i64 0, .string ⟨#[]⟩, .slice .none 0 0, .slice .none 0 0], .bool false])) w' :=
 ⟨.none, 0, .none, 0, rfl, KP.leaf _ _ _ _, Nat.zero_le _, hb⟩
theorem FL.some {w wr w3 V W : World} {y : JV} {Y : ByteArray} {kp ip : Option Addr} {kc ic z : Nat} (hY : (⟨y.str.toArray⟩ : ByteArray) = Y) (hyl : y.str.length ≤ maxLen) (hk : KP w3 (wr.heap.size ≤ ·) y kp kc ip ic) (bW : Below w.heap.size w W) (hB : Below W.heap.size W wr) (hb : Below wr.heap.size wr w3) (hz : w.heap.size ≤ z) (hzl : z < W.heap.size) (hg : w3.grownBy V (some z)) :
 FL w (some y) (.returned (.tuple #[.agg #[.int .i64 y.kind, .string Y, .slice kp y.keys.length kc, .slice ip y.items.length ic], .bool true])) V := by
 have F : FrP (fun b => b = z) w3 V := FrP.of hg rfl
 have h1 := hB.size
 have h2 := bW.size
 refine ⟨kp, kc, ip, ic, by rw [← hY]; rfl, ?_, hyl, below_fr (bW.trans ((hB.trans (hb.mono hB.size)).mono bW.size)) (Nat.le_refl _) F (fun b hb => by omega)⟩
 exact (hk.fr F fun b hb e => by omega).keep (Nat.le_refl _) (fun _ _ _ => rfl) fun b hb _ => by omega
theorem take_not {ks : List (List UInt8)} {j : Nat} {u key : List UInt8} (hu : ks[j]? = some u) (h : key ∉ ks.take j) (hne : u ≠ key) : key ∉ ks.take (j + 1) := by
 rw [List.take_add_one, hu]
 intro hm
 rcases List.mem_append.1 hm with hm | hm
 · exact h hm
 · exact hne (List.mem_singleton.1 hm).symm
theorem take_idx {ks : List (List UInt8)} {j : Nat} {key : List UInt8} (hu : ks[j]? = some key) (h : key ∉ ks.take j) : ks.idxOf key = j := by
 have hj := (List.getElem?_eq_some_iff.1 hu).1
 have e : ks = ks.take j ++ key :: ks.drop (j + 1) := by
  rw [← drop_cons hu, List.take_append_drop]
 conv => lhs; rw [e]
 rw [List.idxOf_append, if_neg h, List.idxOf_cons_self, List.length_take]
 omega
set_option maxRecDepth 100000 in
set_option maxHeartbeats 4000000 in
theorem field_any {w : World} {x : JV} {kp ip : Option Addr} {kc ic : Nat} (h : KI w x kp kc ip ic) (hwt : x.wt ≤ 1000000) (K : ByteArray) : ∀ w', Below w.heap.size w w' → Calls Tryz.prog 27 #[jval x kp kc ip ic, .string K] w' (FL w' (fieldV x K.data.toList)) := by
 intro w' hb
 cases h with
 | mk _ _ _ _ _ fp fc gp gc hk hz hi hh =>
 cases x with
 | mk k s ks it =>
 simp only [keys_mk, items_mk] at *
 obtain ⟨S, hS⟩ : ∃ S : ByteArray, (⟨s.toArray⟩ : ByteArray) = S := ⟨_, rfl⟩
 obtain ⟨W1, hW1⟩ : ∃ W, w'.alloc (.cells #[.int .i64 k, .string S, .slice kp ks.length kc, .slice ip it.length ic] 25) = W := ⟨_, rfl⟩
 obtain ⟨W, hW⟩ : ∃ W, W1.alloc (.cells #[.int .i64 0, .string ⟨#[]⟩, .slice none 0 0, .slice none 0 0] 25) = W := ⟨_, rfl⟩
 have bW1 : Below w'.heap.size w' W1 := by rw [← hW1]; exact (Below.refl _ _).alloc (Nat.le_refl _) _
 have bW2 : Below W1.heap.size W1 W := by rw [← hW]; exact (Below.refl _ _).alloc (Nat.le_refl _) _
 have bW : Below w'.heap.size w' W := bW1.trans (bW2.mono bW1.size)
 have hz1 : W1.heap.size = w'.heap.size + 1 := by rw [← hW1]; simp
 have hz2 : W.heap.size = w'.heap.size + 2 := by rw [← hW]; simp; omega
 have hbx0 := box_at (x := .mk k s ks it) hS hW1
 simp only [kind_mk, keys_mk, items_mk] at hbx0
 have hbx : ∀ V, Below W.heap.size W V → _ := fun V hV => hbx0 V (bW2.trans (hV.mono bW2.size))
 have hjz : JBox W (w'.heap.size + 1) := by rw [← hW, ← hz1]; exact JBox.alloc _ _ _ _ _
 have hzz : it.length ≤ maxLen ∧ ks.length ≤ maxLen := ⟨hz.1, hz.2.1⟩
 unfold maxLen at hzz
 obtain ⟨hil, hkl⟩ := hzz
 have hfv : fieldV (.mk k s ks it) K.data.toList = if k = 6 ∧ K.data.toList ∈ ks then it[ks.idxOf K.data.toList]? else none := rfl
 have HB : Hid (∀ W', Below W.heap.size W W' → Below w.heap.size w W') := Lib.hid fun W' hb' => hb.trans ((bW.trans (hb'.mono bW.size)).mono hb.size)
 have HBX : Hid (∀ V, Below W.heap.size W V → _) := Lib.hid hbx
 have HWT : Hid (∀ (i : Nat) (y : JV), it[i]? = some y → y.wt ≤ 1000000) := Lib.hid fun i y hy => by have := wt_item hy; rw [JV.wt] at hwt; omega
 have HBW := Lib.hid bW
 have HI := Lib.hid hi
 have HH := Lib.hid hh
 have HK := Lib.hid hk
 have HJZ := Lib.hid hjz
 have HZ2 := Lib.hid hz2
 have HFV := Lib.hid hfv
 subst hW1
 obtain ⟨c0, c1, c2, c3⟩ := hbx W (Below.refl _ _)
 unfold jval
 simp only [kind_mk, str_mk, keys_mk, items_mk]
 rw [hS, hfv]
 clear hi hh hk hz hbx hbx0 bW1 bW2 bW hb hz1 hwt hjz hS hz2 hfv
 obtain ⟨o, ho⟩ : ∃ o, (if k = 6 ∧ K.data.toList ∈ ks then it[ks.idxOf K.data.toList]? else none) = o := ⟨_, rfl⟩
 rw [ho]
 have HO := Lib.hid ho
 clear ho
 go_enter Tryz.func27, Tryz.ntmps27
 go_wp2_with fail
 go_loopw [11] (fun iv wr => ∃ j : Nat, iv = .int .i64 j ∧ j ≤ ks.length ∧ (k = 6 → K.data.toList ∉ ks.take j) ∧ Below W.heap.size W wr) (fun iv _ => ks.length - (RowKit.intOf iv).toNat)
 case atStart => exact ⟨0, rfl, Nat.zero_le _, fun _ => by simp, Below.refl _ _⟩
 case round =>
  obtain ⟨j, rfl, hj, hnot, hB⟩ := hrel
  clear c0 c1 c2 c3
  obtain ⟨c0, c1, c2, c3⟩ := HBX.out wr hB
  have hbz : JBox wr (w'.heap.size + 1) := HJZ.out.same (hB.block _ HJZ.out.lt)
  have HJB := Lib.hid hbz
  have HNOT := Lib.hid hnot
  clear hbz hnot
  by_cases hjn : (j : Int) < (ks.length : Int)
  · obtain ⟨u, hu⟩ : ∃ u, ks[j]? = some u := ⟨_, List.getElem?_eq_getElem (by omega)⟩
    obtain ⟨a, rfl, ha, _⟩ := (HK.out.below (HB.out _ hB)) j u hu
    obtain ⟨U, hU⟩ : ∃ S : ByteArray, (⟨u.toArray⟩ : ByteArray) = S := ⟨_, rfl⟩
    have hUl : U.data.toList = u := by rw [← hU]
    rw [hU] at ha
    have HU := Lib.hid hu
    have HUL := Lib.hid hUl
    clear hU hUl hu
    by_cases k6 : k = 6
    · have k66 : (k == 6) = true := by rw [k6]; rfl
      by_cases hUK : U = K
      · subst hUK
        obtain ⟨t1, t2⟩ := str_same U
        have HK6 := Lib.hid k6
        by_cases hjt : (j : Int) < (it.length : Int)
        · obtain ⟨y, hy⟩ : ∃ y, it[j]? = some y := ⟨_, List.getElem?_eq_getElem (by omega)⟩
          obtain ⟨hyl, b, rfl, hjc⟩ := HI.out j y hy
          obtain ⟨g0, g1, g2, g3, _⟩ := hjc.below (HB.out _ hB)
          obtain ⟨Y, hY⟩ : ∃ Y : ByteArray, (⟨y.str.toArray⟩ : ByteArray) = Y := ⟨_, rfl⟩
          rw [hY] at g1
          have hge : ¬ (it.length : Int) ≤ (j : Int) := by omega
          have hcall := clone_any (HH.out j y hy) (HWT.out j y hy) hyl wr (HB.out _ hB)
          unfold jval at hcall
          rw [hY] at hcall
          have ho : o = some y := by
           rw [← HO.out, if_pos ⟨HK6.out, by rw [HUL.out]; exact List.mem_of_getElem? HU.out⟩, HUL.out, take_idx HU.out (by have := HNOT.out HK6.out; rwa [HUL.out] at this)]
           exact hy
          have HY := Lib.hid hY
          have HYL := Lib.hid hyl
          subst ho
          clear HO HNOT hY hyl hy hjc k6
          go_wp2_with (first
           | (go_at_call 85; refine hcall.mono ?_; rintro e w3 hcl; obtain ⟨vp, vc, vp', vc', rfl, hkp, hb3⟩ := CL.cells HY.out hcl; have HB3 : Hid (JBox w3 (w'.heap.size + 1)) := Lib.hid (HJB.out.same (hb3.block _ HJB.out.lt)); have HKP := Lib.hid hkp; clear hkp hcl)
           | (refine store_val rfl (.tmp 4) (.tmp 34) rfl (w'.heap.size + 1) rfl (.int .i64 y.kind) (.string Y) (.slice vp y.keys.length vc) (.slice vp' y.items.length vc') rfl rfl HB3.out (fun V hV hgV _ => ?_)))
          refine bodyPost_ret (ret_val2 Tryz.results27 rfl rfl hV) rfl ?_
          exact FL.some HY.out HYL.out HKP.out HBW.out hB hb3 (by omega) (by have := HZ2.out; omega) hgV
        · have hge : (it.length : Int) ≤ (j : Int) := by omega
          have ho : o = none := by
           rw [← HO.out, if_pos ⟨HK6.out, by rw [HUL.out]; exact List.mem_of_getElem? HU.out⟩, HUL.out, take_idx HU.out (by have := HNOT.out HK6.out; rwa [HUL.out] at this)]
           exact List.getElem?_eq_none (by omega)
          subst ho
          clear HO HNOT k6
          go_wp2_with (first | (refine store_val rfl (.tmp 4) (.tmp 36) rfl (w'.heap.size + 1) rfl (.int .i64 0) (.string ⟨#[]⟩) (.slice none 0 0) (.slice none 0 0) rfl rfl HJB.out (fun V hV hgV _ => ?_)))
          refine bodyPost_ret (ret_val2 Tryz.results27 rfl rfl hV) rfl ?_
          exact FL.none (below_fr (HBW.out.trans (hB.mono HBW.out.size)) (Nat.le_refl _) (FrP.of (P := fun b => b = w'.heap.size + 1) hgV rfl) (fun b hb => by omega))
      · obtain ⟨t1, t2, t3⟩ := str_ne hUK
        have hnext : Hid (k = 6 → K.data.toList ∉ ks.take (j + 1)) := Lib.hid fun h6 => take_not HU.out (HNOT.out h6) (by rw [← HUL.out]; intro e; exact hUK (ByteArray.ext (Array.toList_inj.1 e)))
        clear HNOT hUK k6
        go_wp2_with fail
        go_roundw
        case rel => exact ⟨j + 1, by go_num, by omega, hnext.out, hB⟩
        case measure => simp [RowKit.intOf]; omega
    · have k66 : (k == 6) = false := beq_eq_false_iff_ne.2 k6
      have hnext : Hid (k = 6 → K.data.toList ∉ ks.take (j + 1)) := Lib.hid fun h6 => absurd h6 k6
      clear HNOT k6
      go_wp2_with fail
      go_roundw
      case rel => exact ⟨j + 1, by go_num, by omega, hnext.out, hB⟩
      case measure => simp [RowKit.intOf]; omega
  · have hj2 : j = ks.length := by omega
    have ho : o = none := by
     rw [← HO.out]
     refine if_neg fun h => ?_
     have := HNOT.out h.1
     rw [hj2, List.take_length] at this
     exact this h.2
    subst ho
    clear HO HNOT hj2
    go_wp2_with (first | (refine store_val rfl (.tmp 4) (.tmp 36) rfl (w'.heap.size + 1) rfl (.int .i64 0) (.string ⟨#[]⟩) (.slice none 0 0) (.slice none 0 0) rfl rfl HJB.out (fun V hV hgV _ => ?_)))
    refine bodyPost_ret (ret_val2 Tryz.results27 rfl rfl hV) rfl ?_
    exact FL.none (below_fr (HBW.out.trans (hB.mono HBW.out.size)) (Nat.le_refl _) (FrP.of (P := fun b => b = w'.heap.size + 1) hgV rfl) (fun b hb => by omega))
end Go.Proofs.Jt
/- V32: The laws' works; what the laws' calls leave, in words of cells. -/
namespace Go.Proofs.Jt
open Go.RowKit Go.Maps Go.Lib Go.Proofs.Utf Go.Proofs

def bV : JV := .mk 5 [] [] [.mk 3 [49] [] [], jn 2]
theorem arr_back2 (t : ByteArray) : (⟨t.data.toList.toArray⟩ : ByteArray) = t := by cases t; rfl
theorem parse_is {s : ByteArray} {w : World} (hT : Tabs w) (hs : s.size ≤ 16777216) {v : JV} {n : Nat} {S : ByteArray} (hp : parV s.data.toList = (v, n)) (hS : (⟨v.str.toArray⟩ : ByteArray) = S) :
 Calls Tryz.prog 52 #[.string s] w fun e w' => ∃ kp kc ip ic, e = .returned (.tuple #[.agg #[.int .i64 v.kind, .string S, .slice kp v.keys.length kc, .slice ip v.items.length ic], .int .i64 (n : Nat)]) ∧ KP w' (w.heap.size ≤ ·) v kp kc ip ic ∧ v.str.length ≤ maxLen ∧ Below w.heap.size w w' := by
 refine (parse_any s w hT hs).mono ?_
 rintro e w' ⟨⟨kp, kc, ip, ic, h1, h2, h3⟩, h4⟩
 rw [hp] at h1 h2 h3
 exact ⟨kp, kc, ip, ic, by rw [h1, ← hS]; rfl, h2, h3, h4⟩
theorem put_is {w : World} {v : JV} {S X : ByteArray} {n : Nat} {kp ip : Option Addr} {kc ic : Nat} (hT : Tabs w) (h : KI w v kp kc ip ic) (hwt : v.wt ≤ 1000000) (hS : (⟨v.str.toArray⟩ : ByteArray) = S) (hp : putV v = (X.data.toList, n)) : ∀ w', Below w.heap.size w w' →
 Calls Tryz.prog 84 #[.agg #[.int .i64 v.kind, .string S, .slice kp v.keys.length kc, .slice ip v.items.length ic]] w' fun e w'' => e = .returned (.tuple #[.string X, .int .i64 (n : Nat)]) ∧ Below w'.heap.size w' w'' := fun w' hb => by
 have h1 := Put_any hT h hwt w' hb
 rw [hp] at h1
 unfold jval at h1
 rw [hS, arr_back2] at h1
 exact h1
theorem box_of {w W : World} {a b c d : Value} (hW : w.alloc (.cells #[a, b, c, d] 25) = W) : ∀ V, Below W.heap.size W V → V.cell? ⟨w.heap.size, 0, none⟩ = some a ∧ V.cell? ⟨w.heap.size, 1, none⟩ = some b ∧ V.cell? ⟨w.heap.size, 2, none⟩ = some c ∧ V.cell? ⟨w.heap.size, 3, none⟩ = some d := fun V hb => by
 have h1 : W.heap[w.heap.size]? = some (.cells #[a, b, c, d] 25) := by rw [← hW]; exact World.alloc_heap_new w _
 have h2 := (hb.block _ (ltS h1)).trans h1
 refine ⟨?_, ?_, ?_, ?_⟩ <;> simp [World.cell?, h2]
theorem alloc_b {w W : World} {o : Obj} (h : w.alloc o = W) : Below w.heap.size w W := by rw [← h]; exact (Below.refl _ _).alloc (Nat.le_refl _) _
theorem Below.on {a b c : World} (h : Below a.heap.size a b) (k : Below b.heap.size b c) : Below a.heap.size a c := h.trans (k.mono h.size)
end Go.Proofs.Jt
/- ZE: Values of JSON: equal, as a contract. -/
namespace Go.Proofs.Jt
open Go.RowKit Go.Maps Go.Lib Go.Proofs.Utf Go.Proofs

end Go.Proofs.Jt
