/- Values of JSON in memory: same; Same. -/
import Derived.Test.YtaiaiiepbpbmmaaGreatDoorVE
import Derived.Maps.OwnSet
namespace Go.Proofs.Jt
open Go.RowKit Go.Maps Go.Lib Go.Proofs.Utf Go.Proofs

/-- the place of each key -/
def MetI (w : World) (M : Nat) (l : List (List UInt8)) : Prop := ∃ D, w.ownsMap Tryz.prog 9 intEl M (Maps.size D) D ∧ Maps.size D ≤ l.length ∧ (∀ u, Maps.has D (.string u) = decide (u ∈ l)) ∧ ∀ u, u ∈ l → ∀ z, D.atKey (.string u) z = .lit (.int .i64 (l.idxOf u : Nat))
theorem MetI.below {w w' : World} {M : Nat} {l : List (List UInt8)} (h : MetI w M l) (hb : Below w.heap.size w w') : MetI w' M l := by
  obtain ⟨D, h1, h2⟩ := h
  exact ⟨D, h1.kept (gb_below' hb) (by simp), h2⟩
theorem MetI.lt {w : World} {M : Nat} {l : List (List UInt8)} (h : MetI w M l) : M < w.heap.size := by
  obtain ⟨D, h1, _⟩ := h
  exact h1.lt
theorem MetI.made (w : World) : MetI (w.alloc (.map #[] 0)) w.heap.size [] := ⟨.map [], World.ownsMap_made w Tryz.prog 9 intEl, Nat.le_refl _, fun _ => rfl, fun u hu => by cases hu⟩
theorem MetI.look {w : World} {M : Nat} {l : List (List UInt8)} (h : MetI w M l) (u : ByteArray) (hu : u.size ≤ maxLen) :
    (u.data.toList ∈ l → (Instr.lookup 211 (.map (some M)) (.string u) true).run Tryz.prog w = .ok (.tuple #[.int .i64 (l.idxOf u.data.toList : Nat), .bool true]) w) ∧
    (u.data.toList ∉ l → (Instr.lookup 211 (.map (some M)) (.string u) true).run Tryz.prog w = .ok (.tuple #[.int .i64 0, .bool false]) w) := by
  obtain ⟨D, h1, h2, h3, h4⟩ := h
  obtain ⟨v, ps, hrun, hv⟩ := h1.look_ok lawS Tryz.underlying211 (z := .int .i64 0) (by kernel_rfl) (zd := .lit (.int .i64 0)) (zp := []) rfl (Go.WideMaps.keyOf_string_mk Tryz.underlying9 hu)
  rw [hrun]
  refine ⟨fun hm => ?_, fun hm => ?_⟩
  · rw [h4 _ hm] at hv
    rw [intEl_int hv, h3, decide_eq_true hm]
  · rw [atKey_of_not_has (by rw [h3]; exact decide_eq_false hm)] at hv
    rw [intEl_int hv, h3, decide_eq_false hm]
theorem MetI.put {w : World} {M n : Nat} {l : List (List UInt8)} (h : MetI w M l) (u : ByteArray) (hu : u.size ≤ maxLen) (hl : l.length = n) (hn : n < 1000000000) (hm : u.data.toList ∉ l) :
    ∃ w', (Instr.mapUpdate 211 (.map (some M)) (.string u) (.int .i64 n)).run Tryz.prog w = .ok () w' ∧ w.grownBy w' (some M) ∧ MetI w' M (l ++ [u.data.toList]) := by
  obtain ⟨D, h1, h2, h3, h4⟩ := h
  obtain ⟨w', k1, k2, ht⟩ := h1.store lawS Tryz.underlying211 (by unfold maxLen; omega) (Go.WideMaps.keyOf_string_mk Tryz.underlying9 hu) (show intEl (.int .i64 n) = some (.lit (.int .i64 n), []) from rfl)
  have hsz := size_put (D := D) (k := .string u.data.toList) (h1.tidy lawS) (.lit (.int .i64 n))
  refine ⟨w', k1, World.mapTurned.grown ht, D.put (.string u.data.toList) (.lit (.int .i64 n)), ownM_tight k2, ?_, fun x => ?_, fun x hx z => ?_⟩
  · rw [hsz, List.length_append, List.length_singleton]
    split <;> omega
  · by_cases e : x = u.data.toList
    · subst e
      rw [has_put_same (h1.tidy lawS).isMap (by exact trivial)]
      simp
    · rw [has_put_other (by intro e2; exact e (by cases e2; rfl)), h3]
      simp [e]
  · by_cases e : u.data.toList = x
    · subst e
      rw [atKey_put_same (h1.tidy lawS).isMap (by exact trivial), List.idxOf_append, if_neg hm, List.idxOf_cons_self, hl, Nat.zero_add]
    · have hx2 : x ∈ l := by
        rcases List.mem_append.1 hx with h | h
        · exact h
        · exact absurd (List.mem_singleton.1 h).symm e
      rw [atKey_put_other (by intro e2; exact e (by cases e2; rfl)), List.idxOf_append, if_pos hx2]
      exact h4 x hx2 z
theorem fnd_nodup {x : JV} (h : x.fnd = 0) : x.keys.Nodup ∧ (x.kind = 6 → x.keys.length = x.items.length) := by
  cases x with
  | mk k s ks it =>
    refine ⟨?_, fun hk => (fnd_keys h hk).1⟩
    show ks.Nodup
    rcases shaped_cases (fnd_zero h).1 with ⟨_, _, e, _⟩ | ⟨_, e, _⟩ | ⟨_, e, _⟩ | ⟨_, _, e⟩ | ⟨e, _⟩
    · rw [e]; exact List.nodup_nil
    · rw [e]; exact List.nodup_nil
    · rw [e]; exact List.nodup_nil
    · rw [e]; exact List.nodup_nil
    · exact (fnd_keys h e).2
theorem sameL_cons (o : Bool) (x : JV) (t : List JV) (ks : List (List UInt8)) (i : Nat) (b : JV) : sameL o (x :: t) ks i b = ((if o then decide (ks.headD [] ∈ b.keys) && sameV x (b.items.getD (b.keys.idxOf (ks.headD [])) (jn 0)) else sameV x (b.items.getD i (jn 0))) && sameL o t ks.tail (i + 1) b) := by rw [sameL]
set_option maxRecDepth 100000 in
set_option maxHeartbeats 8000000 in
theorem same_any {w : World} {x : JV} {kp ip : Option Addr} {kc ic : Nat} (h : KI w x kp kc ip ic) : x.fnd = 0 → ∀ (y : JV) (kp' ip' : Option Addr) (kc' ic' : Nat), KI w y kp' kc' ip' ic' → y.fnd = 0 → x.wt ≤ 1000000 → y.wt ≤ 1000000 → ∀ w', Below w.heap.size w w' → Calls Tryz.prog 90 #[jval x kp kc ip ic, jval y kp' kc' ip' ic'] w' fun e w'' => e = .returned (.bool (sameV x y)) ∧ Below w'.heap.size w' w'' := by
  induction h with
  | mk x kp kc ip ic fp fc gp gc hk hz hi hh ih =>
    intro hf y kp' ip' kc' ic' h' hf' hwx hwy w' hb
    cases h' with
    | mk _ _ _ _ _ fp' fc' gp' gc' hk' hz' hi' hh' =>
    obtain ⟨W1, hW1⟩ : ∃ W, w'.alloc (.cells #[.int .i64 x.kind, .string ⟨x.str.toArray⟩, .slice kp x.keys.length kc, .slice ip x.items.length ic] 25) = W := ⟨_, rfl⟩
    obtain ⟨W, hW⟩ : ∃ W, W1.alloc (.cells #[.int .i64 y.kind, .string ⟨y.str.toArray⟩, .slice kp' y.keys.length kc', .slice ip' y.items.length ic'] 25) = W := ⟨_, rfl⟩
    have bW1 : Below w'.heap.size w' W1 := by rw [← hW1]; exact (Below.refl _ _).alloc (Nat.le_refl _) _
    have bW2 : Below W1.heap.size W1 W := by rw [← hW]; exact (Below.refl _ _).alloc (Nat.le_refl _) _
    have bW : Below w'.heap.size w' W := bW1.trans (bW2.mono bW1.size)
    have hz1 : W1.heap.size = w'.heap.size + 1 := by rw [← hW1]; simp
    have hbx0 := box_cells hW1
    have hbx : ∀ V, Below W.heap.size W V → _ := fun V hV => hbx0 V (bW2.trans (hV.mono bW2.size))
    have hby := box_cells hW
    rw [hz1] at hby
    obtain ⟨_, hkl0⟩ := fnd_nodup hf
    obtain ⟨hnd, hkl0'⟩ := fnd_nodup hf'
    have HFI : Hid (∀ (i : Nat) (z : JV), x.items[i]? = some z → z.fnd = 0 ∧ z.wt ≤ 1000000) := Lib.hid fun i z hz => ⟨fnd_items hf hz, by have := wt_items hz; omega⟩
    have HFI' : Hid (∀ (i : Nat) (z : JV), y.items[i]? = some z → z.fnd = 0 ∧ z.wt ≤ 1000000) := Lib.hid fun i z hz => ⟨fnd_items hf' hz, by have := wt_items hz; omega⟩
    have HKW : Hid (∀ u ∈ x.keys, u.length ≤ 1000000) := Lib.hid fun u hu => by have := keysW_mem hu; cases x; rw [JV.wt] at hwx; simp only [keys_mk] at this; omega
    have HKW' : Hid (∀ u ∈ y.keys, u.length ≤ 1000000) := Lib.hid fun u hu => by have := keysW_mem hu; cases y; rw [JV.wt] at hwy; simp only [keys_mk] at this; omega
    have hkn' : y.keys.length ≤ 1000000 := by have := keys_len y.keys; cases y; rw [JV.wt] at hwy; simp only [keys_mk] at this ⊢; omega
    cases x with
    | mk k s ks it =>
    cases y with
    | mk k' s' ks' it' =>
    unfold jval
    simp only [kind_mk, str_mk, keys_mk, items_mk] at *
    obtain ⟨S, hS⟩ : ∃ S : ByteArray, (⟨s.toArray⟩ : ByteArray) = S := ⟨_, rfl⟩
    obtain ⟨S', hS'⟩ : ∃ S : ByteArray, (⟨s'.toArray⟩ : ByteArray) = S := ⟨_, rfl⟩
    have hss := str_eq_iff hS hS'
    simp only [hS] at hW1 hbx
    simp only [hS'] at hW hby
    rw [hS, hS', sameV_mk2]
    have hzz : it.length ≤ maxLen ∧ ks.length ≤ maxLen := ⟨hz.1, hz.2.1⟩
    unfold maxLen at hzz
    obtain ⟨hil, hkl⟩ := hzz
    subst hW1
    obtain ⟨c0, c1, c2, c3⟩ := hbx W (Below.refl _ _)
    obtain ⟨e0, e1, e2, e3⟩ := hby W (Below.refl _ _)
    have HBX : Hid (∀ V, Below W.heap.size W V → _) := Lib.hid hbx
    have HBY := Lib.hid hby
    have HBW := Lib.hid bW
    have HB : Hid (∀ W', Below W.heap.size W W' → Below w.heap.size w W') := Lib.hid fun W' hb' => hb.trans ((bW.trans (hb'.mono bW.size)).mono hb.size)
    have HI := Lib.hid hi
    have HI' := Lib.hid hi'
    have HH' := Lib.hid hh'
    have HIH := Lib.hid ih
    have HK := Lib.hid hk
    have HK' := Lib.hid hk'
    have HND := Lib.hid hnd
    clear hbx0 hbx hby bW1 bW2 bW hb hi hi' hh hh' ih hk hk' hz hz' hS hS' hz1 hf hf' hwx hwy hnd
    by_cases hkk : k = k'
    · by_cases hs2 : s = s'
      · by_cases hli : it.length = it'.length
        · rw [decide_eq_true hkk, decide_eq_true hs2, decide_eq_true hli, Bool.true_and, Bool.true_and, Bool.true_and]
          obtain rfl := hss.1 hs2
          subst hkk hs2
          obtain ⟨t1, t2⟩ := str_same S
          have q1 : (k == k) = true := by simp
          have q2 : (k != k) = false := by simp
          have z1 : ((it.length : Int) != (it'.length : Int)) = false := by rw [hli]; simp
          have z2 : ((it.length : Int) == (it'.length : Int)) = true := by rw [hli]; simp
          have HLI := Lib.hid hli
          have HL6 := Lib.hid hkl0
          have HL6' := Lib.hid hkl0'
          obtain ⟨B, hBB⟩ : ∃ B, JV.mk k s ks' it' = B := ⟨_, rfl⟩
          rw [hBB]
          have hBk : B.keys = ks' ∧ B.items = it' := by rw [← hBB]; exact ⟨rfl, rfl⟩
          have HBB := Lib.hid hBk
          clear hss hli hkl0 hkl0' hBB hBk
          obtain ⟨R, hR⟩ : ∃ R, sameL (decide (k = 6)) it ks 0 B = R := ⟨_, rfl⟩
          rw [hR]
          have HR := Lib.hid hR
          have hmm := @run_makeMap Tryz.prog
          clear hR
          go_enter Tryz.func90, Tryz.ntmps90
          go_upto_region 3 with fail
          have hba := (Below.refl W.heap.size W).alloc (Nat.le_refl _) (.map #[] 0)
          have hmet := MetI.made W
          clear c0 c1 c2 c3 e0 e1 e2 e3
          obtain ⟨c0, c1, c2, c3⟩ := HBX.out _ hba
          obtain ⟨e0, e1, e2, e3⟩ := HBY.out _ hba
          go_wp2_with fail
          obtain ⟨M, hM⟩ : ∃ M, W.heap.size = M := ⟨_, rfl⟩
          have hMW : W.heap.size ≤ M := by omega
          rw [hM] at hmet ⊢
          clear t1 t2 q1 q2 z1 z2
          go_loopw [38] (fun iv wr => ∃ j : Nat, iv = .int .i64 j ∧ j ≤ ks'.length ∧ MetI wr M (ks'.take j) ∧ Below W.heap.size W wr) (fun iv _ => ks'.length - (RowKit.intOf iv).toNat)
          case atStart => exact ⟨0, rfl, Nat.zero_le _, hmet, hba⟩
          case round =>
            obtain ⟨j, rfl, hj, hmt, hB⟩ := hrel
            clear c0 c1 c2 c3 e0 e1 e2 e3 hmet hba hM
            obtain ⟨c0, c1, c2, c3⟩ := HBX.out wr hB
            obtain ⟨e0, e1, e2, e3⟩ := HBY.out wr hB
            by_cases hjn : (j : Int) < (ks'.length : Int)
            · obtain ⟨u, hu⟩ : ∃ u, ks'[j]? = some u := ⟨_, List.getElem?_eq_getElem (by omega)⟩
              obtain ⟨a, rfl, ha, _⟩ := (HK'.out.below (HB.out _ hB)) j u hu
              have hul := HKW'.out u (List.mem_of_getElem? hu)
              obtain ⟨U, hU⟩ : ∃ S : ByteArray, (⟨u.toArray⟩ : ByteArray) = S := ⟨_, rfl⟩
              have hUl : U.data.toList = u := by rw [← hU]
              rw [hU] at ha
              have hnot : u ∉ ks'.take j := fun hm => by
                obtain ⟨i, hi⟩ := List.getElem?_of_mem hm
                have hij : i < j := by
                  have := (List.getElem?_eq_some_iff.1 hi).1
                  rw [List.length_take] at this
                  omega
                rw [List.getElem?_take_of_lt hij] at hi
                have := idx_get HND.out hi
                rw [idx_get HND.out hu] at this
                omega
              obtain ⟨w3, hput, hg, hmt3⟩ := hmt.put (n := j) U (by rw [← hU, arr_size]; unfold maxLen; omega) (by rw [List.length_take]; omega) (by omega) (by rw [hUl]; exact hnot)
              have hB3 : Below W.heap.size W w3 := hB.grown hg hB.size (fun q hq => by cases hq; exact hMW)
              rw [hUl, show ks'.take j ++ [u] = ks'.take (j + 1) by rw [List.take_add_one, hu]; rfl] at hmt3
              have HM3 := Lib.hid hmt3
              clear hnot hg hmt hmt3 hU hUl hu
              go_wp2_with fail
              go_roundw
              case rel => exact ⟨j + 1, by go_num, by omega, HM3.out, hB3⟩
              case measure => simp [RowKit.intOf]; omega
            · have hj2 : j = ks'.length := by omega
              subst hj2
              rw [List.take_length] at hmt
              go_wp2_with fail
              go_loopw [50] (fun iv wx => ∃ i : Nat, iv = .int .i64 i ∧ i ≤ it.length ∧ sameL (decide (k = 6)) (it.drop i) (ks.drop i) i B = R ∧ MetI wx M ks' ∧ Below W.heap.size W wx) (fun iv _ => it.length - (RowKit.intOf iv).toNat)
              case atStart => exact ⟨0, rfl, Nat.zero_le _, by rw [List.drop_zero, List.drop_zero]; exact HR.out, hmt, hB⟩
              case round =>
                obtain ⟨i, rfl, hi, hm, hmi, hB2⟩ := hrel
                clear c0 c1 c2 c3 e0 e1 e2 e3 hmt
                obtain ⟨c0, c1, c2, c3⟩ := HBX.out wr hB2
                by_cases hin : (i : Int) < (it.length : Int)
                · obtain ⟨y, hy⟩ : ∃ y, it[i]? = some y := ⟨_, List.getElem?_eq_getElem (by omega)⟩
                  obtain ⟨_, a, rfl, hjc⟩ := HI.out i y hy
                  obtain ⟨g0, g1, g2, g3, _⟩ := hjc.below (HB.out _ hB2)
                  obtain ⟨Y, hY⟩ : ∃ Y : ByteArray, (⟨y.str.toArray⟩ : ByteArray) = Y := ⟨_, rfl⟩
                  rw [hY] at g1
                  have hBa := hB2.alloc hB2.size (.cells #[.int .i64 y.kind, .string Y, .slice (fp i) y.keys.length (fc i), .slice (gp i) y.items.length (gc i)] 25)
                  obtain ⟨wa, hwa⟩ : ∃ wa, wr.alloc (.cells #[.int .i64 y.kind, .string Y, .slice (fp i) y.keys.length (fc i), .slice (gp i) y.items.length (gc i)] 25) = wa := ⟨_, rfl⟩
                  rw [hwa] at hBa
                  have hxb := box_cells (w := wr) (W := wa) (x := y) (kp := fp i) (kc := fc i) (ip := gp i) (ic := gc i) (by rw [hY]; exact hwa)
                  rw [hY] at hxb
                  have hma := hmi.below (w' := wa) (by rw [← hwa]; exact (Below.refl _ _).alloc (Nat.le_refl _) _)
                  have haz : Below wr.heap.size wr wa := by rw [← hwa]; exact (Below.refl _ _).alloc (Nat.le_refl _) _
                  obtain ⟨d0, d1, d2, d3⟩ := HBX.out wa hBa
                  obtain ⟨f0, f1, f2, f3⟩ := HBY.out wa hBa
                  obtain ⟨x0, x1, x2, x3⟩ := hxb wa (Below.refl _ _)
                  have hBd : Below W.heap.size W wa.drew := hBa.drew
                  obtain ⟨b0, b1, b2, b3⟩ := HBX.out _ hBd
                  obtain ⟨r0, r1, r2, r3⟩ := HBY.out _ hBd
                  obtain ⟨v0, v1, v2, v3⟩ := hxb wa.drew (Below.refl _ _).drew
                  have hmd := hma.below (w' := wa.drew) (Below.refl _ _).drew
                  rw [drop_cons hy, sameL_cons] at hm
                  obtain ⟨hyf, hyw⟩ := HFI.out i y hy
                  clear hjc hmi hxb
                  by_cases k6 : k = 6
                  · have hjk : (i : Int) < (ks.length : Int) := by have := HL6.out k6; omega
                    obtain ⟨u, hu⟩ : ∃ u, ks[i]? = some u := ⟨_, List.getElem?_eq_getElem (by omega)⟩
                    obtain ⟨b, rfl, hkc, _⟩ := (HK.out.below (HB.out _ hBa)) i u hu
                    have hul := HKW.out u (List.mem_of_getElem? hu)
                    obtain ⟨U, hU⟩ : ∃ S : ByteArray, (⟨u.toArray⟩ : ByteArray) = S := ⟨_, rfl⟩
                    have hUl : U.data.toList = u := by rw [← hU]
                    rw [hU] at hkc
                    rw [decide_eq_true k6, if_pos rfl, drop_cons hu, List.headD_cons, List.tail_cons, HBB.out.1, HBB.out.2] at hm
                    obtain ⟨hlk1, hlk2⟩ := hma.look U (by rw [← hU, arr_size]; unfold maxLen; omega)
                    rw [hUl] at hlk1 hlk2
                    by_cases hmem : u ∈ ks'
                    · have hlk := hlk1 hmem
                      rw [decide_eq_true hmem, Bool.true_and] at hm
                      have hml := List.idxOf_lt_length_of_mem hmem
                      obtain ⟨m, hmm2⟩ : ∃ m, ks'.idxOf u = m := ⟨_, rfl⟩
                      rw [hmm2] at hlk hm hml
                      have hin' : (m : Int) < (it'.length : Int) := by have := HL6'.out k6; omega
                      have HM := Lib.hid hm
                      have k66 : (k == 6) = true := by rw [k6]; rfl
                      have HK6 := Lib.hid (decide_eq_true k6)
                      clear hlk1 hlk2 hmm2 hm hu hU hUl hmem k6
                      obtain ⟨y', hy'⟩ : ∃ z, it'[m]? = some z := ⟨_, List.getElem?_eq_getElem (by omega)⟩
                      have hget : it'.getD m (jn 0) = y' := by rw [List.getD_eq_getElem?_getD, hy']; rfl
                      obtain ⟨_, a', rfl, hjc'⟩ := HI'.out m y' hy'
                      obtain ⟨hyf', hyw'⟩ := HFI'.out m y' hy'
                      have hcall := HIH.out i y hy hyf y' _ _ _ _ (HH'.out m y' hy') hyf' hyw hyw' _ (HB.out _ hBd)
                      obtain ⟨j0, j1, j2, j3, _⟩ := hjc'.below (HB.out _ hBa)
                      obtain ⟨i0, i1, i2, i3, _⟩ := hjc'.below (HB.out _ hBd)
                      obtain ⟨Y', hY'⟩ : ∃ Y : ByteArray, (⟨y'.str.toArray⟩ : ByteArray) = Y := ⟨_, rfl⟩
                      unfold jval at hcall
                      rw [hY'] at j1 i1
                      simp only [hY, hY'] at hcall
                      obtain ⟨E, hE⟩ : ∃ E, sameV y y' = E := ⟨_, rfl⟩
                      have hmE : (E && sameL true (it.drop (i + 1)) (ks.drop (i + 1)) (i + 1) B) = R := by rw [← hE, ← hget]; exact HM.out
                      simp only [hE] at hcall
                      have HME := Lib.hid hmE
                      have HMD := Lib.hid hmd
                      have HCALL := Lib.hid hcall
                      clear hE hY hY' hy hy' hjc' hget hmE HM hyf hyf' hyw hyw' hma hcall hmd
                      go_wp2_with fail
                      go_still_tail 6, (by kernel_rfl)
                      change wpList _ _ _ _ _ wa.drew
                      have hcall := HCALL.out
                      clear c0 c1 c2 c3 d0 d1 d2 d3 f0 f1 f2 f3 x0 x1 x2 x3 j0 j1 j2 j3 g0 g1 g2 g3 HCALL
                      generalize wa.drew = wd at *
                      cases E with
                      | true =>
                        go_wp2_with (first | (go_at_call 90; refine hcall.mono ?_; rintro e w3 ⟨rfl, hb3⟩))
                        go_roundw
                        case rel => exact ⟨i + 1, by go_num, by omega, by rw [HK6.out]; have := HME.out; rw [Bool.true_and] at this; exact this, HMD.out.below hb3, hBd.trans (hb3.mono hBd.size)⟩
                        case measure => simp [RowKit.intOf]; omega
                      | false =>
                        have hm := HME.out
                        rw [Bool.false_and] at hm
                        subst hm
                        clear HME HR
                        go_wp2_with (first | (go_at_call 90; refine hcall.mono ?_; rintro e w3 ⟨rfl, hb3⟩))
                        go_ret
                        exact ⟨rfl, HBW.out.trans ((hBd.trans (hb3.mono hBd.size)).mono HBW.out.size)⟩
                    · have hlk := hlk2 hmem
                      rw [decide_eq_false hmem, Bool.false_and, Bool.false_and] at hm
                      subst hm
                      have k66 : (k == 6) = true := by rw [k6]; rfl
                      clear HR hlk1 hlk2 hu hU hUl hmem k6 hy
                      go_wp2_with fail
                      go_ret
                      exact ⟨rfl, HBW.out.trans (hBa.mono HBW.out.size)⟩
                  · rw [decide_eq_false k6, if_neg (by simp), HBB.out.2] at hm
                    have hin' : (i : Int) < (it'.length : Int) := by have := HLI.out; omega
                    have HK6 := Lib.hid (decide_eq_false k6)
                    have k66 : (k == 6) = false := beq_eq_false_iff_ne.2 k6
                    obtain ⟨m, hmi2⟩ : ∃ m, i = m := ⟨_, rfl⟩
                    have hm2 : (sameV y (it'.getD m (jn 0)) && sameL false (it.drop (i + 1)) (ks.drop (i + 1)) (i + 1) B) = R := by rw [← hmi2, ← hm, List.tail_drop]
                    have HM := Lib.hid hm2
                    clear hm hm2 k6
                    subst hmi2
                    obtain ⟨y', hy'⟩ : ∃ z, it'[i]? = some z := ⟨_, List.getElem?_eq_getElem (by omega)⟩
                    have hget : it'.getD i (jn 0) = y' := by rw [List.getD_eq_getElem?_getD, hy']; rfl
                    obtain ⟨_, a', rfl, hjc'⟩ := HI'.out i y' hy'
                    obtain ⟨hyf', hyw'⟩ := HFI'.out i y' hy'
                    have hcall := HIH.out i y hy hyf y' _ _ _ _ (HH'.out i y' hy') hyf' hyw hyw' _ (HB.out _ hBd)
                    obtain ⟨j0, j1, j2, j3, _⟩ := hjc'.below (HB.out _ hBa)
                    obtain ⟨i0, i1, i2, i3, _⟩ := hjc'.below (HB.out _ hBd)
                    obtain ⟨Y', hY'⟩ : ∃ Y : ByteArray, (⟨y'.str.toArray⟩ : ByteArray) = Y := ⟨_, rfl⟩
                    unfold jval at hcall
                    rw [hY'] at j1 i1
                    simp only [hY, hY'] at hcall
                    obtain ⟨E, hE⟩ : ∃ E, sameV y y' = E := ⟨_, rfl⟩
                    have hmE : (E && sameL false (it.drop (i + 1)) (ks.drop (i + 1)) (i + 1) B) = R := by rw [← hE, ← hget]; exact HM.out
                    simp only [hE] at hcall
                    have HME := Lib.hid hmE
                    have HMD := Lib.hid hmd
                    have HCALL := Lib.hid hcall
                    clear hE hY hY' hy hy' hjc' hget hmE HM hyf hyf' hyw hyw' hma hcall hmd
                    go_wp2_with fail
                    go_still_tail 6, (by kernel_rfl)
                    change wpList _ _ _ _ _ wa.drew
                    have hcall := HCALL.out
                    clear c0 c1 c2 c3 d0 d1 d2 d3 f0 f1 f2 f3 x0 x1 x2 x3 j0 j1 j2 j3 g0 g1 g2 g3 HCALL
                    generalize wa.drew = wd at *
                    cases E with
                    | true =>
                      go_wp2_with (first | (go_at_call 90; refine hcall.mono ?_; rintro e w3 ⟨rfl, hb3⟩))
                      go_roundw
                      case rel => exact ⟨i + 1, by go_num, by omega, by rw [HK6.out]; have := HME.out; rw [Bool.true_and] at this; exact this, HMD.out.below hb3, hBd.trans (hb3.mono hBd.size)⟩
                      case measure => simp [RowKit.intOf]; omega
                    | false =>
                      have hm := HME.out
                      rw [Bool.false_and] at hm
                      subst hm
                      clear HME HR
                      go_wp2_with (first | (go_at_call 90; refine hcall.mono ?_; rintro e w3 ⟨rfl, hb3⟩))
                      go_ret
                      exact ⟨rfl, HBW.out.trans ((hBd.trans (hb3.mono hBd.size)).mono HBW.out.size)⟩
                · have hii : i = it.length := by omega
                  subst hii
                  rw [List.drop_length, sameL] at hm
                  subst hm
                  clear HR
                  go_wp2_with fail
                  go_ret
                  exact ⟨rfl, HBW.out.trans (hB2.mono HBW.out.size)⟩
        · rw [decide_eq_false hli, Bool.and_false, Bool.false_and]
          obtain rfl := hss.1 hs2
          subst hkk
          obtain ⟨t1, t2⟩ := str_same S
          have q1 : (k == k) = true := by simp
          have q2 : (k != k) = false := by simp
          have u1 : ((it.length : Int) != (it'.length : Int)) = true := by simp; omega
          have u2 : ((it.length : Int) == (it'.length : Int)) = false := beq_eq_false_iff_ne.2 (by omega)
          clear hss hs2 hli
          go_enter Tryz.func90, Tryz.ntmps90
          go_wp2_with fail
          go_ret
          exact ⟨rfl, HBW.out⟩
      · rw [decide_eq_false hs2, Bool.and_false, Bool.false_and, Bool.false_and]
        obtain ⟨t1, t2, t3⟩ := str_ne (fun e => hs2 (hss.2 e))
        subst hkk
        have q1 : (k == k) = true := by simp
        have q2 : (k != k) = false := by simp
        clear hss hs2
        go_enter Tryz.func90, Tryz.ntmps90
        go_wp2_with fail
        go_ret
        exact ⟨rfl, HBW.out⟩
    · rw [decide_eq_false hkk, Bool.false_and, Bool.false_and, Bool.false_and]
      have q1 : (k == k') = false := beq_eq_false_iff_ne.2 hkk
      have q2 : (k != k') = true := by simp [hkk]
      clear hss hkk
      go_enter Tryz.func90, Tryz.ntmps90
      go_wp2_with fail
      go_ret
      exact ⟨rfl, HBW.out⟩
set_option maxRecDepth 100000 in
set_option maxHeartbeats 4000000 in
theorem Same_any {w : World} {x y : JV} {kp ip kp' ip' : Option Addr} {kc ic kc' ic' : Nat} (hT : Tabs w) (h : KI w x kp kc ip ic) (h' : KI w y kp' kc' ip' ic') (hwx : x.wt ≤ 1000000) (hwy : y.wt ≤ 1000000) : ∀ w', Below w.heap.size w w' → Calls Tryz.prog 31 #[jval x kp kc ip ic, jval y kp' kc' ip' ic'] w' fun e w'' => e = .returned (.bool (sameB x y)) ∧ Below w'.heap.size w' w'' := by
  intro w' hb
  obtain ⟨W1, hW1⟩ : ∃ W, w'.alloc (.cells #[.int .i64 x.kind, .string ⟨x.str.toArray⟩, .slice kp x.keys.length kc, .slice ip x.items.length ic] 25) = W := ⟨_, rfl⟩
  obtain ⟨W, hW⟩ : ∃ W, W1.alloc (.cells #[.int .i64 y.kind, .string ⟨y.str.toArray⟩, .slice kp' y.keys.length kc', .slice ip' y.items.length ic'] 25) = W := ⟨_, rfl⟩
  have bW1 : Below w'.heap.size w' W1 := by rw [← hW1]; exact (Below.refl _ _).alloc (Nat.le_refl _) _
  have bW2 : Below W1.heap.size W1 W := by rw [← hW]; exact (Below.refl _ _).alloc (Nat.le_refl _) _
  have bW : Below w'.heap.size w' W := bW1.trans (bW2.mono bW1.size)
  have hz1 : W1.heap.size = w'.heap.size + 1 := by rw [← hW1]; simp
  have hbx0 := box_cells hW1
  have hbx : ∀ V, Below W.heap.size W V → _ := fun V hV => hbx0 V (bW2.trans (hV.mono bW2.size))
  have hby := box_cells hW
  rw [hz1] at hby
  have hB : ∀ W', Below W.heap.size W W' → Below w.heap.size w W' := fun W' hb' => hb.trans ((bW.trans (hb'.mono bW.size)).mono hb.size)
  have hcx := fun V (hV : Below W.heap.size W V) => check_any hT h hwx V (hB V hV)
  have hcy := fun V (hV : Below W.heap.size W V) => check_any hT h' hwy V (hB V hV)
  have hss := fun (hx : x.chk = 0) (hy : y.chk = 0) V (hV : Below W.heap.size W V) => same_any h (chk_zero hx).2 y _ _ _ _ h' (chk_zero hy).2 hwx hwy V (hB V hV)
  obtain ⟨S, hS⟩ : ∃ S : ByteArray, (⟨x.str.toArray⟩ : ByteArray) = S := ⟨_, rfl⟩
  obtain ⟨S', hS'⟩ : ∃ S : ByteArray, (⟨y.str.toArray⟩ : ByteArray) = S := ⟨_, rfl⟩
  obtain ⟨E, hE⟩ : ∃ E, sameV x y = E := ⟨_, rfl⟩
  obtain ⟨cx, hcx0⟩ : ∃ c, x.chk = c := ⟨_, rfl⟩
  obtain ⟨cy, hcy0⟩ : ∃ c, y.chk = c := ⟨_, rfl⟩
  unfold sameB
  rw [hE, hcx0, hcy0]
  unfold jval at hcx hcy hss ⊢
  simp only [hS, hS', hE, hcx0, hcy0] at hW1 hW hbx hby hcx hcy hss ⊢
  have HBX : Hid (∀ V, Below W.heap.size W V → _) := Lib.hid hbx
  have HBY := Lib.hid hby
  have HCX := Lib.hid hcx
  have HCY := Lib.hid hcy
  have HSS := Lib.hid hss
  have HBW := Lib.hid bW
  subst hW1
  obtain ⟨c0, c1, c2, c3⟩ := hbx W (Below.refl _ _)
  clear h h' hbx hbx0 hby bW1 bW2 bW hb hB hcx hcy hss hz1 hE hcx0 hcy0 hS hS'
  have h1 := HCX.out W (Below.refl _ _)
  by_cases e1 : cx = 0
  · rw [decide_eq_true e1, Bool.true_and]
    by_cases e2 : cy = 0
    · rw [decide_eq_true e2, Bool.true_and]
      have HSV := Lib.hid (HSS.out e1 e2)
      subst e1 e2
      clear HSS
      go_enter Tryz.func31, Tryz.ntmps31
      go_wp2_with (first
        | (with_reducible (show Calls _ _ _ W _); go_at_call 89; refine h1.mono ?_; rintro e w1 ⟨rfl, hb1⟩; obtain ⟨d0, d1, d2, d3⟩ := HBY.out w1 hb1; have h2 := HCY.out w1 hb1)
        | (go_at_call 89; refine h2.mono ?_; rintro e w2 ⟨rfl, hb2⟩; have hb12 := hb1.trans (hb2.mono hb1.size); obtain ⟨f0, f1, f2, f3⟩ := HBX.out w2 hb12; obtain ⟨g0, g1, g2, g3⟩ := HBY.out w2 hb12; have h3 := HSV.out w2 hb12)
        | (go_at_call 90; refine h3.mono ?_; rintro e w3 ⟨rfl, hb3⟩))
      go_ret
      exact ⟨rfl, HBW.out.trans ((hb12.trans (hb3.mono hb12.size)).mono HBW.out.size)⟩
    · rw [decide_eq_false e2, Bool.false_and]
      have n2 : ((cy : Int) == 0) = false := beq_eq_false_iff_ne.2 (by omega)
      subst e1
      clear HSS e2
      go_enter Tryz.func31, Tryz.ntmps31
      go_wp2_with (first
        | (with_reducible (show Calls _ _ _ W _); go_at_call 89; refine h1.mono ?_; rintro e w1 ⟨rfl, hb1⟩; obtain ⟨d0, d1, d2, d3⟩ := HBY.out w1 hb1; have h2 := HCY.out w1 hb1)
        | (go_at_call 89; refine h2.mono ?_; rintro e w2 ⟨rfl, hb2⟩; have hb12 := hb1.trans (hb2.mono hb1.size)))
      go_ret
      exact ⟨rfl, HBW.out.trans (hb12.mono HBW.out.size)⟩
  · rw [decide_eq_false e1, Bool.false_and, Bool.false_and]
    have n1 : ((cx : Int) == 0) = false := beq_eq_false_iff_ne.2 (by omega)
    clear HSS HCY e1
    go_enter Tryz.func31, Tryz.ntmps31
    go_wp2_with (first
      | (go_at_call 89; refine h1.mono ?_; rintro e w1 ⟨rfl, hb1⟩))
    go_ret
    exact ⟨rfl, HBW.out.trans (hb1.mono HBW.out.size)⟩
end Go.Proofs.Jt
