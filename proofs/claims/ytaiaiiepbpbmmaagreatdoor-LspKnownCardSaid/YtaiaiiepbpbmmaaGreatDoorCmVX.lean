/- Merged texts: V9, VA3. -/
import Derived.Test.YtaiaiiepbpbmmaaGreatDoorCmVA2
import Derived.Maps.OwnSet
import Derived.Deep.RegionHeld3
import Derived.StillTailTactics
/- V9: Values of JSON in memory: the keys that have been met; found; Check. -/
namespace Go.Proofs.Jt
open Go.RowKit Go.Maps Go.Lib Go.Proofs.Utf Go.Proofs

def intEl (v : Value) : Option (DataW Unit × List MemPlace) := match v with
 | .int .i64 a => some (.lit (.int .i64 a), [])
 | _ => none
theorem intEl_int {v : Value} {a : Int} {ps : List MemPlace} (h : intEl v = some (.lit (.int .i64 a), ps)) : v = .int .i64 a := by
 unfold intEl at h
 split at h
 · simp only [Option.some.injEq, Prod.mk.injEq, DataW.lit.injEq, Lit.int.injEq, true_and] at h
   rw [h.1]
 · simp at h
theorem lawS : Keyed Tryz.prog 9 := string_keyed Tryz.underlying9
theorem ownM_tight {k : TypeId} {R : Value → Option (DataW Unit × List MemPlace)} {w : World} {M n : Nat} {D : DataW Unit} (h : w.ownsMap Tryz.prog k R M n D) : w.ownsMap Tryz.prog k R M (Maps.size D) D := by
 obtain ⟨es, clock, h1, h2, _, h4⟩ := h
 refine ⟨es, clock, h1, h2, ?_, h4⟩
 rw [h4]
 simp [Maps.size, length_sorted]
/-- the keys met so far -/
def Met (w : World) (M : Nat) (l : List (List UInt8)) : Prop := ∃ D, w.ownsMap Tryz.prog 9 intEl M (Maps.size D) D ∧ Maps.size D ≤ l.length ∧ (∀ u, Maps.has D (.string u) = decide (u ∈ l)) ∧ ∀ u, u ∈ l → ∀ z, D.atKey (.string u) z = .lit (.int .i64 1)
theorem gb_below' {w w' : World} (hb : Below w.heap.size w w') : w.grownBy w' none := ⟨hb.os, hb.tape, hb.output, hb.size, fun k h _ => hb.block k h⟩
theorem Met.below {w w' : World} {M : Nat} {l : List (List UInt8)} (h : Met w M l) (hb : Below w.heap.size w w') : Met w' M l := by
 obtain ⟨D, h1, h2⟩ := h
 exact ⟨D, h1.kept (gb_below' hb) (by simp), h2⟩
theorem Met.lt {w : World} {M : Nat} {l : List (List UInt8)} (h : Met w M l) : M < w.heap.size := by
 obtain ⟨D, h1, _⟩ := h
 exact h1.lt
theorem Met.made (w : World) : Met (w.alloc (.map #[] 0)) w.heap.size [] := ⟨.map [], World.ownsMap_made w Tryz.prog 9 intEl, Nat.le_refl _, fun _ => rfl, fun u hu => by cases hu⟩
theorem Met.look {w : World} {M : Nat} {l : List (List UInt8)} (h : Met w M l) (u : ByteArray) (hu : u.size ≤ maxLen) :
 (Instr.lookup 211 (.map (some M)) (.string u) false).run Tryz.prog w = .ok (.int .i64 (if u.data.toList ∈ l then 1 else 0)) w := by
 obtain ⟨D, h1, h2, h3, h4⟩ := h
 obtain ⟨v, ps, hrun, hv⟩ := h1.lookup lawS Tryz.underlying211 (z := .int .i64 0) (by kernel_rfl) (zd := .lit (.int .i64 0)) (zp := []) rfl (Go.WideMaps.keyOf_string_mk Tryz.underlying9 hu)
 rw [hrun]
 by_cases hm : u.data.toList ∈ l
 · rw [if_pos hm]
   rw [h4 _ hm] at hv
   rw [intEl_int hv]
 · rw [if_neg hm]
   rw [atKey_of_not_has (by rw [h3]; exact decide_eq_false hm)] at hv
   rw [intEl_int hv]
theorem Met.put {w : World} {M : Nat} {l : List (List UInt8)} (h : Met w M l) (u : ByteArray) (hu : u.size ≤ maxLen) (hl : l.length < 1000000000) (c : Int) :
 ∃ w', (Instr.mapUpdate 211 (.map (some M)) (.string u) (.int .i64 c)).run Tryz.prog w = .ok () w' ∧ w.grownBy w' (some M) ∧ (Instr.lookup 211 (.map (some M)) (.string u) false).run Tryz.prog w' = .ok (.int .i64 c) w' ∧ (c = 1 → Met w' M (u.data.toList :: l)) := by
 obtain ⟨D, h1, h2, h3, h4⟩ := h
 obtain ⟨w', k1, k2, ht⟩ := h1.store lawS Tryz.underlying211 (by unfold maxLen; omega) (Go.WideMaps.keyOf_string_mk Tryz.underlying9 hu) (show intEl (.int .i64 c) = some (.lit (.int .i64 c), []) from rfl)
 have hsz := size_put (D := D) (k := .string u.data.toList) (h1.tidy lawS) (.lit (.int .i64 c))
 refine ⟨w', k1, World.mapTurned.grown ht, ?_, fun hc => ?_⟩
 · obtain ⟨v, ps, hrun, hv⟩ := k2.lookup lawS Tryz.underlying211 (z := .int .i64 0) (by kernel_rfl) (zd := .lit (.int .i64 0)) (zp := []) rfl (Go.WideMaps.keyOf_string_mk Tryz.underlying9 hu)
   rw [hrun]
   rw [atKey_put_same (h1.tidy lawS).isMap (by exact trivial)] at hv
   rw [intEl_int hv]
 · subst hc
   refine ⟨D.put (.string u.data.toList) (.lit (.int .i64 1)), ownM_tight k2, ?_, fun x => ?_, fun x hx z => ?_⟩
   · rw [hsz, List.length_cons]
     split <;> omega
   · by_cases e : x = u.data.toList
     · subst e
       rw [has_put_same (h1.tidy lawS).isMap (by exact trivial)]
       simp
     · rw [has_put_other (by intro e2; exact e (by cases e2; rfl)), h3]
       simp [e]
   · by_cases e : u.data.toList = x
     · subst e
       rw [atKey_put_same (h1.tidy lawS).isMap (by exact trivial)]
     · rw [atKey_put_other (by intro e2; exact e (by cases e2; rfl))]
       refine h4 x ?_ z
       rcases List.mem_cons.1 hx with h | h
       · exact absurd h.symm e
       · exact h
theorem fndL_false : ∀ (it : List JV) (ks met : List (List UInt8)), fndL false it ks met = fndL false it [] []
 | [], _, _ => by rw [fndL, fndL]
 | x :: t, ks, met => by
  rw [fndL, fndL]
  simp only [Bool.false_eq_true, false_and, if_false]
  rw [fndL_false t ks.tail, fndL_false t [].tail]
mutual
theorem fnd_le : ∀ x : JV, x.fnd ≤ 13
 | .mk k s ks it => by
  have := fndL_le (decide (k = 6)) it ks []
  rw [JV.fnd]
  repeat' split
  all_goals omega
theorem fndL_le (o : Bool) : ∀ (it : List JV) (ks met : List (List UInt8)), fndL o it ks met ≤ 13
 | [], _, _ => by rw [fndL]; omega
 | x :: t, ks, met => by
  have h1 := fnd_le x
  have h2 := fndL_le o t ks.tail (ks.headD [] :: met)
  rw [fndL]
  repeat' split
  all_goals omega
end
theorem keysW_mem {ks : List (List UInt8)} {u : List UInt8} (h : u ∈ ks) : u.length ≤ keysW ks := by
 induction ks with
 | nil => cases h
 | cons k t ih =>
  rw [keysW]
  rcases List.mem_cons.1 h with rfl | h
  · omega
  · have := ih h; omega
set_option maxRecDepth 100000 in
set_option maxHeartbeats 8000000 in
theorem found_any {w : World} {x : JV} {kp ip : Option Addr} {kc ic : Nat} (hT : Tabs w) (h : KI w x kp kc ip ic) : x.wt ≤ 1000000 → ∀ w', Below w.heap.size w w' → Calls Tryz.prog 147 #[jval x kp kc ip ic] w' fun e w'' => e = .returned (.int .i64 (x.fnd : Nat)) ∧ Below w'.heap.size w' w'' := by
 induction h with
 | mk x kp kc ip ic fp fc gp gc hk hz hi hh ih =>
  intro hwt w' hb
  obtain ⟨W, hW⟩ : ∃ W, w'.alloc (.cells #[.int .i64 x.kind, .string ⟨x.str.toArray⟩, .slice kp x.keys.length kc, .slice ip x.items.length ic] 25) = W := ⟨_, rfl⟩
  have bW : Below w'.heap.size w' W := by rw [← hW]; exact (Below.refl _ _).alloc (Nat.le_refl _) _
  have hbx := box_cells hW
  have hsh := fun w1 (hT1 : Tabs w1) => shaped_any (kp := kp) (kc := kc) (ip := ip) (ic := ic) hwt hT1
  cases x with
  | mk k s ks it =>
  unfold jval at hsh ⊢
  simp only [kind_mk, str_mk, keys_mk, items_mk] at *
  obtain ⟨S, hS⟩ : ∃ S : ByteArray, (⟨s.toArray⟩ : ByteArray) = S := ⟨_, rfl⟩
  have hSl : S.data.toList = s := by rw [← hS]
  have hwt2 := hwt
  rw [JV.wt] at hwt2
  have hSz : S.size ≤ 16777216 := by rw [← hS, arr_size]; omega
  have hkl : ks.length ≤ 1000000 := by have := keys_len ks; omega
  have hil : it.length ≤ 1000000 := by have := items_len it; omega
  simp only [hS] at hW hbx hsh
  rw [hS]
  have hutf := fun w1 (hT1 : Tabs w1) => utf_any S w1 hT1 hSz
  rw [hSl] at hutf
  have HT : Hid (∀ W', Below W.heap.size W W' → Tabs W') := Lib.hid fun W' hb' => (hT.below hb).below ((bW.trans (hb'.mono bW.size)))
  have HB : Hid (∀ W', Below W.heap.size W W' → Below w.heap.size w W') := Lib.hid fun W' hb' => hb.trans ((bW.trans (hb'.mono bW.size)).mono hb.size)
  have HBW := Lib.hid bW
  have HBX := Lib.hid hbx
  obtain ⟨c0, c1, c2, c3⟩ := hbx W (Below.refl _ _)
  have hfnd : (JV.mk k s ks it).fnd = if (JV.mk k s ks it).shaped = false then 4 else if k = 4 ∧ validD s = false then 8 else fndL (decide (k = 6)) it ks [] := by rw [JV.fnd]
  rw [hfnd]
  have hsc := @shaped_cases k s ks it
  have HWT : Hid (∀ (i : Nat) (y : JV), it[i]? = some y → y.wt ≤ 1000000) := Lib.hid fun i y hy => by have := wt_item hy; omega
  have HKW : Hid (∀ u ∈ ks, u.length ≤ 1000000) := Lib.hid fun u hu => by have := keysW_mem hu; omega
  have HI := Lib.hid hi
  have HIH := Lib.hid ih
  have HK := Lib.hid hk
  have HSH := Lib.hid hsh
  have HUT := Lib.hid hutf
  clear hi ih hh hk hz hbx hsh hutf bW hb hT hfnd hwt hwt2 hS hSl hSz
  cases hsd : (JV.mk k s ks it).shaped with
  | false =>
   rw [if_pos rfl]
   have hs := HSH.out W (HT.out W (Below.refl _ _))
   rw [hsd] at hs
   clear hsd hsc
   go_enter Tryz.func147, Tryz.ntmps147
   go_wp2_with (first | (go_at_call 197; refine hs.mono ?_; rintro e w1 ⟨rfl, hb1⟩))
   go_ret
   exact ⟨rfl, HBW.out.trans (hb1.mono HBW.out.size)⟩
  | true =>
   rw [if_neg (by simp)]
   have hs := HSH.out W (HT.out W (Below.refl _ _))
   rw [hsd] at hs
   have hkl6 : k = 6 → ks.length = it.length := fun e => by
    rcases hsc hsd with ⟨e2, _⟩ | ⟨e2, _⟩ | ⟨e2, _⟩ | ⟨e2, _⟩ | ⟨_, _, e2⟩
    all_goals omega
   clear hsd hsc
   by_cases k4 : k = 4 ∧ validD s = false
   · rw [if_pos k4]
     obtain ⟨rfl, hv⟩ := k4
     clear hkl6
     go_enter Tryz.func147, Tryz.ntmps147
     go_wp2_with (first
      | (go_at_call 197; refine hs.mono ?_; rintro e w1 ⟨rfl, hb1⟩; have hut := HUT.out w1 (HT.out w1 hb1); rw [hv] at hut; obtain ⟨d0, d1, d2, d3⟩ := HBX.out w1 hb1)
      | (go_at_call 198; refine hut.mono ?_; rintro e w2 ⟨rfl, hb2⟩; have hb3 := hb1.trans (hb2.mono hb1.size)))
     go_ret
     exact ⟨rfl, HBW.out.trans (hb3.mono HBW.out.size)⟩
   · rw [if_neg k4]
     by_cases k6 : k = 6
     · subst k6
       have hkl := hkl6 rfl
       rw [decide_eq_true rfl]
       obtain ⟨R, hR⟩ : ∃ R, fndL true it ks [] = R := ⟨_, rfl⟩
       rw [hR]
       have HR := Lib.hid hR
       have HKL := Lib.hid hkl
       have hmm := @run_makeMap Tryz.prog
       clear hR k4 hkl6 hkl
       go_enter Tryz.func147, Tryz.ntmps147
       go_upto_region 5 with (first
        | (go_at_call 197; refine hs.mono ?_; rintro e w1 ⟨rfl, hbx⟩; obtain ⟨d0, d1, d2, d3⟩ := HBX.out w1 hbx))
       have hba := hbx.alloc hbx.size (.map #[] 0)
       have hmet := Met.made w1
       obtain ⟨f0, f1, f2, f3⟩ := HBX.out _ hba
       have hMW := hbx.size
       go_wp2_with fail
       obtain ⟨M, hM⟩ : ∃ M, w1.heap.size = M := ⟨_, rfl⟩
       rw [hM] at hmet hMW ⊢
       go_loopw [26] (fun iv wr => ∃ (j : Nat) (met : List (List UInt8)), iv = .int .i64 j ∧ j ≤ it.length ∧ fndL true (it.drop j) (ks.drop j) met = R ∧ met.length = j ∧ Met wr M met ∧ Below W.heap.size W wr) (fun iv _ => it.length - (RowKit.intOf iv).toNat)
       case atStart => exact ⟨0, [], rfl, Nat.zero_le _, by rw [List.drop_zero, List.drop_zero]; exact HR.out, rfl, hmet, hba⟩
       case round =>
        obtain ⟨j, met, rfl, hj, hm, hml, hmt, hB⟩ := hrel
        clear f0 f1 f2 f3 hmet hba hM
        by_cases hjn : (j : Int) < (it.length : Int)
        · obtain ⟨y, hy⟩ : ∃ y, it[j]? = some y := ⟨_, List.getElem?_eq_getElem (by omega)⟩
          obtain ⟨_, a, rfl, hjc⟩ := HI.out j y hy
          obtain ⟨g0, g1, g2, g3, _⟩ := hjc.below (HB.out _ hB)
          obtain ⟨Y, hY⟩ : ∃ Y : ByteArray, (⟨y.str.toArray⟩ : ByteArray) = Y := ⟨_, rfl⟩
          have hcall := fun W3 hb3 => HIH.out j y hy (HWT.out j y hy) W3 hb3
          unfold jval at hcall
          rw [hY] at g1
          simp only [hY] at hcall
          have hfl := fnd_le y
          obtain ⟨F, hF⟩ : ∃ F, y.fnd = F := ⟨_, rfl⟩
          simp only [hF] at hcall hfl
          obtain ⟨f0, f1, f2, f3⟩ := HBX.out wr hB
          obtain ⟨u, hu⟩ : ∃ u, ks[j]? = some u := ⟨_, List.getElem?_eq_getElem (by have := HKL.out; omega)⟩
          have hul := HKW.out u (List.mem_of_getElem? hu)
          have hjk : (j : Int) < (ks.length : Int) := by have := HKL.out; omega
          obtain ⟨U, hU⟩ : ∃ U : ByteArray, (⟨u.toArray⟩ : ByteArray) = U := ⟨_, rfl⟩
          have hUl : U.data.toList = u := by rw [← hU]
          have hUs : U.size ≤ 16777216 := by rw [← hU, arr_size]; omega
          rw [drop_cons hy, drop_cons hu, fndL] at hm
          simp only [List.headD_cons, List.tail_cons, true_and, hF] at hm
          have hBa := hB.alloc hB.size (.cells #[.int .i64 y.kind, .string Y, .slice (fp j) y.keys.length (fc j), .slice (gp j) y.items.length (gc j)] 25)
          obtain ⟨wa, hwa⟩ : ∃ wa, wr.alloc (.cells #[.int .i64 y.kind, .string Y, .slice (fp j) y.keys.length (fc j), .slice (gp j) y.items.length (gc j)] 25) = wa := ⟨_, rfl⟩
          rw [hwa] at hBa
          have hxb := box_cells (w := wr) (W := wa) (x := y) (kp := fp j) (kc := fc j) (ip := gp j) (ic := gc j) (by rw [hY]; exact hwa)
          rw [hY] at hxb
          obtain ⟨b, rfl, hkc, _⟩ := (HK.out.below (HB.out _ hBa)) j u hu
          rw [hU] at hkc
          obtain ⟨z0, z1, z2, z3⟩ := HBX.out _ hBa
          have hut := utf_any U wa (HT.out _ hBa) hUs
          rw [hUl] at hut
          have hMr := hmt.lt
          have haz : wr.heap.size < wa.heap.size := by rw [← hwa]; simp
          have hmta := hmt.below (w' := wa) (by rw [← hwa]; exact (Below.refl _ _).alloc (Nat.le_refl _) _)
          have HM := Lib.hid hm
          have HML := Lib.hid hml
          have HXB := Lib.hid hxb
          have HMTA := Lib.hid hmta
          have HCL := Lib.hid hcall
          have HUL := Lib.hid hUl
          clear hm hml hmt hxb hmta hF hY hy hu hU hUl hjc hcall
          cases hv : validD u with
          | false =>
           have hm := HM.out
           rw [if_pos hv] at hm
           subst hm
           rw [hv] at hut
           clear HR HM
           go_wp2_with (first | (go_at_call 198; refine hut.mono ?_; rintro e w2 ⟨rfl, hb2⟩))
           go_ret
           exact ⟨rfl, HBW.out.trans ((hBa.trans (hb2.mono hBa.size)).mono HBW.out.size)⟩
          | true =>
           have hm := HM.out
           rw [if_neg (by rw [hv]; simp)] at hm
           rw [hv] at hut
           clear HM
           go_upto_region 13 with (first | (go_at_call 198; refine hut.mono ?_; rintro e w2 ⟨rfl, hb2⟩))
           have hB2 := hBa.trans (hb2.mono hBa.size)
           have hmt2 := HMTA.out.below hb2
           have hlk := hmt2.look U (by unfold maxLen; omega)
           rw [HUL.out] at hlk
           have hM2 := hmt2.lt
           by_cases hmem : u ∈ met
           · rw [if_pos hmem] at hm hlk
             subst hm
             obtain ⟨w3, hput, hg, hlk2, _⟩ := hmt2.put U (by unfold maxLen; omega) (by have := HML.out; omega) 2
             have hB3 : Below W.heap.size W w3 := hB2.grown hg hB2.size (fun q hq => by cases hq; exact hMW)
             clear HR hg hmt2
             go_wp2_with fail
             go_ret
             exact ⟨rfl, HBW.out.trans (hB3.mono HBW.out.size)⟩
           · rw [if_neg hmem] at hm hlk
             obtain ⟨w3, hput, hg, hlk2, hmt3⟩ := hmt2.put U (by unfold maxLen; omega) (by have := HML.out; omega) 1
             have hmt3 := hmt3 rfl
             rw [HUL.out] at hmt3
             have hB3 : Below W.heap.size W w3 := hB2.grown hg hB2.size (fun q hq => by cases hq; exact hMW)
             obtain ⟨x0, x1, x2, x3⟩ := HXB.out w2 hb2
             have hcl3 : ∀ o, w3.cell? ⟨wr.heap.size, o, none⟩ = w2.cell? ⟨wr.heap.size, o, none⟩ := fun o => by
              have := hg.block wr.heap.size (by have := hb2.size; omega) (fun e => by have := Option.some.inj e; omega)
              simp only [World.cell?, this]
             have y0 := (hcl3 0).trans x0
             have y1 := (hcl3 1).trans x1
             have y2 := (hcl3 2).trans x2
             have y3 := (hcl3 3).trans x3
             have hc := HCL.out _ (HB.out _ hB3)
             obtain ⟨q0, q1, q2, q3⟩ := HBX.out _ hB3
             have HMT3 := Lib.hid hmt3
             clear hg hmt2 hmt3 x0 x1 x2 x3 hcl3 hmem
             by_cases e0 : F = 0
             · rw [if_pos e0] at hm
               subst e0
               simp only [Int.natCast_zero] at hc
               have HM := Lib.hid hm
               clear hm
               go_wp2_with (first | (go_at_call 147; refine hc.mono ?_; rintro e w4 ⟨rfl, hb4⟩))
               go_roundw
               case rel => exact ⟨j + 1, u :: met, by go_num, by omega, HM.out, by rw [List.length_cons, HML.out], HMT3.out.below hb4, hB3.trans (hb4.mono hB3.size)⟩
               case measure => simp [RowKit.intOf]; omega
             · rw [if_neg e0] at hm
               subst hm
               have n1 : ((F : Int) != 0) = true := by simp; omega
               have n2 : ((F : Int) == 0) = false := beq_eq_false_iff_ne.2 (by omega)
               clear HR e0
               go_wp2_with (first | (go_at_call 147; refine hc.mono ?_; rintro e w4 ⟨rfl, hb4⟩))
               go_ret
               exact ⟨rfl, HBW.out.trans ((hB3.trans (hb4.mono hB3.size)).mono HBW.out.size)⟩
        · have : j = it.length := by omega
          subst this
          rw [List.drop_length, fndL] at hm
          subst hm
          clear HR
          go_wp2_with fail
          go_ret
          exact ⟨rfl, HBW.out.trans (hB.mono HBW.out.size)⟩
     · have d6 : decide (k = 6) = false := decide_eq_false k6
       have n6 : (k == 6) = false := beq_eq_false_iff_ne.2 k6
       rw [d6]
       obtain ⟨R, hR⟩ : ∃ R, fndL false it ks [] = R := ⟨_, rfl⟩
       rw [hR]
       rw [fndL_false] at hR
       have HR := Lib.hid hR
       have hmm := @run_makeMap Tryz.prog
       have hway : ((k == 4) = true ∧ validD s = true) ∨ (k == 4) = false := by
        by_cases e : k = 4
        · refine .inl ⟨by simp [e], ?_⟩
          cases hv : validD s with
          | true => rfl
          | false => exact absurd ⟨e, hv⟩ k4
        · exact .inr (beq_eq_false_iff_ne.2 e)
       clear hR d6 k6 k4 hkl6
       go_enter Tryz.func147, Tryz.ntmps147
       rcases hway with ⟨w4, hv⟩ | w4
       · go_upto_region 5 with (first
          | (go_at_call 197; refine hs.mono ?_; rintro e w1 ⟨rfl, hb1⟩; have hut := HUT.out w1 (HT.out w1 hb1); rw [hv] at hut; obtain ⟨d0, d1, d2, d3⟩ := HBX.out w1 hb1)
          | (go_at_call 198; refine hut.mono ?_; rintro e w2 ⟨rfl, hb2⟩; have hbx := hb1.trans (hb2.mono hb1.size)))
         have hba := hbx.alloc hbx.size (.map #[] 0)
         obtain ⟨f0, f1, f2, f3⟩ := HBX.out _ hba
         go_wp2_with fail
         go_loopw [26] (fun iv wr => ∃ j : Nat, iv = .int .i64 j ∧ j ≤ it.length ∧ fndL false (it.drop j) [] [] = R ∧ Below W.heap.size W wr) (fun iv _ => it.length - (RowKit.intOf iv).toNat)
         case atStart => exact ⟨0, rfl, Nat.zero_le _, by rw [List.drop_zero]; exact HR.out, hba⟩
         case round =>
          obtain ⟨j, rfl, hj, hm, hB⟩ := hrel
          clear f0 f1 f2 f3
          by_cases hjn : (j : Int) < (it.length : Int)
          · obtain ⟨y, hy⟩ : ∃ y, it[j]? = some y := ⟨_, List.getElem?_eq_getElem (by omega)⟩
            obtain ⟨_, a, rfl, hjc⟩ := HI.out j y hy
            obtain ⟨g0, g1, g2, g3, _⟩ := hjc.below (HB.out _ hB)
            obtain ⟨Y, hY⟩ : ∃ Y : ByteArray, (⟨y.str.toArray⟩ : ByteArray) = Y := ⟨_, rfl⟩
            have hcall := fun W3 hb3 => HIH.out j y hy (HWT.out j y hy) W3 hb3
            unfold jval at hcall
            rw [hY] at g1
            simp only [hY] at hcall
            have hfl := fnd_le y
            obtain ⟨F, hF⟩ : ∃ F, y.fnd = F := ⟨_, rfl⟩
            simp only [hF] at hcall hfl
            obtain ⟨f0, f1, f2, f3⟩ := HBX.out wr hB
            rw [drop_cons hy, fndL] at hm
            simp only [Bool.false_eq_true, false_and, if_false, List.tail_nil, hF] at hm
            rw [fndL_false] at hm
            have hBa := hB.alloc hB.size (.cells #[.int .i64 y.kind, .string Y, .slice (fp j) y.keys.length (fc j), .slice (gp j) y.items.length (gc j)] 25)
            obtain ⟨z0, z1, z2, z3⟩ := HBX.out _ hBa
            have hc := hcall _ (HB.out _ hBa)
            by_cases e0 : F = 0
            · rw [if_pos e0] at hm
              subst e0
              simp only [Int.natCast_zero] at hc
              have HM := Lib.hid hm
              clear hm hF hY hy hjc hcall
              go_wp2_with (first | (go_at_call 147; refine hc.mono ?_; rintro e w3 ⟨rfl, hb3⟩))
              go_roundw
              case rel => exact ⟨j + 1, by go_num, by omega, HM.out, hBa.trans (hb3.mono hBa.size)⟩
              case measure => simp [RowKit.intOf]; omega
            · rw [if_neg e0] at hm
              subst hm
              have n1 : ((F : Int) != 0) = true := by simp; omega
              have n2 : ((F : Int) == 0) = false := beq_eq_false_iff_ne.2 (by omega)
              clear hF hY hy hjc hcall e0 HR
              go_wp2_with (first | (go_at_call 147; refine hc.mono ?_; rintro e w3 ⟨rfl, hb3⟩))
              go_ret
              exact ⟨rfl, HBW.out.trans ((hBa.trans (hb3.mono hBa.size)).mono HBW.out.size)⟩
          · have : j = it.length := by omega
            subst this
            rw [List.drop_length, fndL] at hm
            subst hm
            clear HR
            go_wp2_with fail
            go_ret
            exact ⟨rfl, HBW.out.trans (hB.mono HBW.out.size)⟩
       · go_upto_region 5 with (first
          | (go_at_call 197; refine hs.mono ?_; rintro e w1 ⟨rfl, hbx⟩; obtain ⟨d0, d1, d2, d3⟩ := HBX.out w1 hbx))
         have hba := hbx.alloc hbx.size (.map #[] 0)
         obtain ⟨f0, f1, f2, f3⟩ := HBX.out _ hba
         go_wp2_with fail
         go_loopw [26] (fun iv wr => ∃ j : Nat, iv = .int .i64 j ∧ j ≤ it.length ∧ fndL false (it.drop j) [] [] = R ∧ Below W.heap.size W wr) (fun iv _ => it.length - (RowKit.intOf iv).toNat)
         case atStart => exact ⟨0, rfl, Nat.zero_le _, by rw [List.drop_zero]; exact HR.out, hba⟩
         case round =>
          obtain ⟨j, rfl, hj, hm, hB⟩ := hrel
          clear f0 f1 f2 f3
          by_cases hjn : (j : Int) < (it.length : Int)
          · obtain ⟨y, hy⟩ : ∃ y, it[j]? = some y := ⟨_, List.getElem?_eq_getElem (by omega)⟩
            obtain ⟨_, a, rfl, hjc⟩ := HI.out j y hy
            obtain ⟨g0, g1, g2, g3, _⟩ := hjc.below (HB.out _ hB)
            obtain ⟨Y, hY⟩ : ∃ Y : ByteArray, (⟨y.str.toArray⟩ : ByteArray) = Y := ⟨_, rfl⟩
            have hcall := fun W3 hb3 => HIH.out j y hy (HWT.out j y hy) W3 hb3
            unfold jval at hcall
            rw [hY] at g1
            simp only [hY] at hcall
            have hfl := fnd_le y
            obtain ⟨F, hF⟩ : ∃ F, y.fnd = F := ⟨_, rfl⟩
            simp only [hF] at hcall hfl
            obtain ⟨f0, f1, f2, f3⟩ := HBX.out wr hB
            rw [drop_cons hy, fndL] at hm
            simp only [Bool.false_eq_true, false_and, if_false, List.tail_nil, hF] at hm
            rw [fndL_false] at hm
            have hBa := hB.alloc hB.size (.cells #[.int .i64 y.kind, .string Y, .slice (fp j) y.keys.length (fc j), .slice (gp j) y.items.length (gc j)] 25)
            obtain ⟨z0, z1, z2, z3⟩ := HBX.out _ hBa
            have hc := hcall _ (HB.out _ hBa)
            by_cases e0 : F = 0
            · rw [if_pos e0] at hm
              subst e0
              simp only [Int.natCast_zero] at hc
              have HM := Lib.hid hm
              clear hm hF hY hy hjc hcall
              go_wp2_with (first | (go_at_call 147; refine hc.mono ?_; rintro e w3 ⟨rfl, hb3⟩))
              go_roundw
              case rel => exact ⟨j + 1, by go_num, by omega, HM.out, hBa.trans (hb3.mono hBa.size)⟩
              case measure => simp [RowKit.intOf]; omega
            · rw [if_neg e0] at hm
              subst hm
              have n1 : ((F : Int) != 0) = true := by simp; omega
              have n2 : ((F : Int) == 0) = false := beq_eq_false_iff_ne.2 (by omega)
              clear hF hY hy hjc hcall e0 HR
              go_wp2_with (first | (go_at_call 147; refine hc.mono ?_; rintro e w3 ⟨rfl, hb3⟩))
              go_ret
              exact ⟨rfl, HBW.out.trans ((hBa.trans (hb3.mono hBa.size)).mono HBW.out.size)⟩
          · have : j = it.length := by omega
            subst this
            rw [List.drop_length, fndL] at hm
            subst hm
            clear HR
            go_wp2_with fail
            go_ret
            exact ⟨rfl, HBW.out.trans (hB.mono HBW.out.size)⟩
end Go.Proofs.Jt
/- VA3: Merged texts: V10, V11. -/
/- V10: Values of JSON in memory: Check; put. -/
namespace Go.Proofs.Jt
open Go.RowKit Go.Maps Go.Lib Go.Proofs.Utf Go.Proofs

set_option maxRecDepth 100000 in
set_option maxHeartbeats 1000000 in
theorem check_any {w : World} {x : JV} {kp ip : Option Addr} {kc ic : Nat} (hT : Tabs w) (h : KI w x kp kc ip ic) (hwt : x.wt ≤ 1000000) : ∀ w', Below w.heap.size w w' → Calls Tryz.prog 89 #[jval x kp kc ip ic] w' fun e w'' => e = .returned (.int .i64 (x.chk : Nat)) ∧ Below w'.heap.size w' w'' := by
 intro w' hb
 obtain ⟨W, hW⟩ : ∃ W, w'.alloc (.cells #[.int .i64 x.kind, .string ⟨x.str.toArray⟩, .slice kp x.keys.length kc, .slice ip x.items.length ic] 25) = W := ⟨_, rfl⟩
 have bW : Below w'.heap.size w' W := by rw [← hW]; exact (Below.refl _ _).alloc (Nat.le_refl _) _
 have hbx := box_cells hW
 obtain ⟨c0, c1, c2, c3⟩ := hbx W (Below.refl _ _)
 have hB : ∀ W', Below W.heap.size W W' → Below w.heap.size w W' := fun W' hb' => hb.trans ((bW.trans (hb'.mono bW.size)).mono hb.size)
 have hdp := depth_any h hwt W (hB W (Below.refl _ _))
 have hfd := fun W' hb' => found_any hT h hwt W' (hB W' hb')
 have hdw := dep_wt x
 obtain ⟨D, hD⟩ : ∃ D, x.dep = D := ⟨_, rfl⟩
 obtain ⟨F, hF⟩ : ∃ F, x.fnd = F := ⟨_, rfl⟩
 have hck : x.chk = if 64 < D then 3 else F := by unfold JV.chk; rw [hD, hF]
 rw [hck]
 simp only [hD] at hdp hdw
 simp only [hF] at hfd
 unfold jval at hdp hfd ⊢
 obtain ⟨S, hS⟩ : ∃ S : ByteArray, (⟨x.str.toArray⟩ : ByteArray) = S := ⟨_, rfl⟩
 simp only [hS] at hW hbx hdp hfd c1 ⊢
 have HBX := Lib.hid hbx
 have HFD := Lib.hid hfd
 have HBW := Lib.hid bW
 clear hbx hfd bW hB h hT hD hF hck hS hb
 by_cases h64 : 64 < D
 · rw [if_pos h64]
   have t : (64 : Int) < (D : Int) := by omega
   go_enter Tryz.func89, Tryz.ntmps89
   go_wp2_with (first | (go_at_call 146; refine hdp.mono ?_; rintro e w1 ⟨rfl, hb1⟩))
   go_ret
   exact ⟨rfl, HBW.out.trans (hb1.mono HBW.out.size)⟩
 · rw [if_neg h64]
   have t : ¬ (64 : Int) < (D : Int) := by omega
   go_enter Tryz.func89, Tryz.ntmps89
   go_wp2_with (first
    | (go_at_call 146; refine hdp.mono ?_; rintro e w1 ⟨rfl, hb1⟩; obtain ⟨d0, d1, d2, d3⟩ := HBX.out w1 hb1)
    | (go_at_call 147; refine (HFD.out w1 hb1).mono ?_; rintro e w2 ⟨rfl, hb2⟩; have hb3 := hb1.trans (hb2.mono hb1.size)))
   go_ret
   exact ⟨rfl, HBW.out.trans (hb3.mono HBW.out.size)⟩
end Go.Proofs.Jt
/- V11: Values of JSON in memory: the text is laid (put$1, put). -/
namespace Go.Proofs.Jt
open Go.RowKit Go.Maps Go.Lib Go.Proofs.Utf Go.Proofs

/-- a builder that holds these bytes -/
def BW (w : World) (B b : Nat) (l : List UInt8) : Prop := Lib.IsBuilderF 201 5 B b (Lib.byteCells l) w
theorem BW.below {w w' : World} {B b : Nat} {l : List UInt8} (h : BW w B b l) (hb : Below w.heap.size w w') : BW w' B b l := by
 have key : ∀ p, Lib.BuilderAtF 201 5 B b p (Lib.byteCells l) w → Lib.BuilderAtF 201 5 B b p (Lib.byteCells l) w' := fun p hh => by
  have hlt := hh.lt
  obtain ⟨h1, v, h2, h3, h4⟩ := hh
  exact ⟨h1, v, (hb.block b hlt).trans h2, h3.kept (gb_below' hb) (by cases hv : v.ownBlock <;> simp), h4⟩
 rcases h with h | h
 · exact .inl (key _ h)
 · exact .inr (key _ h)
theorem BW.lt {w : World} {B b : Nat} {l : List UInt8} (h : BW w B b l) : B ≤ b ∧ b < w.heap.size := by
 rcases h with h | h
 · exact ⟨h.1, h.lt⟩
 · exact ⟨h.1, h.lt⟩
abbrev OK5 (b : Nat) (w w' : World) : Prop := Lib.OthersKept 5 (some b) w w'
theorem ok5_below {b : Nat} {w w' : World} (hb : Below w.heap.size w w') : OK5 b w w' := fun k _ h _ _ => (hb.block k (ltS h)).trans h
theorem bw_str {w : World} {B b : Nat} (l : List UInt8) (s : ByteArray) (h : BW w B b l) (hl : l.length + s.size ≤ 140737488355328) :
 Calls Tryz.prog 170 #[.pointer (some ⟨b, 0, none⟩), .string s] w fun e w' => e = .returned (.tuple #[.int .i64 s.size, .nilIface]) ∧ BW w' B b (l ++ s.data.toList) ∧ Below B w w' ∧ OK5 b w w' :=
 (Tryz.Builder_WriteString_k B b _ s w h (by rw [Lib.byteCells_length]; exact hl) (by have := h.lt; omega)).mono fun e w' ⟨h1, h2, h3, h4⟩ => ⟨h1, .inr (by rw [Lib.byteCells_append]; exact h2), h3, h4⟩
theorem bw_byte {w : World} {B b : Nat} (l : List UInt8) (c : UInt8) (h : BW w B b l) (hl : l.length + 1 ≤ 140737488355328) :
 Calls Tryz.prog 182 #[.pointer (some ⟨b, 0, none⟩), .int .u8 (c.toNat : Int)] w fun e w' => e = .returned .nilIface ∧ BW w' B b (l ++ [c]) ∧ Below B w w' ∧ OK5 b w w' :=
 (Tryz.Builder_WriteByte_k B b _ (c.toNat : Int) w h (by rw [Lib.byteCells_length]; exact hl) (by have := h.lt; omega)).mono fun e w' ⟨h1, h2, h3, h4⟩ => ⟨h1, .inr (by rw [Lib.byteCells_append]; exact h2), h3, h4⟩
set_option maxRecDepth 100000 in
set_option maxHeartbeats 1000000 in
theorem put1_any (s : ByteArray) (w : World) (hT : Tabs w) (hs : s.size ≤ 1000000) (hv : validD s.data.toList = true) (B b q : Nat) (l : List UInt8) (hW : BW w B b l) (hl : l.length ≤ 20000000) (hq : w.cell? ⟨q, 0, none⟩ = some (.pointer (some ⟨b, 0, none⟩))) (hqz : q < w.heap.size) :
 Calls Tryz.prog 185 #[.string s, .pointer (some ⟨q, 0, none⟩)] w fun e w' => e = .returned (.tuple #[]) ∧ BW w' B b (l ++ quoteL s.data.toList) ∧ Below B w w' ∧ OK5 b w w' := by
 have hqt := quote_walk s w hT (by omega) hv
 have hlen := quote_len s.data.toList
 rw [← Lib.size_eq] at hlen
 have hBb := hW.lt
 obtain ⟨Q, hQ⟩ : ∃ Q : ByteArray, (⟨(quoteL s.data.toList).toArray⟩ : ByteArray) = Q := ⟨_, rfl⟩
 have hQl : Q.data.toList = quoteL s.data.toList := by rw [← hQ]
 have hQs : Q.size = (quoteL s.data.toList).length := by rw [← hQ, arr_size]
 rw [hQ] at hqt
 rw [← hQl]
 have hw := fun w1 (hb : Below w.heap.size w w1) => bw_str (w := w1) l Q (hW.below hb) (by omega)
 have HW := Lib.hid hw
 clear hw hW hQ hQl hT hv
 go_enter Tryz.func185, Tryz.ntmps185
 go_wp2_with (first
  | (go_at_call 128; refine hqt.mono ?_; rintro e w1 ⟨rfl, hb1⟩; have hq1 := (hb1.cell (p := ⟨q, 0, none⟩) hqz).trans hq)
  | (go_at_call 170; refine (HW.out w1 hb1).mono ?_; rintro e w2 ⟨rfl, h2, h3, h4⟩))
 go_end0
 exact ⟨rfl, h2, (hb1.mono (by omega)).trans h3, (ok5_below hb1).trans h4⟩
end Go.Proofs.Jt
