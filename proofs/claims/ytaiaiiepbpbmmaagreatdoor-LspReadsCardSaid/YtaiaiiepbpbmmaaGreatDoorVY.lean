/- Merged texts: V12, V13, VE. -/
import Derived.Test.YtaiaiiepbpbmmaaGreatDoorVX
/- V12: Values of JSON in memory: the text is laid (put); Put. -/
namespace Go.Proofs.Jt
open Go.RowKit Go.Maps Go.Lib Go.Proofs.Utf Go.Proofs

theorem cell_blk {w : World} {b o : Nat} {x : Value} (h : w.cell? ⟨b, o, none⟩ = some x) : b < w.heap.size := by
 by_cases hb : b < w.heap.size
 · exact hb
 · exfalso
   have : w.heap[b]? = none := Array.getElem?_eq_none (by omega)
   simp [World.cell?, this] at h
end Go.Proofs.Jt
/- V13: Values of JSON in memory: Put; equal. -/
namespace Go.Proofs.Jt
open Go.RowKit Go.Maps Go.Lib Go.Proofs.Utf Go.Proofs

theorem str_eq_iff {a b : List UInt8} {A B : ByteArray} (hA : (⟨a.toArray⟩ : ByteArray) = A) (hB : (⟨b.toArray⟩ : ByteArray) = B) : a = b ↔ A = B := by
 rw [← hA, ← hB]
 constructor
 · intro h; rw [h]
 · intro h
   have := congrArg (fun x : ByteArray => x.data.toList) h
   exact this
theorem str_ne {A B : ByteArray} (h : ¬ A = B) : ¬ A.toList = B.toList ∧ (A.toList == B.toList) = false ∧ (A.toList != B.toList) = true := by
 have h1 : ¬ A.toList = B.toList := fun e => h (by
  rw [ByteArray.toList_eq, ByteArray.toList_eq] at e
  exact ByteArray.ext (Array.toList_inj.1 e))
 have h2 : (A.toList == B.toList) = false := beq_eq_false_iff_ne.2 h1
 exact ⟨h1, h2, by simp [bne, h2]⟩
theorem str_same (A : ByteArray) : (A.toList == A.toList) = true ∧ (A.toList != A.toList) = false := by simp
theorem eqV_mk (k k' : Int) (s s' : List UInt8) (ks ks' : List (List UInt8)) (it it' : List JV) : eqV (.mk k s ks it) (.mk k' s' ks' it') = (decide (k = k') && decide (s = s') && decide (ks = ks') && eqL it it') := by rw [eqV]
theorem eqL_len : ∀ (a b : List JV), a.length ≠ b.length → eqL a b = false
 | [], [], h => absurd rfl h
 | [], y :: u, _ => by simp [eqL]
 | x :: t, [], _ => by simp [eqL]
 | x :: t, y :: u, h => by
  rw [eqL, eqL_len t u (by simpa using h), Bool.and_false]
set_option maxRecDepth 100000 in
set_option maxHeartbeats 8000000 in
theorem equal_any {w : World} {x : JV} {kp ip : Option Addr} {kc ic : Nat} (h : KI w x kp kc ip ic) : ∀ (y : JV) (kp' ip' : Option Addr) (kc' ic' : Nat), KI w y kp' kc' ip' ic' → ∀ w', Below w.heap.size w w' → Calls Tryz.prog 24 #[jval x kp kc ip ic, jval y kp' kc' ip' ic'] w' fun e w'' => e = .returned (.bool (eqV x y)) ∧ Below w'.heap.size w' w'' := by
 induction h with
 | mk x kp kc ip ic fp fc gp gc hk hz hi hh ih =>
  intro y kp' ip' kc' ic' h' w' hb
  cases h' with
  | mk _ _ _ _ _ fp' fc' gp' gc' hk' hz' hi' hh' =>
  obtain ⟨W1, hW1⟩ : ∃ W, w'.alloc (.cells #[.int .i64 x.kind, .string ⟨x.str.toArray⟩, .slice kp x.keys.length kc, .slice ip x.items.length ic] 25) = W := ⟨_, rfl⟩
  obtain ⟨W, hW⟩ : ∃ W, W1.alloc (.cells #[.int .i64 y.kind, .string ⟨y.str.toArray⟩, .slice kp' y.keys.length kc', .slice ip' y.items.length ic'] 25) = W := ⟨_, rfl⟩
  have bW1 : Below w'.heap.size w' W1 := by rw [← hW1]; exact (Below.refl _ _).alloc (Nat.le_refl _) _
  have bW2 : Below W1.heap.size W1 W := by rw [← hW]; exact (Below.refl _ _).alloc (Nat.le_refl _) _
  have bW : Below w'.heap.size w' W := bW1.trans (bW2.mono bW1.size)
  have hz1 : W1.heap.size = w'.heap.size + 1 := by rw [← hW1]; simp
  have hbx0 := box_cells hW1
  have hbx : ∀ V, Below W.heap.size W V → _ := fun V hV => hbx0 V (bW2.trans (hV.mono bW2.size))
  have hby := box_cells hW
  rw [hz1] at hby
  cases x with
  | mk k s ks it =>
  cases y with
  | mk k' s' ks' it' =>
  unfold jval
  simp only [kind_mk, str_mk, keys_mk, items_mk] at *
  obtain ⟨S, hS⟩ : ∃ S : ByteArray, (⟨s.toArray⟩ : ByteArray) = S := ⟨_, rfl⟩
  obtain ⟨S', hS'⟩ : ∃ S : ByteArray, (⟨s'.toArray⟩ : ByteArray) = S := ⟨_, rfl⟩
  have hss := str_eq_iff hS hS'
  simp only [hS] at hW1 hbx
  simp only [hS'] at hW hby
  rw [hS, hS', eqV_mk]
  have hzz : it.length ≤ maxLen ∧ ks.length ≤ maxLen := ⟨hz.1, hz.2.1⟩
  unfold maxLen at hzz
  obtain ⟨hil, hkl⟩ := hzz
  subst hW1
  obtain ⟨c0, c1, c2, c3⟩ := hbx W (Below.refl _ _)
  obtain ⟨e0, e1, e2, e3⟩ := hby W (Below.refl _ _)
  have HBX : Hid (∀ V, Below W.heap.size W V → _) := Lib.hid hbx
  have HBY := Lib.hid hby
  have HBW := Lib.hid bW
  have HB : Hid (∀ W', Below W.heap.size W W' → Below w.heap.size w W') := Lib.hid fun W' hb' => hb.trans ((bW.trans (hb'.mono bW.size)).mono hb.size)
  have HI := Lib.hid hi
  have HI' := Lib.hid hi'
  have HH' := Lib.hid hh'
  have HIH := Lib.hid ih
  have HK := Lib.hid hk
  have HK' := Lib.hid hk'
  clear hbx0 hbx hby bW1 bW2 bW hb hi hi' hh hh' ih hk hk' hz hz' hS hS' hz1
  by_cases hkk : k = k'
  · by_cases hs2 : s = s'
    · by_cases hli : it.length = it'.length
      · by_cases hlk : ks.length = ks'.length
        · rw [decide_eq_true hkk, decide_eq_true hs2, Bool.true_and, Bool.true_and]
          obtain rfl := hss.1 hs2
          subst hkk
          obtain ⟨t1, t2⟩ := str_same S
          have q1 : (k == k) = true := by simp
          have q2 : (k != k) = false := by simp
          have z1 : ((it.length : Int) != (it'.length : Int)) = false := by rw [hli]; simp
          have z2 : ((it.length : Int) == (it'.length : Int)) = true := by rw [hli]; simp
          have u1 : ((ks.length : Int) != (ks'.length : Int)) = false := by rw [hlk]; simp
          have u2 : ((ks.length : Int) == (ks'.length : Int)) = true := by rw [hlk]; simp
          have HLI := Lib.hid hli
          have HLK := Lib.hid hlk
          clear hss hs2 hli hlk
          obtain ⟨R, hR⟩ : ∃ R, (decide (ks = ks') && eqL it it') = R := ⟨_, rfl⟩
          rw [hR]
          have HR := Lib.hid hR
          clear hR
          go_enter Tryz.func24, Tryz.ntmps24
          go_wp2_with fail
          clear t1 t2 q1 q2 z1 z2 u1 u2
          go_loopw [5] (fun iv wr => ∃ j : Nat, iv = .int .i64 j ∧ j ≤ ks.length ∧ (∀ i, i < j → ks[i]? = ks'[i]?) ∧ Below W.heap.size W wr) (fun iv _ => ks.length - (RowKit.intOf iv).toNat)
          case atStart => exact ⟨0, rfl, Nat.zero_le _, fun i hi => by omega, Below.refl _ _⟩
          case round =>
           obtain ⟨j, rfl, hj, hs, hB⟩ := hrel
           have HS := Lib.hid hs
           clear c0 c1 c2 c3 e0 e1 e2 e3 hs
           obtain ⟨c0, c1, c2, c3⟩ := HBX.out wr hB
           obtain ⟨e0, e1, e2, e3⟩ := HBY.out wr hB
           by_cases hjn : (j : Int) < (ks.length : Int)
           · obtain ⟨u, hu⟩ : ∃ u, ks[j]? = some u := ⟨_, List.getElem?_eq_getElem (by omega)⟩
             obtain ⟨u', hu'⟩ : ∃ u, ks'[j]? = some u := ⟨_, List.getElem?_eq_getElem (by have := HLK.out; omega)⟩
             have hjn' : (j : Int) < (ks'.length : Int) := by have := HLK.out; omega
             obtain ⟨a, rfl, ha, _⟩ := (HK.out.below (HB.out _ hB)) j u hu
             obtain ⟨a', rfl, ha', _⟩ := (HK'.out.below (HB.out _ hB)) j u' hu'
             obtain ⟨U, hU⟩ : ∃ S : ByteArray, (⟨u.toArray⟩ : ByteArray) = S := ⟨_, rfl⟩
             obtain ⟨U', hU'⟩ : ∃ S : ByteArray, (⟨u'.toArray⟩ : ByteArray) = S := ⟨_, rfl⟩
             have huu := str_eq_iff hU hU'
             rw [hU] at ha
             rw [hU'] at ha'
             have hBq := fun n => below_draws hB n
             by_cases he : u = u'
             · obtain rfl := huu.1 he
               obtain ⟨t1, t2⟩ := str_same U
               have HE : Hid (ks[j]? = ks'[j]?) := Lib.hid (by rw [hu, hu', he])
               clear hu hu' hU hU' huu he
               go_wp2_with fail
               go_quiet (fail)
               go_wp2_with fail
               go_roundw
               case rel => exact ⟨j + 1, by go_num, by omega, fun i hi => by
                by_cases e : i = j
                · subst e; exact HE.out
                · exact HS.out i (by omega), hBq _⟩
               case measure => simp [RowKit.intOf]; omega
             · obtain ⟨t1, t2, t3⟩ := str_ne (fun e => he (huu.2 e))
               have hRf : R = false := by
                rw [← HR.out, decide_eq_false (show ¬ ks = ks' from fun e => he (Option.some.inj (hu.symm.trans (by rw [e]; exact hu')))), Bool.false_and]
               subst hRf
               clear hu hu' hU hU' huu he
               go_wp2_with fail
               go_quiet (fail)
               go_wp2_with fail
               go_ret
               exact ⟨rfl, HBW.out.trans ((hBq _).mono HBW.out.size)⟩
           · have hkeq : ks = ks' := List.ext_getElem? fun i => by
              by_cases hi : i < j
              · exact HS.out i hi
              · rw [List.getElem?_eq_none (by omega), List.getElem?_eq_none (by have := HLK.out; omega)]
             have hR2 : eqL it it' = R := by rw [← HR.out, decide_eq_true hkeq, Bool.true_and]
             have HR2 := Lib.hid hR2
             clear hkeq hR2 HR HS
             go_wp2_with fail
             go_loopw [6] (fun iv wx => ∃ i : Nat, iv = .int .i64 i ∧ i ≤ it.length ∧ eqL (it.drop i) (it'.drop i) = R ∧ Below W.heap.size W wx) (fun iv _ => it.length - (RowKit.intOf iv).toNat)
             case atStart => exact ⟨0, rfl, Nat.zero_le _, by rw [List.drop_zero, List.drop_zero]; exact HR2.out, hB⟩
             case round =>
              obtain ⟨i, rfl, hi, hm, hB2⟩ := hrel
              clear c0 c1 c2 c3 e0 e1 e2 e3
              obtain ⟨c0, c1, c2, c3⟩ := HBX.out wr hB2
              obtain ⟨e0, e1, e2, e3⟩ := HBY.out wr hB2
              by_cases hin : (i : Int) < (it.length : Int)
              · have hin' : (i : Int) < (it'.length : Int) := by have := HLI.out; omega
                obtain ⟨y, hy⟩ : ∃ y, it[i]? = some y := ⟨_, List.getElem?_eq_getElem (by omega)⟩
                obtain ⟨y', hy'⟩ : ∃ y, it'[i]? = some y := ⟨_, List.getElem?_eq_getElem (by omega)⟩
                obtain ⟨_, a, rfl, hjc⟩ := HI.out i y hy
                obtain ⟨_, a', rfl, hjc'⟩ := HI'.out i y' hy'
                have hBd := HB.out _ hB2.drew
                have hcall := HIH.out i y hy y' _ _ _ _ (HH'.out i y' hy') _ hBd
                obtain ⟨g0, g1, g2, g3, _⟩ := hjc.below hBd
                obtain ⟨g0', g1', g2', g3', _⟩ := hjc'.below hBd
                obtain ⟨h0, h1, h2, h3, _⟩ := hjc.below (HB.out _ hB2)
                obtain ⟨h0', h1', h2', h3', _⟩ := hjc'.below (HB.out _ hB2)
                obtain ⟨Y, hY⟩ : ∃ Y : ByteArray, (⟨y.str.toArray⟩ : ByteArray) = Y := ⟨_, rfl⟩
                obtain ⟨Y', hY'⟩ : ∃ Y : ByteArray, (⟨y'.str.toArray⟩ : ByteArray) = Y := ⟨_, rfl⟩
                unfold jval at hcall
                rw [hY] at g1 h1
                rw [hY'] at g1' h1'
                simp only [hY, hY'] at hcall
                rw [drop_cons hy, drop_cons hy', eqL] at hm
                obtain ⟨E, hE⟩ : ∃ E, eqV y y' = E := ⟨_, rfl⟩
                rw [hE] at hm
                simp only [hE] at hcall
                have hB2d := hB2.drew
                have HM := Lib.hid hm
                clear hE hY hY' hy hy' hjc hjc' hm HR2
                go_wp2_with fail
                go_still_tail 10, (by kernel_rfl)
                change wpList _ _ _ _ _ wr.drew
                clear c0 c1 c2 c3 e0 e1 e2 e3 h0 h1 h2 h3 h0' h1' h2' h3'
                generalize wr.drew = wd at *
                cases E with
                | true =>
                 go_wp2_with (first | (go_at_call 24; refine hcall.mono ?_; rintro e w3 ⟨rfl, hb3⟩))
                 go_roundw
                 case rel => exact ⟨i + 1, by go_num, by omega, by rw [← HM.out, Bool.true_and], hB2d.trans (hb3.mono hB2d.size)⟩
                 case measure => simp [RowKit.intOf]; omega
                | false =>
                 have hm := HM.out
                 rw [Bool.false_and] at hm
                 subst hm
                 clear HM
                 go_wp2_with (first | (go_at_call 24; refine hcall.mono ?_; rintro e w3 ⟨rfl, hb3⟩))
                 go_ret
                 exact ⟨rfl, HBW.out.trans ((hB2d.trans (hb3.mono hB2d.size)).mono HBW.out.size)⟩
              · have hii : i = it.length := by omega
                subst hii
                rw [List.drop_length, List.drop_eq_nil_iff.2 (by have := HLI.out; omega), eqL] at hm
                subst hm
                clear HR2
                go_wp2_with fail
                go_ret
                exact ⟨rfl, HBW.out.trans (hB2.mono HBW.out.size)⟩
        · rw [decide_eq_false (show ¬ ks = ks' from fun e => hlk (by rw [e])), Bool.and_false, Bool.false_and]
          obtain rfl := hss.1 hs2
          subst hkk
          obtain ⟨t1, t2⟩ := str_same S
          have q1 : (k == k) = true := by simp
          have q2 : (k != k) = false := by simp
          obtain ⟨n1, hn1⟩ : ∃ n, it.length = n := ⟨_, rfl⟩
          have u1 : ((ks.length : Int) != (ks'.length : Int)) = true := by simp; omega
          have u2 : ((ks.length : Int) == (ks'.length : Int)) = false := beq_eq_false_iff_ne.2 (by omega)
          have HL := Lib.hid hli
          have z1 : ((it.length : Int) != (it'.length : Int)) = false := by rw [hli]; simp
          have z2 : ((it.length : Int) == (it'.length : Int)) = true := by rw [hli]; simp
          clear hss hs2 hli hlk hn1
          go_enter Tryz.func24, Tryz.ntmps24
          go_wp2_with fail
          go_ret
          exact ⟨rfl, HBW.out⟩
      · rw [eqL_len it it' hli, Bool.and_false]
        obtain rfl := hss.1 hs2
        subst hkk
        obtain ⟨t1, t2⟩ := str_same S
        have q1 : (k == k) = true := by simp
        have q2 : (k != k) = false := by simp
        have u1 : ((it.length : Int) != (it'.length : Int)) = true := by simp; omega
        have u2 : ((it.length : Int) == (it'.length : Int)) = false := beq_eq_false_iff_ne.2 (by omega)
        clear hss hs2 hli
        go_enter Tryz.func24, Tryz.ntmps24
        go_wp2_with fail
        go_ret
        exact ⟨rfl, HBW.out⟩
    · rw [decide_eq_false hs2, Bool.and_false, Bool.false_and, Bool.false_and]
      obtain ⟨t1, t2, t3⟩ := str_ne (fun e => hs2 (hss.2 e))
      subst hkk
      have q1 : (k == k) = true := by simp
      have q2 : (k != k) = false := by simp
      clear hss hs2
      go_enter Tryz.func24, Tryz.ntmps24
      go_wp2_with fail
      go_ret
      exact ⟨rfl, HBW.out⟩
  · rw [decide_eq_false hkk, Bool.false_and, Bool.false_and, Bool.false_and]
    have q1 : (k == k') = false := beq_eq_false_iff_ne.2 hkk
    have q2 : (k != k') = true := by simp [hkk]
    clear hss hkk
    go_enter Tryz.func24, Tryz.ntmps24
    go_wp2_with fail
    go_ret
    exact ⟨rfl, HBW.out⟩
end Go.Proofs.Jt
/- VE: Merged texts: V26, V28. -/
/- V26: Values of JSON, plain: which are the same; a key's item. No program in sight. -/
namespace Go.Proofs.Jt
open Go.Lib Go.Proofs.Utf

theorem jv_wt_pos (x : JV) : 1 ≤ x.wt := by
 cases x; rw [JV.wt]; omega
theorem wt_items {x : JV} {i : Nat} {y : JV} (h : x.items[i]? = some y) : y.wt < x.wt := by
 cases x with
 | mk k s ks it =>
  have := wt_item (show it[i]? = some y from h)
  rw [JV.wt]
  omega
end Go.Proofs.Jt
/- V28: JsonOrder, plain: an object with its keys in another order. No program in sight. -/
namespace Go.Proofs.Jt
open Go.Lib Go.Proofs.Utf

section
variable {ks : List (List UInt8)} {it : List JV} (t : Nat) (h : (JV.mk 6 [] ks it).chk = 0) (h0 : 0 < ks.length)
include h h0
end
/-- what a key has -/
def fieldV (x : JV) (key : List UInt8) : Option JV := if x.kind = 6 ∧ key ∈ x.keys then x.items[x.keys.idxOf key]? else none
section
variable {ks : List (List UInt8)} {it : List JV} (t : Nat) (h : (JV.mk 6 [] ks it).chk = 0) (h0 : 0 < ks.length)
include h h0
end
end Go.Proofs.Jt
