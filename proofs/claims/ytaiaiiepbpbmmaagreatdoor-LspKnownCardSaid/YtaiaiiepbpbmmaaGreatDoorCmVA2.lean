/- Merged texts: V6, V7, V8. -/
import Derived.Test.YtaiaiiepbpbmmaaGreatDoorCmVA
import Derived.Test.YtaiaiiepbpbmmaaGreatDoorCmKJ
import Derived.RangeFuncRecord
import Derived.Test.YtaiaiiepbpbmmaaGreatDoorCmJZ
/- V6: Values of JSON in memory; how many values and bytes (Size, few); depth. -/
namespace Go.Proofs.Jt
open Go.RowKit Go.Maps Go.Lib Go.Proofs.Utf Go.Proofs

theorem kind_mk (k : Int) (s : List UInt8) (ks : List (List UInt8)) (it : List JV) : (JV.mk k s ks it).kind = k := rfl
theorem str_mk (k : Int) (s : List UInt8) (ks : List (List UInt8)) (it : List JV) : (JV.mk k s ks it).str = s := rfl
theorem keys_mk (k : Int) (s : List UInt8) (ks : List (List UInt8)) (it : List JV) : (JV.mk k s ks it).keys = ks := rfl
theorem items_mk (k : Int) (s : List UInt8) (ks : List (List UInt8)) (it : List JV) : (JV.mk k s ks it).items = it := rfl
theorem cast_max (a b : Nat) : ((max a b : Nat) : Int) = max (a : Int) (b : Int) := by omega
/-- a row of strings -/
def StrsP (w : World) (p : Option Addr) (l : List (List UInt8)) : Prop := ∀ (i : Nat) (s : List UInt8), l[i]? = some s → ∃ a, p = some a ∧ w.cell? (a.add i) = some (.string ⟨s.toArray⟩) ∧ a.block < w.heap.size
/-- the cells of a value at a place -/
structure JC (w : World) (p : Addr) (y : JV) (kp : Option Addr) (kc : Nat) (ip : Option Addr) (ic : Nat) : Prop where
 c0 : w.cell? p = some (.int .i64 y.kind)
 c1 : w.cell? ⟨p.block, p.off + 1, none⟩ = some (.string ⟨y.str.toArray⟩)
 c2 : w.cell? ⟨p.block, p.off + 2, none⟩ = some (.slice kp y.keys.length kc)
 c3 : w.cell? ⟨p.block, p.off + 3, none⟩ = some (.slice ip y.items.length ic)
 blk : p.block < w.heap.size
/-- what a value's slices hold -/
inductive KI (w : World) : JV → Option Addr → Nat → Option Addr → Nat → Prop
 | mk (x : JV) (kp : Option Addr) (kc : Nat) (ip : Option Addr) (ic : Nat) (fp : Nat → Option Addr) (fc : Nat → Nat) (gp : Nat → Option Addr) (gc : Nat → Nat)
  (hk : StrsP w kp x.keys) (hz : x.items.length ≤ maxLen ∧ x.keys.length ≤ maxLen ∧ ∀ s ∈ x.keys, s.length ≤ maxLen)
  (hi : ∀ (i : Nat) (y : JV), x.items[i]? = some y → y.str.length ≤ maxLen ∧ ∃ a, ip = some a ∧ JC w (a.add (i * 4)) y (fp i) (fc i) (gp i) (gc i))
  (h : ∀ (i : Nat) (y : JV), x.items[i]? = some y → KI w y (fp i) (fc i) (gp i) (gc i)) : KI w x kp kc ip ic
def jval (x : JV) (kp : Option Addr) (kc : Nat) (ip : Option Addr) (ic : Nat) : Value := .agg #[.int .i64 x.kind, .string ⟨x.str.toArray⟩, .slice kp x.keys.length kc, .slice ip x.items.length ic]
theorem add_blk (a : Addr) (i : Nat) : (a.add i).block = a.block := by unfold Addr.add; split <;> rfl
theorem StrsP.below {w w' : World} {p : Option Addr} {l : List (List UInt8)} (h : StrsP w p l) (hb : Below w.heap.size w w') : StrsP w' p l := fun i s hs => by
 obtain ⟨a, h1, h2, h3⟩ := h i s hs
 exact ⟨a, h1, (hb.cell (p := a.add i) (by rw [add_blk]; exact h3)).trans h2, Nat.lt_of_lt_of_le h3 hb.size⟩
theorem JC.below {w w' : World} {p : Addr} {y : JV} {kp ip : Option Addr} {kc ic : Nat} (h : JC w p y kp kc ip ic) (hb : Below w.heap.size w w') : JC w' p y kp kc ip ic :=
 ⟨(hb.cell h.blk).trans h.c0, (hb.cell (by exact h.blk)).trans h.c1, (hb.cell (by exact h.blk)).trans h.c2, (hb.cell (by exact h.blk)).trans h.c3, Nat.lt_of_lt_of_le h.blk hb.size⟩
theorem KI.stay {w w' : World} {x : JV} {kp ip : Option Addr} {kc ic : Nat} (h : KI w x kp kc ip ic) (hb : Below w.heap.size w w') : KI w' x kp kc ip ic := by
 induction h with
 | mk x kp kc ip ic fp fc gp gc hk hz hi _ ih =>
  exact .mk x kp kc ip ic fp fc gp gc (hk.below hb) hz (fun i y hy => by
   obtain ⟨h1, a, h2, h3⟩ := hi i y hy
   exact ⟨h1, a, h2, h3.below hb⟩) ih
/-- an argument that is a value -/
def JArg (w : World) (v : Value) (x : JV) : Prop := ∃ kp kc ip ic, v = jval x kp kc ip ic ∧ KI w x kp kc ip ic ∧ x.str.length ≤ maxLen
theorem JArg.below {w w' : World} {v : Value} {x : JV} (h : JArg w v x) (hb : Below w.heap.size w w') : JArg w' v x := by
 obtain ⟨kp, kc, ip, ic, h1, h2, h3⟩ := h
 exact ⟨kp, kc, ip, ic, h1, h2.stay hb, h3⟩
/-- Size, by a list -/
def szK : List (List UInt8) → Int → Int
 | [], l => l
 | k :: t, l => if 0 < l then szK t (l - 1 - k.length) else l
mutual
def JV.sz : JV → Int → Int | .mk _ s ks it, l => szL it (szK ks (l - 1 - s.length))
def szL : List JV → Int → Int
 | [], l => l
 | x :: t, l => if 0 < l then szL t (x.sz l) else l
end
mutual
theorem dep_wt : ∀ x : JV, x.dep ≤ x.wt
 | .mk k s ks it => by
  have := depL_wt it
  rw [JV.dep, JV.wt]
  split <;> omega
theorem depL_wt : ∀ l : List JV, depL l ≤ wtL l
 | [] => Nat.le_refl _
 | x :: t => by
  have h1 := dep_wt x
  have h2 := depL_wt t
  rw [depL, wtL]
  omega
end
theorem wt_item {l : List JV} {i : Nat} {y : JV} (h : l[i]? = some y) : y.wt ≤ wtL l := by
 induction l generalizing i with
 | nil => cases h
 | cons x t ih =>
  rw [wtL]
  cases i with
  | zero => obtain rfl := Option.some.inj h; omega
  | succ i => have := ih (i := i) (by simpa using h); omega
theorem drop_cons {α : Type} {l : List α} {i : Nat} {y : α} (h : l[i]? = some y) : l.drop i = y :: l.drop (i + 1) := by
 obtain ⟨h1, h2⟩ := List.getElem?_eq_some_iff.1 h
 rw [List.drop_eq_getElem_cons h1, h2]
/-- the box of a value -/
theorem box_cells {w W : World} {x : JV} {kp ip : Option Addr} {kc ic : Nat} (hW : w.alloc (.cells #[.int .i64 x.kind, .string ⟨x.str.toArray⟩, .slice kp x.keys.length kc, .slice ip x.items.length ic] 25) = W) : ∀ W', Below W.heap.size W W' → W'.cell? ⟨w.heap.size, 0, none⟩ = some (.int .i64 x.kind) ∧ W'.cell? ⟨w.heap.size, 1, none⟩ = some (.string ⟨x.str.toArray⟩) ∧ W'.cell? ⟨w.heap.size, 2, none⟩ = some (.slice kp x.keys.length kc) ∧ W'.cell? ⟨w.heap.size, 3, none⟩ = some (.slice ip x.items.length ic) := fun W' hb => by
 have h1 : W.heap[w.heap.size]? = some (.cells #[.int .i64 x.kind, .string ⟨x.str.toArray⟩, .slice kp x.keys.length kc, .slice ip x.items.length ic] 25) := by rw [← hW]; exact World.alloc_heap_new w _
 have h2 := (hb.block _ (ltS h1)).trans h1
 refine ⟨?_, ?_, ?_, ?_⟩ <;> simp [World.cell?, h2]
set_option maxRecDepth 100000 in
set_option maxHeartbeats 2000000 in
theorem depth_any {w : World} {x : JV} {kp ip : Option Addr} {kc ic : Nat} (h : KI w x kp kc ip ic) : x.wt ≤ 1000000 → ∀ w', Below w.heap.size w w' → Calls Tryz.prog 146 #[jval x kp kc ip ic] w' fun e w'' => e = .returned (.int .i64 (x.dep : Nat)) ∧ Below w'.heap.size w' w'' := by
 induction h with
 | mk x kp kc ip ic fp fc gp gc hk hz hi hh ih =>
  intro hwt w' hb
  obtain ⟨W, hW⟩ : ∃ W, w'.alloc (.cells #[.int .i64 x.kind, .string ⟨x.str.toArray⟩, .slice kp x.keys.length kc, .slice ip x.items.length ic] 25) = W := ⟨_, rfl⟩
  have bW : Below w'.heap.size w' W := by rw [← hW]; exact (Below.refl _ _).alloc (Nat.le_refl _) _
  have hbx := box_cells hW
  obtain ⟨c0, c1, c2, c3⟩ := hbx W (Below.refl _ _)
  cases x with
  | mk k s ks it =>
  simp only [kind_mk, str_mk, keys_mk, items_mk] at *
  obtain ⟨S, hS⟩ : ∃ S : ByteArray, (⟨s.toArray⟩ : ByteArray) = S := ⟨_, rfl⟩
  rw [hS] at hW c1
  have hdep : (JV.mk k s ks it).dep = if k = 5 ∨ k = 6 then depL it + 1 else 0 := by rw [JV.dep]
  have hwl : wtL it ≤ 1000000 := by rw [JV.wt] at hwt; omega
  have hdl := depL_wt it
  have hil := hz.1
  unfold maxLen at hil
  by_cases h56 : k = 5 ∨ k = 6
  · rw [hdep, if_pos h56]
    obtain ⟨D, hD⟩ : ∃ D, depL it = D := ⟨_, rfl⟩
    rw [hD] at hdl ⊢
    have hD6 : D ≤ 1000000 := by omega
    have HD := Lib.hid hD
    have HI := Lib.hid hi
    have HIH := Lib.hid ih
    have HWT : Hid (∀ (i : Nat) (y : JV), it[i]? = some y → y.wt ≤ 1000000) := Lib.hid fun i y hy => by have := wt_item hy; omega
    have HB : Hid (∀ W', Below W.heap.size W W' → Below w.heap.size w W') := Lib.hid fun W' hb' => hb.trans ((bW.trans (hb'.mono bW.size)).mono hb.size)
    have HBW := Lib.hid bW
    clear hi ih hh hD hwt hk hz hbx hdep hwl bW hb
    unfold jval
    simp only [kind_mk, str_mk, keys_mk, items_mk]
    rw [hS]
    have k5 : (k == 5) = true ∨ ((k == 5) = false ∧ (k == 6) = true) := by
     rcases h56 with rfl | rfl
     · exact .inl rfl
     · exact .inr ⟨rfl, rfl⟩
    have k5' : (k != 5) = false ∨ ((k != 5) = true ∧ (k != 6) = false) := by
     rcases h56 with rfl | rfl
     · exact .inl rfl
     · exact .inr ⟨rfl, rfl⟩
    clear k5 hS
    rcases k5' with n5 | ⟨n5, n6⟩
    all_goals
     clear h56
     go_enter Tryz.func146, Tryz.ntmps146
     go_wp2_with fail
     go_loopw [3, 17] (fun mv iv wr => ∃ (j m : Nat), iv = .int .i64 j ∧ j ≤ it.length ∧ mv = .int .i64 m ∧ max m (depL (it.drop j)) = D ∧ Below W.heap.size W wr) (fun _ iv _ => it.length - (RowKit.intOf iv).toNat)
     case atStart => exact ⟨0, 0, rfl, Nat.zero_le _, rfl, by rw [List.drop_zero, HD.out]; omega, Below.refl _ _⟩
     case round =>
      obtain ⟨j, m, rfl, hj, rfl, hm, hB⟩ := hrel
      have hmD : m ≤ D := by omega
      by_cases hjn : (j : Int) < (it.length : Int)
      · obtain ⟨y, hy⟩ : ∃ y, it[j]? = some y := ⟨_, List.getElem?_eq_getElem (by omega)⟩
        obtain ⟨_, a, rfl, hjc⟩ := HI.out j y hy
        have hjc2 := hjc.below (HB.out _ hB)
        obtain ⟨d0, d1, d2, d3, _⟩ := hjc2
        obtain ⟨Y, hY⟩ : ∃ Y : ByteArray, (⟨y.str.toArray⟩ : ByteArray) = Y := ⟨_, rfl⟩
        have hcall := fun W3 hb3 => HIH.out j y hy (HWT.out j y hy) W3 hb3
        unfold jval at hcall
        rw [hY] at d1
        simp only [hY] at hcall
        have hdy := dep_wt y
        have hwy := HWT.out j y hy
        rw [drop_cons hy, depL] at hm
        obtain ⟨dy, hdyy⟩ : ∃ d, y.dep = d := ⟨_, rfl⟩
        simp only [hdyy] at hcall hm hdy
        have HCL := Lib.hid hcall
        have HM := Lib.hid hm
        have hBa := HB.out _ (hB.alloc hB.size (.cells #[.int .i64 y.kind, .string Y, .slice (fp j) y.keys.length (fc j), .slice (gp j) y.items.length (gc j)] 25))
        clear hcall hm hdyy hY hy hjc
        go_wp2_with (first | (go_at_call 146; refine (HCL.out _ hBa).mono ?_; rintro e w3 ⟨rfl, hb3⟩))
        go_roundw
        case rel => exact ⟨j + 1, max m dy, by go_num, by omega, by first | rfl | (rw [cast_max]), by have := HM.out; omega, (hB.alloc hB.size _).trans (hb3.mono (by have := hB.size; simp; omega))⟩
        case measure => simp [RowKit.intOf]; omega
      · go_wp2_with fail
        go_ret
        have : j = it.length := by omega
        subst this
        rw [List.drop_length, depL] at hm
        have : m = D := by omega
        subst this
        exact ⟨rfl, HBW.out.trans (hB.mono HBW.out.size)⟩
  · rw [hdep, if_neg h56]
    have HBW := Lib.hid bW
    have n5 : (k != 5) = true := by simp; omega
    have n6 : (k != 6) = true := by simp; omega
    unfold jval
    simp only [kind_mk, str_mk, keys_mk, items_mk]
    rw [hS]
    clear hi ih hh hwt hk hz hbx hdep hwl bW hb hS h56
    go_enter Tryz.func146, Tryz.ntmps146
    go_wp2_with fail
    go_ret
    exact ⟨rfl, HBW.out⟩
end Go.Proofs.Jt
/- V7: Values of JSON in memory: Size, few. -/
namespace Go.Proofs.Jt
open Go.RowKit Go.Maps Go.Lib Go.Proofs.Utf Go.Proofs

theorem arr_size (s : List UInt8) : (⟨s.toArray⟩ : ByteArray).size = s.length := by simp [ByteArray.size]
end Go.Proofs.Jt
/- V8: Values of JSON in memory: utf, number, shaped. -/
namespace Go.Proofs.Jt
open Go.RowKit Go.Maps Go.Lib Go.Proofs.Utf Go.Proofs

theorem utf_any (s : ByteArray) (w : World) (hT : Tabs w) (hs : s.size ≤ 16777216) : Calls Tryz.prog 198 #[.string s] w fun e w' => e = .returned (.bool (validD s.data.toList)) ∧ Below w.heap.size w w' := by
 have hq := quote_any s w hT hs
 cases hv : validD s.data.toList with
 | true =>
  rw [hv] at hq
  simp only [if_true] at hq
  generalize (⟨(quoteL s.data.toList).toArray⟩ : ByteArray) = Q at hq
  go_enter Tryz.func198, Tryz.ntmps198
  go_wp2_with (first | (go_at_call 128; refine hq.mono ?_; rintro e w1 ⟨rfl, hb⟩))
  go_ret
  exact ⟨rfl, hb⟩
 | false =>
  rw [hv] at hq
  simp only [Bool.false_eq_true, if_false] at hq
  go_enter Tryz.func198, Tryz.ntmps198
  go_wp2_with (first | (go_at_call 128; refine hq.mono ?_; rintro e w1 ⟨rfl, hb⟩))
  go_ret
  exact ⟨rfl, hb⟩
theorem Lx.text_le {l : List UInt8} {a : Nat} {U : List Tok} (h : Lx l a U) : ∀ t T, U = t :: T → t.text.length ≤ t.to_ - t.fr := by
 induction h with
 | nil a => intro t T e; cases e
 | blank _ _ ih => exact ih
 | tok h h1 _ _ =>
  intro t T e
  cases e
  have := next_len h1
  simp only
  omega
theorem num_toks (l : List UInt8) : numB l = true ↔ (toksL l).2.2 = 0 ∧ ∃ t, (toksL l).1 = [t] ∧ t.kind = 3 ∧ t.text = l := by
 constructor
 · intro h
   have hn := numB_next h
   have h1 : LK (l ++ []) [(3, l)] := LK.tok (by rw [List.append_nil]; exact hn) LK.nil
   rw [List.append_nil] at h1
   obtain ⟨T, h2, h3⟩ := h1.toks (num_valid h)
   rw [h2]
   refine ⟨rfl, ?_⟩
   match T, h3 with
   | [], h3 => cases h3
   | _ :: _ :: _, h3 => simp [kt] at h3
   | [t], h3 =>
    unfold kt at h3
    simp only [List.map_cons, List.map_nil, List.cons.injEq, Prod.mk.injEq, and_true] at h3
    exact ⟨t, rfl, h3.1, h3.2⟩
 · rintro ⟨h0, t, h1, h2, h3⟩
   obtain ⟨_, hx⟩ := toks_lx h0
   rw [h1] at hx
   have hle := hx.text_le t [] rfl
   cases hx with
   | blank hb hx2 =>
    rename_i c r
    have h4 := hx2.cons
    have h5 := hx2.text_le t [] rfl
    rw [h3, List.length_cons] at h5
    omega
   | tok hb hn hx2 =>
    rename_i c r k x m
    simp only at h2 h3
    subst h2 h3
    have h4 := next_len hn
    have h5 := nextL_le _ _ hn
    simp only at h5
    unfold numB
    refine decide_eq_true ?_
    rw [hn]
    congr 3
    omega
theorem toks_shape {w : World} {B e n z : Nat} {v : Value} {xs : List Value} (h : w.ownsRow B e z v n xs) : ∃ (p : Option Addr) (c : Nat), v = .slice p n c := by
 rcases h.2 with ⟨rfl, h0⟩ | ⟨g, cap, cur, h1, _⟩
 · exact ⟨none, 0, by rw [h0]⟩
 · exact ⟨_, _, h1⟩
theorem keys_len : ∀ ks : List (List UInt8), ks.length ≤ keysW ks
 | [] => Nat.le_refl _
 | k :: t => by have := keys_len t; rw [keysW, List.length_cons]; omega
theorem wt_pos : ∀ x : JV, 1 ≤ x.wt
 | .mk k s ks it => by rw [JV.wt]; omega
theorem items_len : ∀ l : List JV, l.length ≤ wtL l
 | [] => Nat.le_refl _
 | x :: t => by have := items_len t; have := wt_pos x; rw [wtL, List.length_cons]; omega
set_option maxRecDepth 100000 in
set_option maxHeartbeats 1000000 in
theorem number_any (s : ByteArray) (w : World) (hT : Tabs w) (hs : s.size ≤ 16777216) : Calls Tryz.prog 232 #[.string s] w fun e w' => e = .returned (.bool (numB s.data.toList)) ∧ Below w.heap.size w w' := by
 have hc := tokens_any s w hT hs
 have hn := num_toks s.data.toList
 obtain ⟨T, hTT⟩ : ∃ T, (toksL s.data.toList).1 = T := ⟨_, rfl⟩
 obtain ⟨E, hE⟩ : ∃ E, (toksL s.data.toList).2.2 = E := ⟨_, rfl⟩
 obtain ⟨P, hP⟩ : ∃ P, (toksL s.data.toList).2.1 = P := ⟨_, rfl⟩
 rw [hTT, hE, hP] at hc
 rw [hTT, hE] at hn
 obtain ⟨R, hR⟩ : ∃ R, numB s.data.toList = R := ⟨_, rfl⟩
 rw [hR] at hn ⊢
 clear hR hTT hE hP
 by_cases e0 : E = 0
 · have he : ((E : Int) == 0) = true := by simp [e0]
   by_cases e1 : T.length = 1
   · obtain ⟨t, rfl⟩ : ∃ t, T = [t] := by
      match T, e1 with
      | [t], _ => exact ⟨t, rfl⟩
     have hl : (([t] : List Tok).length : Int) = 1 := rfl
     obtain ⟨X, hX⟩ : ∃ X : ByteArray, (⟨t.text.toArray⟩ : ByteArray) = X := ⟨_, rfl⟩
     have hXs : (t.text = s.data.toList) ↔ X = s := by
      rw [← hX]
      constructor
      · intro h; rw [h]
      · intro h; rw [← h]
     by_cases e2 : t.kind = 3
     · have hk : ((t.kind : Int) == 3) = true := by simp [e2]
       by_cases e3 : X = s
       · obtain rfl : R = true := hn.2 ⟨e0, t, rfl, e2, hXs.2 e3⟩
         have hss : (s.toList == s.toList) = true := by simp
         clear hn e0 e1 e2 hXs
         go_enter Tryz.func232, Tryz.ntmps232
         go_wp2_with (first | (go_at_call 110; refine hc.mono ?_; rintro e w2 ⟨v, rfl, ho, hb2⟩; obtain ⟨g, cap, rfl, hcap, hcell⟩ := toks_at ho (by simp); obtain ⟨a0, a1, a2, a3, _⟩ := hcell 0 t rfl; clear hcell; rw [hX, e3] at a1))
         go_ret
         exact ⟨rfl, hb2⟩
       · have hRf : R = false := by
          cases R with
          | false => rfl
          | true =>
           obtain ⟨_, t', h1, _, h2⟩ := hn.1 rfl
           cases h1
           exact absurd (hXs.1 h2) e3
         subst hRf
         have hne : ¬ X.toList = s.toList := fun h => e3 (by
          rw [ByteArray.toList_eq, ByteArray.toList_eq] at h
          apply ByteArray.ext
          apply Array.toList_inj.1
          exact h)
         have hne2 : (X.toList == s.toList) = false := beq_eq_false_iff_ne.2 hne
         clear hn e0 e1 e2 hXs
         go_enter Tryz.func232, Tryz.ntmps232
         go_wp2_with (first | (go_at_call 110; refine hc.mono ?_; rintro e w2 ⟨v, rfl, ho, hb2⟩; obtain ⟨g, cap, rfl, hcap, hcell⟩ := toks_at ho (by simp); obtain ⟨a0, a1, a2, a3, _⟩ := hcell 0 t rfl; clear hcell; rw [hX] at a1))
         go_ret
         exact ⟨rfl, hb2⟩
     · have hRf : R = false := by
        cases R with
        | false => rfl
        | true =>
         obtain ⟨_, t', h1, h2, _⟩ := hn.1 rfl
         cases h1
         exact absurd h2 e2
       subst hRf
       have hk : ((t.kind : Int) == 3) = false := beq_eq_false_iff_ne.2 (by omega)
       clear hn e0 e1 e2 hXs
       go_enter Tryz.func232, Tryz.ntmps232
       go_wp2_with (first | (go_at_call 110; refine hc.mono ?_; rintro e w2 ⟨v, rfl, ho, hb2⟩; obtain ⟨g, cap, rfl, hcap, hcell⟩ := toks_at ho (by simp); obtain ⟨a0, a1, a2, a3, _⟩ := hcell 0 t rfl; clear hcell))
       go_ret
       exact ⟨rfl, hb2⟩
   · have hRf : R = false := by
      cases R with
      | false => rfl
      | true =>
       obtain ⟨_, t', h1, _⟩ := hn.1 rfl
       rw [h1] at e1
       exact absurd rfl e1
     subst hRf
     have hl : ((T.length : Int) == 1) = false := beq_eq_false_iff_ne.2 (by omega)
     clear hn e0 e1
     go_enter Tryz.func232, Tryz.ntmps232
     go_wp2_with (first | (go_at_call 110; refine hc.mono ?_; rintro e w2 ⟨v, rfl, ho, hb2⟩; obtain ⟨p, c, rfl⟩ := toks_shape ho))
     go_ret
     exact ⟨rfl, hb2⟩
 · have hRf : R = false := by
    cases R with
    | false => rfl
    | true => exact absurd (hn.1 rfl).1 e0
   subst hRf
   have he : ((E : Int) == 0) = false := beq_eq_false_iff_ne.2 (by omega)
   clear hn e0
   go_enter Tryz.func232, Tryz.ntmps232
   go_wp2_with (first | (go_at_call 110; refine hc.mono ?_; rintro e w2 ⟨v, rfl, ho, hb2⟩; obtain ⟨p, c, rfl⟩ := toks_shape ho))
   go_ret
   exact ⟨rfl, hb2⟩
set_option maxRecDepth 100000 in
set_option maxHeartbeats 4000000 in
theorem shaped_any {w : World} {x : JV} {kp ip : Option Addr} {kc ic : Nat} (hw : x.wt ≤ 1000000) (hT : Tabs w) : Calls Tryz.prog 197 #[jval x kp kc ip ic] w fun e w' => e = .returned (.bool x.shaped) ∧ Below w.heap.size w w' := by
 obtain ⟨W, hW⟩ : ∃ W, w.alloc (.cells #[.int .i64 x.kind, .string ⟨x.str.toArray⟩, .slice kp x.keys.length kc, .slice ip x.items.length ic] 25) = W := ⟨_, rfl⟩
 have bW : Below w.heap.size w W := by rw [← hW]; exact (Below.refl _ _).alloc (Nat.le_refl _) _
 have hbx := box_cells hW
 cases x with
 | mk k s ks it =>
 simp only [kind_mk, str_mk, keys_mk, items_mk] at *
 rw [JV.wt] at hw
 have hkl : ks.length ≤ 1000000 := by have := keys_len ks; omega
 have hil : it.length ≤ 1000000 := by have := items_len it; omega
 have hsh : (JV.mk k s ks it).shaped = if k = 0 ∨ k = 1 ∨ k = 2 then decide (s = []) && ((ks.length : Int) + (it.length : Int) == 0) else if k = 3 then ((ks.length : Int) + (it.length : Int) == 0) && numB s else if k = 4 then ((ks.length : Int) + (it.length : Int) == 0) else if k = 5 then decide (s = []) && ((ks.length : Int) == 0) else if k = 6 then decide (s = []) && ((ks.length : Int) == (it.length : Int)) else false := by
  have e1 : (ks.isEmpty && it.isEmpty) = ((ks.length : Int) + (it.length : Int) == 0) := by
   rw [Bool.eq_iff_iff]
   simp [← List.length_eq_zero_iff]
   omega
  have e2 : ks.isEmpty = ((ks.length : Int) == 0) := by
   rw [Bool.eq_iff_iff]
   simp [← List.length_eq_zero_iff]
  have e3 : (ks.length == it.length) = ((ks.length : Int) == (it.length : Int)) := by
   rw [Bool.eq_iff_iff]
   simp
   omega
  rw [JV.shaped, Bool.and_assoc, e1, e2, e3]
 rw [hsh]
 obtain ⟨S, hS⟩ : ∃ S : ByteArray, (⟨s.toArray⟩ : ByteArray) = S := ⟨_, rfl⟩
 have hSl : S.data.toList = s := by rw [← hS]
 have hSz : S.size ≤ 16777216 := by rw [← hS, arr_size]; omega
 have hnum := fun w hT => number_any S w hT hSz
 rw [hSl] at hnum
 simp only [hS] at hW hbx
 obtain ⟨c0, c1, c2, c3⟩ := hbx W (Below.refl _ _)
 obtain ⟨b2, hb2⟩ : ∃ b, ((ks.length : Int) + (it.length : Int) == 0) = b := ⟨_, rfl⟩
 have HBX := Lib.hid hbx
 have HBW := Lib.hid bW
 have HT := Lib.hid hT
 have HNUM := Lib.hid hnum
 have hse : (s = [] ∧ S = ⟨#[]⟩) ∨ (¬ s = [] ∧ ¬ S.toList = [] ∧ S.toList.isEmpty = false) := by
  by_cases e : s = []
  · exact .inl ⟨e, by rw [← hS, e]⟩
  · refine .inr ⟨e, ?_, ?_⟩
    · rw [ByteArray.toList_eq, hSl]; exact e
    · rw [ByteArray.toList_eq, hSl]; cases s with | nil => exact absurd rfl e | cons _ _ => rfl
 unfold jval
 simp only [kind_mk, str_mk, keys_mk, items_mk]
 rw [hS]
 clear hsh bW hnum hT hbx hw hS hSl hSz
 -- WAYS
 rcases (show k = 0 ∨ k = 1 ∨ k = 2 ∨ k = 3 ∨ k = 4 ∨ k = 5 ∨ k = 6 ∨ (¬ k = 0 ∧ ¬ k = 1 ∧ ¬ k = 2 ∧ ¬ k = 3 ∧ ¬ k = 4 ∧ ¬ k = 5 ∧ ¬ k = 6) by omega) with rfl | rfl | rfl | rfl | rfl | rfl | rfl | ⟨k0, k1, k2, k3, k4, k5, k6⟩
 · rw [if_pos (by decide)]
   rcases hse with ⟨e, rfl⟩ | ⟨e, h1, h2⟩
   · rw [decide_eq_true e, Bool.true_and]
     clear e
     rw [hb2]
     go_enter Tryz.func197, Tryz.ntmps197
     go_wp2_with fail
     go_quiet (fail)
     have bq := below_drewN W nq
     obtain ⟨c0, c1, c2, c3⟩ := HBX.out _ bq
     generalize W.drewN nq = V at *
     go_wp2_with fail
     go_ret
     exact ⟨rfl, HBW.out.trans (bq.mono HBW.out.size)⟩
   · rw [decide_eq_false e, Bool.false_and]
     clear e
     go_enter Tryz.func197, Tryz.ntmps197
     go_wp2_with fail
     go_quiet (fail)
     have bq := below_drewN W nq
     obtain ⟨c0, c1, c2, c3⟩ := HBX.out _ bq
     generalize W.drewN nq = V at *
     go_wp2_with fail
     go_ret
     exact ⟨rfl, HBW.out.trans (bq.mono HBW.out.size)⟩
 · rw [if_pos (by decide)]
   rcases hse with ⟨e, rfl⟩ | ⟨e, h1, h2⟩
   · rw [decide_eq_true e, Bool.true_and]
     clear e
     rw [hb2]
     go_enter Tryz.func197, Tryz.ntmps197
     go_wp2_with fail
     go_quiet (fail)
     have bq := below_drewN W nq
     obtain ⟨c0, c1, c2, c3⟩ := HBX.out _ bq
     generalize W.drewN nq = V at *
     go_wp2_with fail
     go_ret
     exact ⟨rfl, HBW.out.trans (bq.mono HBW.out.size)⟩
   · rw [decide_eq_false e, Bool.false_and]
     clear e
     go_enter Tryz.func197, Tryz.ntmps197
     go_wp2_with fail
     go_quiet (fail)
     have bq := below_drewN W nq
     obtain ⟨c0, c1, c2, c3⟩ := HBX.out _ bq
     generalize W.drewN nq = V at *
     go_wp2_with fail
     go_ret
     exact ⟨rfl, HBW.out.trans (bq.mono HBW.out.size)⟩
 · rw [if_pos (by decide)]
   rcases hse with ⟨e, rfl⟩ | ⟨e, h1, h2⟩
   · rw [decide_eq_true e, Bool.true_and]
     clear e
     rw [hb2]
     go_enter Tryz.func197, Tryz.ntmps197
     go_wp2_with fail
     go_quiet (fail)
     have bq := below_drewN W nq
     obtain ⟨c0, c1, c2, c3⟩ := HBX.out _ bq
     generalize W.drewN nq = V at *
     go_wp2_with fail
     go_ret
     exact ⟨rfl, HBW.out.trans (bq.mono HBW.out.size)⟩
   · rw [decide_eq_false e, Bool.false_and]
     clear e
     go_enter Tryz.func197, Tryz.ntmps197
     go_wp2_with fail
     go_quiet (fail)
     have bq := below_drewN W nq
     obtain ⟨c0, c1, c2, c3⟩ := HBX.out _ bq
     generalize W.drewN nq = V at *
     go_wp2_with fail
     go_ret
     exact ⟨rfl, HBW.out.trans (bq.mono HBW.out.size)⟩
 · rw [if_neg (by decide), if_pos rfl, hb2]
   cases b2 with
   | true =>
    rw [Bool.true_and]
    go_enter Tryz.func197, Tryz.ntmps197
    go_wp2_with fail
    go_quiet (fail)
    have bq := below_drewN W nq
    obtain ⟨c0, c1, c2, c3⟩ := HBX.out _ bq
    generalize W.drewN nq = V at *
    go_wp2_with (first | (go_at_call 232; refine (HNUM.out _ (HT.out.below (HBW.out.trans (bq.mono HBW.out.size)))).mono ?_; rintro e w3 ⟨rfl, hb3⟩))
    go_ret
    exact ⟨rfl, HBW.out.trans ((bq.trans (hb3.mono bq.size)).mono HBW.out.size)⟩
   | false =>
    rw [Bool.false_and]
    go_enter Tryz.func197, Tryz.ntmps197
    go_wp2_with fail
    go_quiet (fail)
    have bq := below_drewN W nq
    obtain ⟨c0, c1, c2, c3⟩ := HBX.out _ bq
    generalize W.drewN nq = V at *
    go_wp2_with fail
    go_ret
    exact ⟨rfl, HBW.out.trans (bq.mono HBW.out.size)⟩
 · rw [if_neg (by decide), if_neg (by decide), if_pos rfl, hb2]
   go_enter Tryz.func197, Tryz.ntmps197
   go_wp2_with fail
   go_quiet (fail)
   have bq := below_drewN W nq
   obtain ⟨c0, c1, c2, c3⟩ := HBX.out _ bq
   generalize W.drewN nq = V at *
   go_wp2_with fail
   go_ret
   exact ⟨rfl, HBW.out.trans (bq.mono HBW.out.size)⟩
 · rw [if_neg (by decide), if_neg (by decide), if_neg (by decide), if_pos rfl]
   rcases hse with ⟨e, rfl⟩ | ⟨e, h1, h2⟩
   · rw [decide_eq_true e, Bool.true_and]
     clear e
     go_enter Tryz.func197, Tryz.ntmps197
     go_wp2_with fail
     go_quiet (fail)
     have bq := below_drewN W nq
     obtain ⟨c0, c1, c2, c3⟩ := HBX.out _ bq
     generalize W.drewN nq = V at *
     go_wp2_with fail
     go_ret
     exact ⟨rfl, HBW.out.trans (bq.mono HBW.out.size)⟩
   · rw [decide_eq_false e, Bool.false_and]
     clear e
     go_enter Tryz.func197, Tryz.ntmps197
     go_wp2_with fail
     go_quiet (fail)
     have bq := below_drewN W nq
     obtain ⟨c0, c1, c2, c3⟩ := HBX.out _ bq
     generalize W.drewN nq = V at *
     go_wp2_with fail
     go_ret
     exact ⟨rfl, HBW.out.trans (bq.mono HBW.out.size)⟩
 · rw [if_neg (by decide), if_neg (by decide), if_neg (by decide), if_neg (by decide), if_pos rfl]
   rcases hse with ⟨e, rfl⟩ | ⟨e, h1, h2⟩
   · rw [decide_eq_true e, Bool.true_and]
     clear e
     go_enter Tryz.func197, Tryz.ntmps197
     go_wp2_with fail
     go_quiet (fail)
     have bq := below_drewN W nq
     obtain ⟨c0, c1, c2, c3⟩ := HBX.out _ bq
     generalize W.drewN nq = V at *
     go_wp2_with fail
     go_ret
     exact ⟨rfl, HBW.out.trans (bq.mono HBW.out.size)⟩
   · rw [decide_eq_false e, Bool.false_and]
     clear e
     go_enter Tryz.func197, Tryz.ntmps197
     go_wp2_with fail
     go_quiet (fail)
     have bq := below_drewN W nq
     obtain ⟨c0, c1, c2, c3⟩ := HBX.out _ bq
     generalize W.drewN nq = V at *
     go_wp2_with fail
     go_ret
     exact ⟨rfl, HBW.out.trans (bq.mono HBW.out.size)⟩
 · rw [if_neg (by omega), if_neg k3, if_neg k4, if_neg k5, if_neg k6]
   have z0 : (k == 0) = false := beq_eq_false_iff_ne.2 k0
   have z1 : (k == 1) = false := beq_eq_false_iff_ne.2 k1
   have z2 : (k == 2) = false := beq_eq_false_iff_ne.2 k2
   have z3 : (k == 3) = false := beq_eq_false_iff_ne.2 k3
   have z4 : (k == 4) = false := beq_eq_false_iff_ne.2 k4
   have z5 : (k == 5) = false := beq_eq_false_iff_ne.2 k5
   have z6 : (k == 6) = false := beq_eq_false_iff_ne.2 k6
   go_enter Tryz.func197, Tryz.ntmps197
   go_wp2_with fail
   go_quiet (fail)
   have bq := below_drewN W nq
   obtain ⟨c0, c1, c2, c3⟩ := HBX.out _ bq
   generalize W.drewN nq = V at *
   go_wp2_with fail
   go_ret
   exact ⟨rfl, HBW.out.trans (bq.mono HBW.out.size)⟩
end Go.Proofs.Jt
