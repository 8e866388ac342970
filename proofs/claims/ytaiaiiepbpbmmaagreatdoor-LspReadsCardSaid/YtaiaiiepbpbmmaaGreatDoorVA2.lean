/- Merged texts: V6, V7, V8. -/
import Derived.Test.YtaiaiiepbpbmmaaGreatDoorVA
import Derived.Test.YtaiaiiepbpbmmaaGreatDoorKJ
import Derived.RangeFuncRecord
import Derived.Test.YtaiaiiepbpbmmaaGreatDoorJZ
/- V6: Values of JSON in memory; how many values and bytes (Size, few); depth. -/
namespace Go.Proofs.Jt
open Go.RowKit Go.Maps Go.Lib Go.Proofs.Utf Go.Proofs

theorem kind_mk (k : Int) (s : List UInt8) (ks : List (List UInt8)) (it : List JV) : (JV.mk k s ks it).kind = k := rfl
theorem str_mk (k : Int) (s : List UInt8) (ks : List (List UInt8)) (it : List JV) : (JV.mk k s ks it).str = s := rfl
theorem keys_mk (k : Int) (s : List UInt8) (ks : List (List UInt8)) (it : List JV) : (JV.mk k s ks it).keys = ks := rfl
theorem items_mk (k : Int) (s : List UInt8) (ks : List (List UInt8)) (it : List JV) : (JV.mk k s ks it).items = it := rfl
/-- a row of strings -/
def StrsP (w : World) (p : Option Addr) (l : List (List UInt8)) : Prop := ∀ (i : Nat) (s : List UInt8), l[i]? = some s → ∃ a, p = some a ∧ w.cell? (a.add i) = some (.string ⟨s.toArray⟩) ∧ a.block < w.heap.size
/-- the cells of a value at a place -/
structure JC (w : World) (p : Addr) (y : JV) (kp : Option Addr) (kc : Nat) (ip : Option Addr) (ic : Nat) : Prop where
 c0 : w.cell? p = some (.int .i64 y.kind)
 c1 : w.cell? ⟨p.block, p.off + 1, none⟩ = some (.string ⟨y.str.toArray⟩)
 c2 : w.cell? ⟨p.block, p.off + 2, none⟩ = some (.slice kp y.keys.length kc)
 c3 : w.cell? ⟨p.block, p.off + 3, none⟩ = some (.slice ip y.items.length ic)
 blk : p.block < w.heap.size
/-- what a value's slices hold -/
inductive KI (w : World) : JV → Option Addr → Nat → Option Addr → Nat → Prop
 | mk (x : JV) (kp : Option Addr) (kc : Nat) (ip : Option Addr) (ic : Nat) (fp : Nat → Option Addr) (fc : Nat → Nat) (gp : Nat → Option Addr) (gc : Nat → Nat)
  (hk : StrsP w kp x.keys) (hz : x.items.length ≤ maxLen ∧ x.keys.length ≤ maxLen ∧ ∀ s ∈ x.keys, s.length ≤ maxLen)
  (hi : ∀ (i : Nat) (y : JV), x.items[i]? = some y → y.str.length ≤ maxLen ∧ ∃ a, ip = some a ∧ JC w (a.add (i * 4)) y (fp i) (fc i) (gp i) (gc i))
  (h : ∀ (i : Nat) (y : JV), x.items[i]? = some y → KI w y (fp i) (fc i) (gp i) (gc i)) : KI w x kp kc ip ic
def jval (x : JV) (kp : Option Addr) (kc : Nat) (ip : Option Addr) (ic : Nat) : Value := .agg #[.int .i64 x.kind, .string ⟨x.str.toArray⟩, .slice kp x.keys.length kc, .slice ip x.items.length ic]
theorem add_blk (a : Addr) (i : Nat) : (a.add i).block = a.block := by unfold Addr.add; split <;> rfl
theorem StrsP.below {w w' : World} {p : Option Addr} {l : List (List UInt8)} (h : StrsP w p l) (hb : Below w.heap.size w w') : StrsP w' p l := fun i s hs => by
 obtain ⟨a, h1, h2, h3⟩ := h i s hs
 exact ⟨a, h1, (hb.cell (p := a.add i) (by rw [add_blk]; exact h3)).trans h2, Nat.lt_of_lt_of_le h3 hb.size⟩
theorem JC.below {w w' : World} {p : Addr} {y : JV} {kp ip : Option Addr} {kc ic : Nat} (h : JC w p y kp kc ip ic) (hb : Below w.heap.size w w') : JC w' p y kp kc ip ic :=
 ⟨(hb.cell h.blk).trans h.c0, (hb.cell (by exact h.blk)).trans h.c1, (hb.cell (by exact h.blk)).trans h.c2, (hb.cell (by exact h.blk)).trans h.c3, Nat.lt_of_lt_of_le h.blk hb.size⟩
theorem KI.stay {w w' : World} {x : JV} {kp ip : Option Addr} {kc ic : Nat} (h : KI w x kp kc ip ic) (hb : Below w.heap.size w w') : KI w' x kp kc ip ic := by
 induction h with
 | mk x kp kc ip ic fp fc gp gc hk hz hi _ ih =>
  exact .mk x kp kc ip ic fp fc gp gc (hk.below hb) hz (fun i y hy => by
   obtain ⟨h1, a, h2, h3⟩ := hi i y hy
   exact ⟨h1, a, h2, h3.below hb⟩) ih
/-- an argument that is a value -/
def JArg (w : World) (v : Value) (x : JV) : Prop := ∃ kp kc ip ic, v = jval x kp kc ip ic ∧ KI w x kp kc ip ic ∧ x.str.length ≤ maxLen
theorem JArg.below {w w' : World} {v : Value} {x : JV} (h : JArg w v x) (hb : Below w.heap.size w w') : JArg w' v x := by
 obtain ⟨kp, kc, ip, ic, h1, h2, h3⟩ := h
 exact ⟨kp, kc, ip, ic, h1, h2.stay hb, h3⟩
/-- Size, by a list -/
def szK : List (List UInt8) → Int → Int
 | [], l => l
 | k :: t, l => if 0 < l then szK t (l - 1 - k.length) else l
mutual
def JV.sz : JV → Int → Int | .mk _ s ks it, l => szL it (szK ks (l - 1 - s.length))
def szL : List JV → Int → Int
 | [], l => l
 | x :: t, l => if 0 < l then szL t (x.sz l) else l
end
theorem szK_le : ∀ (ks : List (List UInt8)) (l : Int), szK ks l ≤ l ∧ (0 < szK ks l → szK ks l + keysW ks = l)
 | [], l => by simp [szK, keysW]
 | k :: t, l => by
  rw [szK, keysW]
  by_cases h : 0 < l
  · rw [if_pos h]
    have := szK_le t (l - 1 - k.length)
    exact ⟨by omega, fun hp => by have := this.2 hp; omega⟩
  · rw [if_neg h]
    exact ⟨Int.le_refl _, fun hp => absurd hp h⟩
mutual
theorem sz_le : ∀ (x : JV) (l : Int), x.sz l ≤ l ∧ (0 < x.sz l → x.sz l + x.wt = l)
 | .mk k s ks it, l => by
  rw [JV.sz, JV.wt]
  have h1 := szK_le ks (l - 1 - s.length)
  have h2 := szL_le it (szK ks (l - 1 - s.length))
  exact ⟨by omega, fun hp => by have := h2.2 hp; have := h1.2 (by omega); omega⟩
theorem szL_le : ∀ (it : List JV) (l : Int), szL it l ≤ l ∧ (0 < szL it l → szL it l + wtL it = l)
 | [], l => by simp [szL, wtL]
 | x :: t, l => by
  rw [szL, wtL]
  by_cases h : 0 < l
  · rw [if_pos h]
    have h1 := sz_le x l
    have h2 := szL_le t (x.sz l)
    exact ⟨by omega, fun hp => by have := h2.2 hp; have := h1.2 (by omega); omega⟩
  · rw [if_neg h]
    exact ⟨Int.le_refl _, fun hp => absurd hp h⟩
end
theorem wt_item {l : List JV} {i : Nat} {y : JV} (h : l[i]? = some y) : y.wt ≤ wtL l := by
 induction l generalizing i with
 | nil => cases h
 | cons x t ih =>
  rw [wtL]
  cases i with
  | zero => obtain rfl := Option.some.inj h; omega
  | succ i => have := ih (i := i) (by simpa using h); omega
theorem drop_cons {α : Type} {l : List α} {i : Nat} {y : α} (h : l[i]? = some y) : l.drop i = y :: l.drop (i + 1) := by
 obtain ⟨h1, h2⟩ := List.getElem?_eq_some_iff.1 h
 rw [List.drop_eq_getElem_cons h1, h2]
/-- the box of a value -/
theorem box_cells {w W : World} {x : JV} {kp ip : Option Addr} {kc ic : Nat} (hW : w.alloc (.cells #[.int .i64 x.kind, .string ⟨x.str.toArray⟩, .slice kp x.keys.length kc, .slice ip x.items.length ic] 25) = W) : ∀ W', Below W.heap.size W W' → W'.cell? ⟨w.heap.size, 0, none⟩ = some (.int .i64 x.kind) ∧ W'.cell? ⟨w.heap.size, 1, none⟩ = some (.string ⟨x.str.toArray⟩) ∧ W'.cell? ⟨w.heap.size, 2, none⟩ = some (.slice kp x.keys.length kc) ∧ W'.cell? ⟨w.heap.size, 3, none⟩ = some (.slice ip x.items.length ic) := fun W' hb => by
 have h1 : W.heap[w.heap.size]? = some (.cells #[.int .i64 x.kind, .string ⟨x.str.toArray⟩, .slice kp x.keys.length kc, .slice ip x.items.length ic] 25) := by rw [← hW]; exact World.alloc_heap_new w _
 have h2 := (hb.block _ (ltS h1)).trans h1
 refine ⟨?_, ?_, ?_, ?_⟩ <;> simp [World.cell?, h2]
end Go.Proofs.Jt
/- V7: Values of JSON in memory: Size, few. -/
namespace Go.Proofs.Jt
open Go.RowKit Go.Maps Go.Lib Go.Proofs.Utf Go.Proofs

theorem szK_stop (ks : List (List UInt8)) (l : Int) (h : ks = [] ∨ ¬ 0 < l) : szK ks l = l := by
 rcases h with rfl | h
 · rw [szK]
 · cases ks with
   | nil => rw [szK]
   | cons k t => rw [szK, if_neg h]
theorem szL_stop (it : List JV) (l : Int) (h : it = [] ∨ ¬ 0 < l) : szL it l = l := by
 rcases h with rfl | h
 · rw [szL]
 · cases it with
   | nil => rw [szL]
   | cons k t => rw [szL, if_neg h]
theorem arr_size (s : List UInt8) : (⟨s.toArray⟩ : ByteArray).size = s.length := by simp [ByteArray.size]
set_option maxRecDepth 100000 in
set_option maxHeartbeats 4000000 in
theorem size_any {w : World} {x : JV} {kp ip : Option Addr} {kc ic : Nat} (h : KI w x kp kc ip ic) : x.str.length ≤ maxLen → ∀ w', Below w.heap.size w w' → ∀ l : Int, 0 < l → l ≤ 1000000 → Calls Tryz.prog 68 #[jval x kp kc ip ic, .int .i64 l] w' fun e w'' => e = .returned (.int .i64 (x.sz l)) ∧ Below w'.heap.size w' w'' := by
 induction h with
 | mk x kp kc ip ic fp fc gp gc hk hz hi hh ih =>
  intro hsl w' hb l hl0 hl1
  obtain ⟨W, hW⟩ : ∃ W, w'.alloc (.cells #[.int .i64 x.kind, .string ⟨x.str.toArray⟩, .slice kp x.keys.length kc, .slice ip x.items.length ic] 25) = W := ⟨_, rfl⟩
  have bW : Below w'.heap.size w' W := by rw [← hW]; exact (Below.refl _ _).alloc (Nat.le_refl _) _
  have hbx := box_cells hW
  cases x with
  | mk k s ks it =>
  simp only [kind_mk, str_mk, keys_mk, items_mk] at *
  obtain ⟨S, hS⟩ : ∃ S : ByteArray, (⟨s.toArray⟩ : ByteArray) = S := ⟨_, rfl⟩
  have hSz : S.size = s.length := by rw [← hS, arr_size]
  simp only [hS] at hW hbx
  obtain ⟨hz1, hz2, hz3⟩ := hz
  unfold maxLen at hz1 hz2 hz3 hsl
  obtain ⟨R, hR⟩ : ∃ R, (JV.mk k s ks it).sz l = R := ⟨_, rfl⟩
  rw [hR]
  rw [JV.sz, ← hSz] at hR
  rw [← hSz] at hsl
  have HR := Lib.hid hR
  have HI := Lib.hid hi
  have HIH := Lib.hid ih
  have HZ3 := Lib.hid hz3
  have HK := Lib.hid hk
  have HB : Hid (∀ W', Below W.heap.size W W' → Below w.heap.size w W') := Lib.hid fun W' hb' => hb.trans ((bW.trans (hb'.mono bW.size)).mono hb.size)
  have HBW := Lib.hid bW
  have HBX := Lib.hid hbx
  obtain ⟨c0, c1, c2, c3⟩ := hbx W (Below.refl _ _)
  obtain ⟨K0, hK0⟩ : ∃ K0, szK ks (l - 1 - (S.size : Int)) = K0 := ⟨_, rfl⟩
  have hK1 : K0 ≤ 1000000 := by have := (szK_le ks (l - 1 - (S.size : Int))).1; omega
  have HK0 := Lib.hid hK0
  clear hi ih hh hk hz3 hbx bW hb hR hSz hK0
  unfold jval
  simp only [kind_mk, str_mk, keys_mk, items_mk]
  rw [hS]
  clear hS
  go_enter Tryz.func68, Tryz.ntmps68
  go_wp2_with fail
  go_loop [1, 5] (fun lv iv => ∃ (j : Nat) (z : Int), iv = .int .i64 j ∧ j ≤ ks.length ∧ lv = .int .i64 z ∧ z ≤ 1000000 ∧ szK (ks.drop j) z = K0) (fun _ iv => ks.length - (RowKit.intOf iv).toNat)
  case atStart => exact ⟨0, _, rfl, Nat.zero_le _, rfl, by omega, by rw [List.drop_zero]; exact HK0.out⟩
  case round =>
   obtain ⟨j, z, rfl, hj, rfl, hz, hs⟩ := hrel
   by_cases hgo : j < ks.length ∧ 0 < z
   · obtain ⟨hjn, hz0⟩ := hgo
     obtain ⟨y, hy⟩ : ∃ y, ks[j]? = some y := ⟨_, List.getElem?_eq_getElem hjn⟩
     obtain ⟨a, rfl, hc, _⟩ := (HK.out.below (HB.out W (Below.refl _ _))) j y hy
     have hyl := HZ3.out y (List.mem_of_getElem? hy)
     obtain ⟨Y, hY⟩ : ∃ Y : ByteArray, (⟨y.toArray⟩ : ByteArray) = Y := ⟨_, rfl⟩
     have hYz : Y.size = y.length := by rw [← hY, arr_size]
     rw [hY] at hc
     rw [drop_cons hy, szK, if_pos hz0, ← hYz] at hs
     rw [← hYz] at hyl
     have HS := Lib.hid hs
     clear hs hYz hY hy
     go_wp2_with fail
     go_round
     case rel => exact ⟨j + 1, _, by go_num, by omega, rfl, by omega, HS.out⟩
     case measure => simp [RowKit.intOf]; omega
   · have hst : z = K0 := by
      rw [← hs]
      refine (szK_stop _ _ ?_).symm
      by_cases hjn : j < ks.length
      · exact .inr fun h => hgo ⟨hjn, h⟩
      · exact .inl (by rw [List.drop_eq_nil_iff]; omega)
     subst hst
     have hway : (¬ (j : Int) < (ks.length : Int)) ∨ ((j : Int) < (ks.length : Int) ∧ ¬ (0 : Int) < z) := by
      by_cases hjn : j < ks.length
      · exact .inr ⟨by omega, fun h => hgo ⟨hjn, h⟩⟩
      · exact .inl (by omega)
     clear hgo hs
     rcases hway with h1 | ⟨h1, h2⟩
     all_goals
      go_wp2_with fail
      go_loopw [1, 6] (fun lv iv wr => ∃ (j : Nat) (y : Int), iv = .int .i64 j ∧ j ≤ it.length ∧ lv = .int .i64 y ∧ y ≤ 1000000 ∧ szL (it.drop j) y = R ∧ Below W.heap.size W wr) (fun _ iv _ => it.length - (RowKit.intOf iv).toNat)
      case atStart => exact ⟨0, _, rfl, Nat.zero_le _, rfl, hK1, by rw [List.drop_zero]; have := HR.out; rw [HK0.out] at this; exact this, Below.refl _ _⟩
      case round =>
       obtain ⟨i, q, rfl, hi, rfl, hq, hs, hB⟩ := hrel
       obtain ⟨c0, c1, c2, c3⟩ := HBX.out wr hB
       by_cases hgo : i < it.length ∧ 0 < q
       · obtain ⟨hin, hq0⟩ := hgo
         obtain ⟨y, hy⟩ : ∃ y, it[i]? = some y := ⟨_, List.getElem?_eq_getElem hin⟩
         obtain ⟨hys, a, rfl, hjc⟩ := HI.out i y hy
         obtain ⟨d0, d1, d2, d3, _⟩ := hjc.below (HB.out _ hB)
         have hcall := HIH.out i y hy hys wr (HB.out _ hB) q hq0 hq
         unfold jval at hcall
         obtain ⟨Y, hY⟩ : ∃ Y : ByteArray, (⟨y.str.toArray⟩ : ByteArray) = Y := ⟨_, rfl⟩
         rw [hY] at hcall d1
         rw [drop_cons hy, szL, if_pos hq0] at hs
         have hle := (sz_le y q).1
         obtain ⟨q2, hq2⟩ : ∃ q2, y.sz q = q2 := ⟨_, rfl⟩
         rw [hq2] at hcall hs hle
         have HS := Lib.hid hs
         clear hs hq2 hY hy hjc hys
         go_wp2_with (first | (go_at_call 68; refine hcall.mono ?_; rintro e w3 ⟨rfl, hb3⟩))
         go_roundw
         case rel => exact ⟨i + 1, q2, by go_num, by omega, rfl, by omega, HS.out, hB.trans (hb3.mono hB.size)⟩
         case measure => simp [RowKit.intOf]; omega
       · have hst : q = R := by
          rw [← hs]
          refine (szL_stop _ _ ?_).symm
          by_cases hjn : i < it.length
          · exact .inr fun h => hgo ⟨hjn, h⟩
          · exact .inl (by rw [List.drop_eq_nil_iff]; omega)
         subst hst
         have hway : (¬ (i : Int) < (it.length : Int)) ∨ ((i : Int) < (it.length : Int) ∧ ¬ (0 : Int) < q) := by
          by_cases hjn : i < it.length
          · exact .inr ⟨by omega, fun h => hgo ⟨hjn, h⟩⟩
          · exact .inl (by omega)
         clear hgo hs
         rcases hway with h3 | ⟨h3, h4⟩
         all_goals
          go_wp2_with fail
          go_ret
          exact ⟨rfl, HBW.out.trans (hB.mono HBW.out.size)⟩
end Go.Proofs.Jt
/- V8: Values of JSON in memory: utf, number, shaped. -/
namespace Go.Proofs.Jt
open Go.RowKit Go.Maps Go.Lib Go.Proofs.Utf Go.Proofs

theorem keys_len : ∀ ks : List (List UInt8), ks.length ≤ keysW ks
 | [] => Nat.le_refl _
 | k :: t => by have := keys_len t; rw [keysW, List.length_cons]; omega
theorem wt_pos : ∀ x : JV, 1 ≤ x.wt
 | .mk k s ks it => by rw [JV.wt]; omega
theorem items_len : ∀ l : List JV, l.length ≤ wtL l
 | [] => Nat.le_refl _
 | x :: t => by have := items_len t; have := wt_pos x; rw [wtL, List.length_cons]; omega
end Go.Proofs.Jt
