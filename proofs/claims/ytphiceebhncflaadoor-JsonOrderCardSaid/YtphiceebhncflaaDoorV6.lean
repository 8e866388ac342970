/- Values of JSON in memory; how many values and bytes (Size, few); depth. -/
import Derived.Test.YtphiceebhncflaaDoorV5
import Derived.Test.YtphiceebhncflaaDoorL1
import Derived.RangeFuncRecord
namespace Go.Proofs.Jt
open Go.RowKit Go.Maps Go.Lib Go.Proofs.Utf Go.Proofs

theorem kind_mk (k : Int) (s : List UInt8) (ks : List (List UInt8)) (it : List JV) : (JV.mk k s ks it).kind = k := rfl
theorem str_mk (k : Int) (s : List UInt8) (ks : List (List UInt8)) (it : List JV) : (JV.mk k s ks it).str = s := rfl
theorem keys_mk (k : Int) (s : List UInt8) (ks : List (List UInt8)) (it : List JV) : (JV.mk k s ks it).keys = ks := rfl
theorem items_mk (k : Int) (s : List UInt8) (ks : List (List UInt8)) (it : List JV) : (JV.mk k s ks it).items = it := rfl
theorem cast_max (a b : Nat) : ((max a b : Nat) : Int) = max (a : Int) (b : Int) := by omega
/-- a row of strings -/
def StrsP (w : World) (p : Option Addr) (l : List (List UInt8)) : Prop := ∀ (i : Nat) (s : List UInt8), l[i]? = some s → ∃ a, p = some a ∧ w.cell? (a.add i) = some (.string ⟨s.toArray⟩) ∧ a.block < w.heap.size
/-- the cells of a value at a place -/
structure JC (w : World) (p : Addr) (y : JV) (kp : Option Addr) (kc : Nat) (ip : Option Addr) (ic : Nat) : Prop where
  c0 : w.cell? p = some (.int .i64 y.kind)
  c1 : w.cell? ⟨p.block, p.off + 1, none⟩ = some (.string ⟨y.str.toArray⟩)
  c2 : w.cell? ⟨p.block, p.off + 2, none⟩ = some (.slice kp y.keys.length kc)
  c3 : w.cell? ⟨p.block, p.off + 3, none⟩ = some (.slice ip y.items.length ic)
  blk : p.block < w.heap.size
/-- what a value's slices hold -/
inductive KI (w : World) : JV → Option Addr → Nat → Option Addr → Nat → Prop
  | mk (x : JV) (kp : Option Addr) (kc : Nat) (ip : Option Addr) (ic : Nat) (fp : Nat → Option Addr) (fc : Nat → Nat) (gp : Nat → Option Addr) (gc : Nat → Nat)
      (hk : StrsP w kp x.keys) (hz : x.items.length ≤ maxLen ∧ x.keys.length ≤ maxLen ∧ ∀ s ∈ x.keys, s.length ≤ maxLen)
      (hi : ∀ (i : Nat) (y : JV), x.items[i]? = some y → y.str.length ≤ maxLen ∧ ∃ a, ip = some a ∧ JC w (a.add (i * 4)) y (fp i) (fc i) (gp i) (gc i))
      (h : ∀ (i : Nat) (y : JV), x.items[i]? = some y → KI w y (fp i) (fc i) (gp i) (gc i)) : KI w x kp kc ip ic
def jval (x : JV) (kp : Option Addr) (kc : Nat) (ip : Option Addr) (ic : Nat) : Value := .agg #[.int .i64 x.kind, .string ⟨x.str.toArray⟩, .slice kp x.keys.length kc, .slice ip x.items.length ic]
theorem add_blk (a : Addr) (i : Nat) : (a.add i).block = a.block := by unfold Addr.add; split <;> rfl
theorem StrsP.below {w w' : World} {p : Option Addr} {l : List (List UInt8)} (h : StrsP w p l) (hb : Below w.heap.size w w') : StrsP w' p l := fun i s hs => by
  obtain ⟨a, h1, h2, h3⟩ := h i s hs
  exact ⟨a, h1, (hb.cell (p := a.add i) (by rw [add_blk]; exact h3)).trans h2, Nat.lt_of_lt_of_le h3 hb.size⟩
theorem JC.below {w w' : World} {p : Addr} {y : JV} {kp ip : Option Addr} {kc ic : Nat} (h : JC w p y kp kc ip ic) (hb : Below w.heap.size w w') : JC w' p y kp kc ip ic :=
  ⟨(hb.cell h.blk).trans h.c0, (hb.cell (by exact h.blk)).trans h.c1, (hb.cell (by exact h.blk)).trans h.c2, (hb.cell (by exact h.blk)).trans h.c3, Nat.lt_of_lt_of_le h.blk hb.size⟩
theorem KI.stay {w w' : World} {x : JV} {kp ip : Option Addr} {kc ic : Nat} (h : KI w x kp kc ip ic) (hb : Below w.heap.size w w') : KI w' x kp kc ip ic := by
  induction h with
  | mk x kp kc ip ic fp fc gp gc hk hz hi _ ih =>
    exact .mk x kp kc ip ic fp fc gp gc (hk.below hb) hz (fun i y hy => by
      obtain ⟨h1, a, h2, h3⟩ := hi i y hy
      exact ⟨h1, a, h2, h3.below hb⟩) ih
/-- an argument that is a value -/
def JArg (w : World) (v : Value) (x : JV) : Prop := ∃ kp kc ip ic, v = jval x kp kc ip ic ∧ KI w x kp kc ip ic ∧ x.str.length ≤ maxLen
theorem JArg.below {w w' : World} {v : Value} {x : JV} (h : JArg w v x) (hb : Below w.heap.size w w') : JArg w' v x := by
  obtain ⟨kp, kc, ip, ic, h1, h2, h3⟩ := h
  exact ⟨kp, kc, ip, ic, h1, h2.stay hb, h3⟩
/-- Size, by a list -/
def szK : List (List UInt8) → Int → Int
  | [], l => l
  | k :: t, l => if 0 < l then szK t (l - 1 - k.length) else l
mutual
def JV.sz : JV → Int → Int | .mk _ s ks it, l => szL it (szK ks (l - 1 - s.length))
def szL : List JV → Int → Int
  | [], l => l
  | x :: t, l => if 0 < l then szL t (x.sz l) else l
end
theorem szK_le : ∀ (ks : List (List UInt8)) (l : Int), szK ks l ≤ l ∧ (0 < szK ks l → szK ks l + keysW ks = l)
  | [], l => by simp [szK, keysW]
  | k :: t, l => by
    rw [szK, keysW]
    by_cases h : 0 < l
    · rw [if_pos h]
      have := szK_le t (l - 1 - k.length)
      exact ⟨by omega, fun hp => by have := this.2 hp; omega⟩
    · rw [if_neg h]
      exact ⟨Int.le_refl _, fun hp => absurd hp h⟩
mutual
theorem sz_le : ∀ (x : JV) (l : Int), x.sz l ≤ l ∧ (0 < x.sz l → x.sz l + x.wt = l)
  | .mk k s ks it, l => by
    rw [JV.sz, JV.wt]
    have h1 := szK_le ks (l - 1 - s.length)
    have h2 := szL_le it (szK ks (l - 1 - s.length))
    exact ⟨by omega, fun hp => by have := h2.2 hp; have := h1.2 (by omega); omega⟩
theorem szL_le : ∀ (it : List JV) (l : Int), szL it l ≤ l ∧ (0 < szL it l → szL it l + wtL it = l)
  | [], l => by simp [szL, wtL]
  | x :: t, l => by
    rw [szL, wtL]
    by_cases h : 0 < l
    · rw [if_pos h]
      have h1 := sz_le x l
      have h2 := szL_le t (x.sz l)
      exact ⟨by omega, fun hp => by have := h2.2 hp; have := h1.2 (by omega); omega⟩
    · rw [if_neg h]
      exact ⟨Int.le_refl _, fun hp => absurd hp h⟩
end
theorem szK_ge : ∀ (ks : List (List UInt8)) (l : Int) (M : Int), (∀ s ∈ ks, (s.length : Int) ≤ M) → 0 ≤ M → min l 0 - M - 1 ≤ szK ks l
  | [], l, M, _, h0 => by rw [szK]; omega
  | k :: t, l, M, h, h0 => by
    rw [szK]
    by_cases hl : 0 < l
    · rw [if_pos hl]
      have hk := h k List.mem_cons_self
      by_cases hl2 : 0 < l - 1 - (k.length : Int)
      · have := szK_ge t (l - 1 - k.length) M (fun s hs => h s (List.mem_cons_of_mem _ hs)) h0
        omega
      · have : szK t (l - 1 - (k.length : Int)) = l - 1 - k.length := by
          cases t with
          | nil => rw [szK]
          | cons a b => rw [szK, if_neg hl2]
        omega
    · rw [if_neg hl]; omega
mutual
theorem dep_wt : ∀ x : JV, x.dep ≤ x.wt
  | .mk k s ks it => by
    have := depL_wt it
    rw [JV.dep, JV.wt]
    split <;> omega
theorem depL_wt : ∀ l : List JV, depL l ≤ wtL l
  | [] => Nat.le_refl _
  | x :: t => by
    have h1 := dep_wt x
    have h2 := depL_wt t
    rw [depL, wtL]
    omega
end
theorem wt_item {l : List JV} {i : Nat} {y : JV} (h : l[i]? = some y) : y.wt ≤ wtL l := by
  induction l generalizing i with
  | nil => cases h
  | cons x t ih =>
    rw [wtL]
    cases i with
    | zero => obtain rfl := Option.some.inj h; omega
    | succ i => have := ih (i := i) (by simpa using h); omega
theorem drop_cons {α : Type} {l : List α} {i : Nat} {y : α} (h : l[i]? = some y) : l.drop i = y :: l.drop (i + 1) := by
  obtain ⟨h1, h2⟩ := List.getElem?_eq_some_iff.1 h
  rw [List.drop_eq_getElem_cons h1, h2]
/-- the box of a value -/
theorem box_cells {w W : World} {x : JV} {kp ip : Option Addr} {kc ic : Nat} (hW : w.alloc (.cells #[.int .i64 x.kind, .string ⟨x.str.toArray⟩, .slice kp x.keys.length kc, .slice ip x.items.length ic] 45) = W) : ∀ W', Below W.heap.size W W' → W'.cell? ⟨w.heap.size, 0, none⟩ = some (.int .i64 x.kind) ∧ W'.cell? ⟨w.heap.size, 1, none⟩ = some (.string ⟨x.str.toArray⟩) ∧ W'.cell? ⟨w.heap.size, 2, none⟩ = some (.slice kp x.keys.length kc) ∧ W'.cell? ⟨w.heap.size, 3, none⟩ = some (.slice ip x.items.length ic) := fun W' hb => by
  have h1 : W.heap[w.heap.size]? = some (.cells #[.int .i64 x.kind, .string ⟨x.str.toArray⟩, .slice kp x.keys.length kc, .slice ip x.items.length ic] 45) := by rw [← hW]; exact World.alloc_heap_new w _
  have h2 := (hb.block _ (Array.getElem?_eq_some_iff.1 h1).1).trans h1
  refine ⟨?_, ?_, ?_, ?_⟩ <;> simp [World.cell?, h2]
set_option maxRecDepth 100000 in
set_option maxHeartbeats 2000000 in
theorem depth_any {w : World} {x : JV} {kp ip : Option Addr} {kc ic : Nat} (h : KI w x kp kc ip ic) : x.wt ≤ 1000000 → ∀ w', Below w.heap.size w w' → Calls Tryd.prog 46 #[jval x kp kc ip ic] w' fun e w'' => e = .returned (.int .i64 (x.dep : Nat)) ∧ Below w'.heap.size w' w'' := by
  induction h with
  | mk x kp kc ip ic fp fc gp gc hk hz hi hh ih =>
    intro hwt w' hb
    obtain ⟨W, hW⟩ : ∃ W, w'.alloc (.cells #[.int .i64 x.kind, .string ⟨x.str.toArray⟩, .slice kp x.keys.length kc, .slice ip x.items.length ic] 45) = W := ⟨_, rfl⟩
    have bW : Below w'.heap.size w' W := by rw [← hW]; exact (Below.refl _ _).alloc (Nat.le_refl _) _
    have hbx := box_cells hW
    obtain ⟨c0, c1, c2, c3⟩ := hbx W (Below.refl _ _)
    cases x with
    | mk k s ks it =>
    simp only [kind_mk, str_mk, keys_mk, items_mk] at *
    obtain ⟨S, hS⟩ : ∃ S : ByteArray, (⟨s.toArray⟩ : ByteArray) = S := ⟨_, rfl⟩
    rw [hS] at hW c1
    have hdep : (JV.mk k s ks it).dep = if k = 5 ∨ k = 6 then depL it + 1 else 0 := by rw [JV.dep]
    have hwl : wtL it ≤ 1000000 := by rw [JV.wt] at hwt; omega
    have hdl := depL_wt it
    have hil := hz.1
    unfold maxLen at hil
    by_cases h56 : k = 5 ∨ k = 6
    · rw [hdep, if_pos h56]
      obtain ⟨D, hD⟩ : ∃ D, depL it = D := ⟨_, rfl⟩
      rw [hD] at hdl ⊢
      have hD6 : D ≤ 1000000 := by omega
      have HD := Lib.hid hD
      have HI := Lib.hid hi
      have HIH := Lib.hid ih
      have HWT : Hid (∀ (i : Nat) (y : JV), it[i]? = some y → y.wt ≤ 1000000) := Lib.hid fun i y hy => by have := wt_item hy; omega
      have HB : Hid (∀ W', Below W.heap.size W W' → Below w.heap.size w W') := Lib.hid fun W' hb' => hb.trans ((bW.trans (hb'.mono bW.size)).mono hb.size)
      have HBW := Lib.hid bW
      clear hi ih hh hD hwt hk hz hbx hdep hwl bW hb
      unfold jval
      simp only [kind_mk, str_mk, keys_mk, items_mk]
      rw [hS]
      have k5 : (k == 5) = true ∨ ((k == 5) = false ∧ (k == 6) = true) := by
        rcases h56 with rfl | rfl
        · exact .inl rfl
        · exact .inr ⟨rfl, rfl⟩
      have k5' : (k != 5) = false ∨ ((k != 5) = true ∧ (k != 6) = false) := by
        rcases h56 with rfl | rfl
        · exact .inl rfl
        · exact .inr ⟨rfl, rfl⟩
      clear k5 hS
      rcases k5' with n5 | ⟨n5, n6⟩
      all_goals
        clear h56
        go_enter Tryd.func46, Tryd.ntmps46
        go_wp2_with fail
        go_loopw [3, 17] (fun mv iv wr => ∃ (j m : Nat), iv = .int .i64 j ∧ j ≤ it.length ∧ mv = .int .i64 m ∧ max m (depL (it.drop j)) = D ∧ Below W.heap.size W wr) (fun _ iv _ => it.length - (RowKit.intOf iv).toNat)
        case atStart => exact ⟨0, 0, rfl, Nat.zero_le _, rfl, by rw [List.drop_zero, HD.out]; omega, Below.refl _ _⟩
        case round =>
          obtain ⟨j, m, rfl, hj, rfl, hm, hB⟩ := hrel
          have hmD : m ≤ D := by omega
          by_cases hjn : (j : Int) < (it.length : Int)
          · obtain ⟨y, hy⟩ : ∃ y, it[j]? = some y := ⟨_, List.getElem?_eq_getElem (by omega)⟩
            obtain ⟨_, a, rfl, hjc⟩ := HI.out j y hy
            have hjc2 := hjc.below (HB.out _ hB)
            obtain ⟨d0, d1, d2, d3, _⟩ := hjc2
            obtain ⟨Y, hY⟩ : ∃ Y : ByteArray, (⟨y.str.toArray⟩ : ByteArray) = Y := ⟨_, rfl⟩
            have hcall := fun W3 hb3 => HIH.out j y hy (HWT.out j y hy) W3 hb3
            unfold jval at hcall
            rw [hY] at d1
            simp only [hY] at hcall
            have hdy := dep_wt y
            have hwy := HWT.out j y hy
            rw [drop_cons hy, depL] at hm
            obtain ⟨dy, hdyy⟩ : ∃ d, y.dep = d := ⟨_, rfl⟩
            simp only [hdyy] at hcall hm hdy
            have HCL := Lib.hid hcall
            have HM := Lib.hid hm
            have hBa := HB.out _ (hB.alloc hB.size (.cells #[.int .i64 y.kind, .string Y, .slice (fp j) y.keys.length (fc j), .slice (gp j) y.items.length (gc j)] 45))
            clear hcall hm hdyy hY hy hjc
            go_wp2_with (first | (go_at_call 46; refine (HCL.out _ hBa).mono ?_; rintro e w3 ⟨rfl, hb3⟩))
            go_roundw
            case rel => exact ⟨j + 1, max m dy, by go_num, by omega, by first | rfl | (rw [cast_max]), by have := HM.out; omega, (hB.alloc hB.size _).trans (hb3.mono (by have := hB.size; simp; omega))⟩
            case measure => simp [RowKit.intOf]; omega
          · go_wp2_with fail
            go_ret
            have : j = it.length := by omega
            subst this
            rw [List.drop_length, depL] at hm
            have : m = D := by omega
            subst this
            exact ⟨rfl, HBW.out.trans (hB.mono HBW.out.size)⟩
    · rw [hdep, if_neg h56]
      have HBW := Lib.hid bW
      have n5 : (k != 5) = true := by simp; omega
      have n6 : (k != 6) = true := by simp; omega
      unfold jval
      simp only [kind_mk, str_mk, keys_mk, items_mk]
      rw [hS]
      clear hi ih hh hwt hk hz hbx hdep hwl bW hb hS h56
      go_enter Tryd.func46, Tryd.ntmps46
      go_wp2_with fail
      go_ret
      exact ⟨rfl, HBW.out⟩
end Go.Proofs.Jt
