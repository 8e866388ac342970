/- Values of JSON in memory: Size, few. -/
import Derived.Test.YtphiceebhncflaaDoorV6
namespace Go.Proofs.Jt
open Go.RowKit Go.Maps Go.Lib Go.Proofs.Utf Go.Proofs

theorem szK_stop (ks : List (List UInt8)) (l : Int) (h : ks = [] ∨ ¬ 0 < l) : szK ks l = l := by
  rcases h with rfl | h
  · rw [szK]
  · cases ks with
    | nil => rw [szK]
    | cons k t => rw [szK, if_neg h]
theorem szL_stop (it : List JV) (l : Int) (h : it = [] ∨ ¬ 0 < l) : szL it l = l := by
  rcases h with rfl | h
  · rw [szL]
  · cases it with
    | nil => rw [szL]
    | cons k t => rw [szL, if_neg h]
theorem arr_size (s : List UInt8) : (⟨s.toArray⟩ : ByteArray).size = s.length := by simp [ByteArray.size]
set_option maxRecDepth 100000 in
set_option maxHeartbeats 4000000 in
theorem size_any {w : World} {x : JV} {kp ip : Option Addr} {kc ic : Nat} (h : KI w x kp kc ip ic) : x.str.length ≤ maxLen → ∀ w', Below w.heap.size w w' → ∀ l : Int, 0 < l → l ≤ 1000000 → Calls Tryd.prog 48 #[jval x kp kc ip ic, .int .i64 l] w' fun e w'' => e = .returned (.int .i64 (x.sz l)) ∧ Below w'.heap.size w' w'' := by
  induction h with
  | mk x kp kc ip ic fp fc gp gc hk hz hi hh ih =>
    intro hsl w' hb l hl0 hl1
    obtain ⟨W, hW⟩ : ∃ W, w'.alloc (.cells #[.int .i64 x.kind, .string ⟨x.str.toArray⟩, .slice kp x.keys.length kc, .slice ip x.items.length ic] 45) = W := ⟨_, rfl⟩
    have bW : Below w'.heap.size w' W := by rw [← hW]; exact (Below.refl _ _).alloc (Nat.le_refl _) _
    have hbx := box_cells hW
    cases x with
    | mk k s ks it =>
    simp only [kind_mk, str_mk, keys_mk, items_mk] at *
    obtain ⟨S, hS⟩ : ∃ S : ByteArray, (⟨s.toArray⟩ : ByteArray) = S := ⟨_, rfl⟩
    have hSz : S.size = s.length := by rw [← hS, arr_size]
    simp only [hS] at hW hbx
    obtain ⟨hz1, hz2, hz3⟩ := hz
    unfold maxLen at hz1 hz2 hz3 hsl
    obtain ⟨R, hR⟩ : ∃ R, (JV.mk k s ks it).sz l = R := ⟨_, rfl⟩
    rw [hR]
    rw [JV.sz, ← hSz] at hR
    rw [← hSz] at hsl
    have HR := Lib.hid hR
    have HI := Lib.hid hi
    have HIH := Lib.hid ih
    have HZ3 := Lib.hid hz3
    have HK := Lib.hid hk
    have HB : Hid (∀ W', Below W.heap.size W W' → Below w.heap.size w W') := Lib.hid fun W' hb' => hb.trans ((bW.trans (hb'.mono bW.size)).mono hb.size)
    have HBW := Lib.hid bW
    have HBX := Lib.hid hbx
    obtain ⟨c0, c1, c2, c3⟩ := hbx W (Below.refl _ _)
    obtain ⟨K0, hK0⟩ : ∃ K0, szK ks (l - 1 - (S.size : Int)) = K0 := ⟨_, rfl⟩
    have hK1 : K0 ≤ 1000000 := by have := (szK_le ks (l - 1 - (S.size : Int))).1; omega
    have HK0 := Lib.hid hK0
    clear hi ih hh hk hz3 hbx bW hb hR hSz hK0
    unfold jval
    simp only [kind_mk, str_mk, keys_mk, items_mk]
    rw [hS]
    clear hS
    go_enter Tryd.func48, Tryd.ntmps48
    go_wp2_with fail
    go_loop [1, 5] (fun lv iv => ∃ (j : Nat) (z : Int), iv = .int .i64 j ∧ j ≤ ks.length ∧ lv = .int .i64 z ∧ z ≤ 1000000 ∧ szK (ks.drop j) z = K0) (fun _ iv => ks.length - (RowKit.intOf iv).toNat)
    case atStart => exact ⟨0, _, rfl, Nat.zero_le _, rfl, by omega, by rw [List.drop_zero]; exact HK0.out⟩
    case round =>
      obtain ⟨j, z, rfl, hj, rfl, hz, hs⟩ := hrel
      by_cases hgo : j < ks.length ∧ 0 < z
      · obtain ⟨hjn, hz0⟩ := hgo
        obtain ⟨y, hy⟩ : ∃ y, ks[j]? = some y := ⟨_, List.getElem?_eq_getElem hjn⟩
        obtain ⟨a, rfl, hc, _⟩ := (HK.out.below (HB.out W (Below.refl _ _))) j y hy
        have hyl := HZ3.out y (List.mem_of_getElem? hy)
        obtain ⟨Y, hY⟩ : ∃ Y : ByteArray, (⟨y.toArray⟩ : ByteArray) = Y := ⟨_, rfl⟩
        have hYz : Y.size = y.length := by rw [← hY, arr_size]
        rw [hY] at hc
        rw [drop_cons hy, szK, if_pos hz0, ← hYz] at hs
        rw [← hYz] at hyl
        have HS := Lib.hid hs
        clear hs hYz hY hy
        go_wp2_with fail
        go_round
        case rel => exact ⟨j + 1, _, by go_num, by omega, rfl, by omega, HS.out⟩
        case measure => simp [RowKit.intOf]; omega
      · have hst : z = K0 := by
          rw [← hs]
          refine (szK_stop _ _ ?_).symm
          by_cases hjn : j < ks.length
          · exact .inr fun h => hgo ⟨hjn, h⟩
          · exact .inl (by rw [List.drop_eq_nil_iff]; omega)
        subst hst
        have hway : (¬ (j : Int) < (ks.length : Int)) ∨ ((j : Int) < (ks.length : Int) ∧ ¬ (0 : Int) < z) := by
          by_cases hjn : j < ks.length
          · exact .inr ⟨by omega, fun h => hgo ⟨hjn, h⟩⟩
          · exact .inl (by omega)
        clear hgo hs
        rcases hway with h1 | ⟨h1, h2⟩
        all_goals
          go_wp2_with fail
          go_loopw [1, 6] (fun lv iv wr => ∃ (j : Nat) (y : Int), iv = .int .i64 j ∧ j ≤ it.length ∧ lv = .int .i64 y ∧ y ≤ 1000000 ∧ szL (it.drop j) y = R ∧ Below W.heap.size W wr) (fun _ iv _ => it.length - (RowKit.intOf iv).toNat)
          case atStart => exact ⟨0, _, rfl, Nat.zero_le _, rfl, hK1, by rw [List.drop_zero]; have := HR.out; rw [HK0.out] at this; exact this, Below.refl _ _⟩
          case round =>
            obtain ⟨i, q, rfl, hi, rfl, hq, hs, hB⟩ := hrel
            obtain ⟨c0, c1, c2, c3⟩ := HBX.out wr hB
            by_cases hgo : i < it.length ∧ 0 < q
            · obtain ⟨hin, hq0⟩ := hgo
              obtain ⟨y, hy⟩ : ∃ y, it[i]? = some y := ⟨_, List.getElem?_eq_getElem hin⟩
              obtain ⟨hys, a, rfl, hjc⟩ := HI.out i y hy
              obtain ⟨d0, d1, d2, d3, _⟩ := hjc.below (HB.out _ hB)
              have hcall := HIH.out i y hy hys wr (HB.out _ hB) q hq0 hq
              unfold jval at hcall
              obtain ⟨Y, hY⟩ : ∃ Y : ByteArray, (⟨y.str.toArray⟩ : ByteArray) = Y := ⟨_, rfl⟩
              rw [hY] at hcall d1
              rw [drop_cons hy, szL, if_pos hq0] at hs
              have hle := (sz_le y q).1
              obtain ⟨q2, hq2⟩ : ∃ q2, y.sz q = q2 := ⟨_, rfl⟩
              rw [hq2] at hcall hs hle
              have HS := Lib.hid hs
              clear hs hq2 hY hy hjc hys
              go_wp2_with (first | (go_at_call 48; refine hcall.mono ?_; rintro e w3 ⟨rfl, hb3⟩))
              go_roundw
              case rel => exact ⟨i + 1, q2, by go_num, by omega, rfl, by omega, HS.out, hB.trans (hb3.mono hB.size)⟩
              case measure => simp [RowKit.intOf]; omega
            · have hst : q = R := by
                rw [← hs]
                refine (szL_stop _ _ ?_).symm
                by_cases hjn : i < it.length
                · exact .inr fun h => hgo ⟨hjn, h⟩
                · exact .inl (by rw [List.drop_eq_nil_iff]; omega)
              subst hst
              have hway : (¬ (i : Int) < (it.length : Int)) ∨ ((i : Int) < (it.length : Int) ∧ ¬ (0 : Int) < q) := by
                by_cases hjn : i < it.length
                · exact .inr ⟨by omega, fun h => hgo ⟨hjn, h⟩⟩
                · exact .inl (by omega)
              clear hgo hs
              rcases hway with h3 | ⟨h3, h4⟩
              all_goals
                go_wp2_with fail
                go_ret
                exact ⟨rfl, HBW.out.trans (hB.mono HBW.out.size)⟩
set_option maxRecDepth 100000 in
theorem few_any {w : World} {v : Value} {x : JV} (h : JArg w v x) : Calls Tryd.prog 25 #[v] w fun e w' => e = .returned (.bool (decide (0 < x.sz 1500))) ∧ Below w.heap.size w w' := by
  obtain ⟨kp, kc, ip, ic, rfl, hK, hs⟩ := h
  obtain ⟨W, hW⟩ : ∃ W, w.alloc (.cells #[.int .i64 x.kind, .string ⟨x.str.toArray⟩, .slice kp x.keys.length kc, .slice ip x.items.length ic] 45) = W := ⟨_, rfl⟩
  have bW : Below w.heap.size w W := by rw [← hW]; exact (Below.refl _ _).alloc (Nat.le_refl _) _
  have hc := size_any hK hs W bW 1500 (by omega) (by omega)
  obtain ⟨c0, c1, c2, c3⟩ := box_cells hW W (Below.refl _ _)
  obtain ⟨R, hR⟩ : ∃ R, x.sz 1500 = R := ⟨_, rfl⟩
  rw [hR] at hc ⊢
  have HB := Lib.hid bW
  unfold jval at hc ⊢
  generalize (⟨x.str.toArray⟩ : ByteArray) = S at *
  clear hK hs hR bW
  go_enter Tryd.func25, Tryd.ntmps25
  go_wp2_with (first | (go_at_call 48; refine hc.mono ?_; rintro e w3 ⟨rfl, hb3⟩))
  go_ret
  exact ⟨rfl, HB.out.trans (hb3.mono HB.out.size)⟩
theorem few_wt {x : JV} (h : 0 < x.sz 1500) : x.wt < 1500 := by
  have := (sz_le x 1500).2 h
  omega
end Go.Proofs.Jt
