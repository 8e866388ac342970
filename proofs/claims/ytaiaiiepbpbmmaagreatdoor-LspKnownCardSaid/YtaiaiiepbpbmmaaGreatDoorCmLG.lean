import Derived.Test.YtaiaiiepbpbmmaaGreatDoorCmKA
namespace Go.Proofs.Ls
open Go.RowKit Go.Maps Go.Lib Go.Proofs.Utf Go.Proofs.Jt Go.Proofs

set_option maxRecDepth 100000 in
set_option maxHeartbeats 16000000 in
theorem ask_ren {w : World} (hE : ErrV w) {x : JV} {S : ByteArray} {kp ip : Option Addr} {kc ic : Nat} (h : KI w x kp kc ip ic) (hwt : x.wt ≤ 1000000) (hS : (⟨x.str.toArray⟩ : ByteArray) = S) (q : QV) (bad : Bool) (hq : askR mRen x = (q, bad)) (UR NR : ByteArray) (hUR : (⟨q.uri.toArray⟩ : ByteArray) = UR) (hNR : (⟨q.name.toArray⟩ : ByteArray) = NR) :
    Calls Tryz.prog 19 #[.string ⟨#[116, 101, 120, 116, 68, 111, 99, 117, 109, 101, 110, 116, 47, 114, 101, 110, 97, 109, 101]⟩, .agg #[.int .i64 x.kind, .string S, .slice kp x.keys.length kc, .slice ip x.items.length ic]] w fun e w' => e = .returned (.tuple #[if bad = true then .agg #[.int .i64 0, .string ⟨#[]⟩, .int .i64 0, .int .i64 0, .int .i64 0, .int .i64 0, .string ⟨#[]⟩] else .agg #[.int .i64 q.k, .string UR, .int .i64 q.a.1, .int .i64 q.a.2, .int .i64 q.b.1, .int .i64 q.b.2, .string NR], .bool (!bad)]) ∧ Below w.heap.size w w' := by
  obtain ⟨W1, hW1⟩ : ∃ W, w.alloc (.cells #[.int .i64 x.kind, .string S, .slice kp x.keys.length kc, .slice ip x.items.length ic] 25) = W := ⟨_, rfl⟩
  obtain ⟨W2, hW2⟩ : ∃ W, W1.alloc (.cells #[.int .i64 0, .string ⟨#[]⟩, .int .i64 0, .int .i64 0, .int .i64 0, .int .i64 0, .string ⟨#[]⟩] 42) = W := ⟨_, rfl⟩
  obtain ⟨W, hW⟩ : ∃ W, W2.alloc (.cells #[.bool false] 124) = W := ⟨_, rfl⟩
  have bW1 := alloc_b hW1
  have bW2 := alloc_b hW2
  have bW3 := alloc_b hW
  have z1 : W1.heap.size = w.heap.size + 1 := by rw [← hW1]; simp
  have z2 : W2.heap.size = w.heap.size + 2 := by rw [← hW2]; simp; omega
  have z3 : W.heap.size = w.heap.size + 3 := by rw [← hW]; simp; omega
  have bW : Below w.heap.size w W := (Below.on bW1 bW2).trans (bW3.mono (by omega))
  obtain ⟨z, hze⟩ : ∃ z, w.heap.size + 2 = z := ⟨_, rfl⟩
  have hr0 : RB W z false := by rw [← hze, ← z2]; exact row_at hW
  have hj0 : QBox W (w.heap.size + 1) := by
    have h1 := row_at hW2
    rw [z1] at h1
    exact ⟨_, _, _, _, _, _, _, (bW3.block _ (by omega)).trans h1⟩
  have hz0 : W1.heap.size ≤ z := by omega
  have HX := Lib.hid (box_of hW1)
  have HB1 := Lib.hid bW1
  have bW0 : Below W1.heap.size W1 W := bW2.trans (bW3.mono (by omega))
  obtain ⟨d, b1, hd⟩ : ∃ f b, fldR x kDoc 6 false = (f, b) := ⟨_, _, rfl⟩
  obtain ⟨D, hDb⟩ : ∃ B : ByteArray, (⟨d.str.toArray⟩ : ByteArray) = B := ⟨_, rfl⟩
  obtain ⟨u, b2, hu⟩ : ∃ f b, fldR d kUri 4 b1 = (f, b) := ⟨_, _, rfl⟩
  obtain ⟨U, hU⟩ : ∃ B : ByteArray, (⟨u.str.toArray⟩ : ByteArray) = B := ⟨_, rfl⟩
  have hwd : d.wt ≤ 1000000 := by have := fldR_wt x kDoc 6 false; rw [hd] at this; exact Nat.le_trans this hwt
  obtain ⟨nm, b3, hn⟩ : ∃ f b, fldR x kNew 4 b2 = (f, b) := ⟨_, _, rfl⟩
  obtain ⟨NM, hNM⟩ : ∃ B : ByteArray, (⟨nm.str.toArray⟩ : ByteArray) = B := ⟨_, rfl⟩
  obtain ⟨p, b4, hp⟩ : ∃ p b, posR x kPos b3 = (p, b) := ⟨_, _, rfl⟩
  unfold askR at hq
  simp only [hd, hu, hn, hp, if_pos] at hq
  simp only [Prod.mk.injEq] at hq
  obtain ⟨rfl, rfl⟩ := hq
  obtain rfl : U = UR := hU.symm.trans hUR
  obtain rfl : NM = NR := hNM.symm.trans hNR
  have HN := Lib.hid (And.intro hn hNM)
  have HP := Lib.hid hp
  have HD := Lib.hid (And.intro hwd hDb)
  have HU := Lib.hid (And.intro hu hU)
  have HEV : Hid (∀ V, Below W1.heap.size W1 V → ErrV V) := Lib.hid fun V hV => hE.below (Below.on bW1 hV)
  have HBW := Lib.hid bW0
  have HJ := Lib.hid hj0
  have HS := Lib.hid (And.intro hwt hS)
  have HK : Hid (∀ V, Below W1.heap.size W1 V → KI V x kp kc ip ic) := Lib.hid fun V hV => h.stay (Below.on bW1 hV)
  obtain ⟨c0, c1, c2, c3⟩ := HX.out W bW0
  have h70 := field70 (h.stay bW) hwt hS z false hr0 ⟨#[116, 101, 120, 116, 68, 111, 99, 117, 109, 101, 110, 116]⟩ 6 d b1 hd D hDb
  clear hu hU hwd h hwt hS hd hDb bW1 bW2 bW3 bW bW0

  clear hn hNM hp hUR hNR
  cases b4 with
  | true =>
    go_enter Tryz.func19, Tryz.ntmps19
    go_wp2_with (first
      | (with_reducible (show Calls _ _ _ W _); go_at_call 70; refine h70.mono ?_; rintro e w1 ⟨fp, fc, gp, gc, rfl, hkp, _, hr1, hg1⟩
         have h71 := text71 hkp.ki HD.out.1 HD.out.2 z b1 hr1 ⟨#[117, 114, 105]⟩ u b2 HU.out.1 U HU.out.2)
      | (with_reducible (show Calls _ _ _ w1 _); go_at_call 71; refine h71.mono ?_; rintro e w2 ⟨rfl, hr2, hg2⟩
         obtain ⟨V00, hV00⟩ : ∃ V, w2.alloc (.cells #[.int .i64 0, .string ⟨#[]⟩, .int .i64 0, .int .i64 0, .int .i64 0, .int .i64 0, .string ⟨#[]⟩] 42) = V := ⟨_, rfl⟩
         have hv0 := alloc_b hV00
         have hq00 := row_at hV00
         have hb00 : Below W1.heap.size W1 V00 := (below_gb (below_gb HBW.out hg1 hz0) hg2 hz0).trans (hv0.mono (by have := (below_gb (below_gb HBW.out hg1 hz0) hg2 hz0).size; omega))
         have hr00 := hr2.below hv0
         have hj00 : QBox V00 (w.heap.size + 1) := ((((HJ.out).gb hg1 (by omega)).gb hg2 (by omega)).below hv0)
         have hzq : W.heap.size ≤ w2.heap.size := (by have := hg1.size; have := hg2.size; omega))
      | (refine store_part rfl 42 (.tmp 7) (.tmp 12) rfl w2.heap.size 0 (.agg #[.int .i64 1, .string U, .int .i64 0, .int .i64 0, .int .i64 0, .int .i64 0, .string ⟨#[]⟩]) [.int .i64 1, .string U, .int .i64 0, .int .i64 0, .int .i64 0, .int .i64 0, .string ⟨#[]⟩] rfl rfl rfl (by kernel_rfl) (fun u hu => by simp only [List.mem_cons, List.not_mem_nil, or_false] at hu; rcases hu with rfl | rfl | rfl | rfl | rfl | rfl | rfl <;> rfl) _ #[.int .i64 1, .string U, .int .i64 0, .int .i64 0, .int .i64 0, .int .i64 0, .string ⟨#[]⟩] 42 hq00 (Nat.le_of_ble_eq_true rfl) rfl (fun V0 hV0 hg0 _ => ?_)
         have hq0 := hV0
         have hr0 := RB.gb hr00 hg0 (by omega)
         have hj0 := hj00.gb hg0 (by omega)
         have hb0 := below_gb hb00 hg0 (by omega)
         clear c0 c1 c2 c3
         obtain ⟨c0, c1, c2, c3⟩ := HX.out V0 hb0
         have hA := text71 (HK.out V0 hb0) HS.out.1 HS.out.2 z b2 hr0 ⟨#[110, 101, 119, 78, 97, 109, 101]⟩ nm b3 HN.out.1 NM HN.out.2)
      | (with_reducible (show Calls _ _ _ V0 _); go_at_call 71; refine hA.mono ?_; rintro e w3 ⟨rfl, hr3, hg3⟩
         have hq3 := (hg3.block _ (ltS hq0) (fun e => (by have := Option.some.inj e; omega))).trans hq0
         have hj3 := hj0.gb hg3 (by omega)
         have hb3 := below_gb hb0 hg3 hz0)
      | (go_at_call 79; refine hP.mono ?_; rintro e w6 ⟨rfl, hr6, hg6⟩
         have hq6 := (hg6.block _ (ltS hV5) (fun e => (by have := Option.some.inj e; omega))).trans hV5
         have hj6 := hj5.gb hg6 (by omega)
         have hb6 := below_gb hb5 hg6 hz0)
      | (refine store_part rfl 3 (.tmp 22) (.const (.int .i64 2)) rfl w2.heap.size 0 (.int .i64 2) [.int .i64 2] rfl rfl rfl (by kernel_rfl) (fun u hu => by rw [List.mem_singleton.1 hu]; rfl) _ #[.int .i64 2, .string U, .int .i64 0, .int .i64 0, .int .i64 0, .int .i64 0, .string ⟨#[]⟩] 42 hq3 (Nat.le_of_ble_eq_true rfl) rfl (fun V4 hV4 hg4 _ => ?_)
         have hr4 := RB.gb hr3 hg4 (by omega)
         have hj4 := hj3.gb hg4 (by omega)
         have hb4 := below_gb hb3 hg4 (by omega))
      | (refine store_part rfl 9 (.tmp 23) (.tmp 21) rfl w2.heap.size 6 (.string NM) [.string NM] rfl rfl rfl (by kernel_rfl) (fun u hu => by rw [List.mem_singleton.1 hu]; rfl) _ #[.int .i64 2, .string U, .int .i64 0, .int .i64 0, .int .i64 0, .int .i64 0, .string NM] 42 hV4 (Nat.le_of_ble_eq_true rfl) rfl (fun V5 hV5 hg5 _ => ?_)
         have hr5 := RB.gb hr4 hg5 (by omega)
         have hj5 := hj4.gb hg5 (by omega)
         have hb5 := below_gb hb4 hg5 (by omega)
         clear c0 c1 c2 c3
         obtain ⟨c0, c1, c2, c3⟩ := HX.out V5 hb5
         have hP := position79 HEV.out hb5 (HK.out V5 hb5) HS.out.1 HS.out.2 z hz0 b3 hr5 ⟨#[112, 111, 115, 105, 116, 105, 111, 110]⟩ p true HP.out)
      | (refine store_part rfl 40 (.tmp 26) (.tmp 25) rfl w2.heap.size 2 (.agg #[.int .i64 p.1, .int .i64 p.2]) [.int .i64 p.1, .int .i64 p.2] rfl rfl rfl (by kernel_rfl) (fun u hu => by simp only [List.mem_cons, List.not_mem_nil, or_false] at hu; rcases hu with rfl | rfl <;> rfl) _ #[.int .i64 2, .string U, .int .i64 p.1, .int .i64 p.2, .int .i64 0, .int .i64 0, .string NM] 42 hq6 (Nat.le_of_ble_eq_true rfl) rfl (fun V7 hV7 hg7 _ => ?_)
         have hr7 := RB.gb hr6 hg7 (by omega)
         have hj7 := hj6.gb hg7 (by omega)
         have hb7 := below_gb hb6 hg7 (by omega)
         obtain ⟨y0, y1, y2, y3, y4, y5, y6⟩ := cells7 hV7)
      | (refine store_part rfl 40 (.tmp 29) (.tmp 28) rfl w2.heap.size 4 (.agg #[.int .i64 p.1, .int .i64 p.2]) [.int .i64 p.1, .int .i64 p.2] rfl rfl rfl (by kernel_rfl) (fun u hu => by simp only [List.mem_cons, List.not_mem_nil, or_false] at hu; rcases hu with rfl | rfl <;> rfl) _ #[.int .i64 2, .string U, .int .i64 p.1, .int .i64 p.2, .int .i64 p.1, .int .i64 p.2, .string NM] 42 hV7 (Nat.le_of_ble_eq_true rfl) rfl (fun V8 hV8 hg8 _ => ?_)
         have hr8 := RB.gb hr7 hg8 (by omega)
         have hj8 := hj7.gb hg8 (by omega)
         have hb8 := below_gb hb7 hg8 (by omega)
         clear y0 y1 y2 y3 y4 y5 y6
         have qz := hr8.cell
         obtain ⟨y0, y1, y2, y3, y4, y5, y6⟩ := cells7 hV8
         have hbE := hb8
         obtain ⟨j0, j1, j2, j3, j4, j5, j6, hjE⟩ := hj8)
      | (refine store_part rfl 42 (.tmp 4) (.tmp 42) rfl (w.heap.size + 1) 0 (.agg #[.int .i64 0, .string ⟨#[]⟩, .int .i64 0, .int .i64 0, .int .i64 0, .int .i64 0, .string ⟨#[]⟩]) [.int .i64 0, .string ⟨#[]⟩, .int .i64 0, .int .i64 0, .int .i64 0, .int .i64 0, .string ⟨#[]⟩] rfl rfl rfl (by kernel_rfl) (fun u hu => by simp only [List.mem_cons, List.not_mem_nil, or_false] at hu; rcases hu with rfl | rfl | rfl | rfl | rfl | rfl | rfl <;> rfl) _ #[.int .i64 0, .string ⟨#[]⟩, .int .i64 0, .int .i64 0, .int .i64 0, .int .i64 0, .string ⟨#[]⟩] 42 hjE (Nat.le_of_ble_eq_true rfl) rfl (fun V9 hV9 hg9 _ => ?_)))
    refine bodyPost_ret (ret_q Tryz.results19 rfl rfl hV9) rfl ?_
    exact ⟨rfl, Below.on HB1.out (below_gb hbE hg9 (by omega))⟩
  | false =>
    go_enter Tryz.func19, Tryz.ntmps19
    go_wp2_with (first
      | (with_reducible (show Calls _ _ _ W _); go_at_call 70; refine h70.mono ?_; rintro e w1 ⟨fp, fc, gp, gc, rfl, hkp, _, hr1, hg1⟩
         have h71 := text71 hkp.ki HD.out.1 HD.out.2 z b1 hr1 ⟨#[117, 114, 105]⟩ u b2 HU.out.1 U HU.out.2)
      | (with_reducible (show Calls _ _ _ w1 _); go_at_call 71; refine h71.mono ?_; rintro e w2 ⟨rfl, hr2, hg2⟩
         obtain ⟨V00, hV00⟩ : ∃ V, w2.alloc (.cells #[.int .i64 0, .string ⟨#[]⟩, .int .i64 0, .int .i64 0, .int .i64 0, .int .i64 0, .string ⟨#[]⟩] 42) = V := ⟨_, rfl⟩
         have hv0 := alloc_b hV00
         have hq00 := row_at hV00
         have hb00 : Below W1.heap.size W1 V00 := (below_gb (below_gb HBW.out hg1 hz0) hg2 hz0).trans (hv0.mono (by have := (below_gb (below_gb HBW.out hg1 hz0) hg2 hz0).size; omega))
         have hr00 := hr2.below hv0
         have hj00 : QBox V00 (w.heap.size + 1) := ((((HJ.out).gb hg1 (by omega)).gb hg2 (by omega)).below hv0)
         have hzq : W.heap.size ≤ w2.heap.size := (by have := hg1.size; have := hg2.size; omega))
      | (refine store_part rfl 42 (.tmp 7) (.tmp 12) rfl w2.heap.size 0 (.agg #[.int .i64 1, .string U, .int .i64 0, .int .i64 0, .int .i64 0, .int .i64 0, .string ⟨#[]⟩]) [.int .i64 1, .string U, .int .i64 0, .int .i64 0, .int .i64 0, .int .i64 0, .string ⟨#[]⟩] rfl rfl rfl (by kernel_rfl) (fun u hu => by simp only [List.mem_cons, List.not_mem_nil, or_false] at hu; rcases hu with rfl | rfl | rfl | rfl | rfl | rfl | rfl <;> rfl) _ #[.int .i64 1, .string U, .int .i64 0, .int .i64 0, .int .i64 0, .int .i64 0, .string ⟨#[]⟩] 42 hq00 (Nat.le_of_ble_eq_true rfl) rfl (fun V0 hV0 hg0 _ => ?_)
         have hq0 := hV0
         have hr0 := RB.gb hr00 hg0 (by omega)
         have hj0 := hj00.gb hg0 (by omega)
         have hb0 := below_gb hb00 hg0 (by omega)
         clear c0 c1 c2 c3
         obtain ⟨c0, c1, c2, c3⟩ := HX.out V0 hb0
         have hA := text71 (HK.out V0 hb0) HS.out.1 HS.out.2 z b2 hr0 ⟨#[110, 101, 119, 78, 97, 109, 101]⟩ nm b3 HN.out.1 NM HN.out.2)
      | (with_reducible (show Calls _ _ _ V0 _); go_at_call 71; refine hA.mono ?_; rintro e w3 ⟨rfl, hr3, hg3⟩
         have hq3 := (hg3.block _ (ltS hq0) (fun e => (by have := Option.some.inj e; omega))).trans hq0
         have hj3 := hj0.gb hg3 (by omega)
         have hb3 := below_gb hb0 hg3 hz0)
      | (go_at_call 79; refine hP.mono ?_; rintro e w6 ⟨rfl, hr6, hg6⟩
         have hq6 := (hg6.block _ (ltS hV5) (fun e => (by have := Option.some.inj e; omega))).trans hV5
         have hj6 := hj5.gb hg6 (by omega)
         have hb6 := below_gb hb5 hg6 hz0)
      | (refine store_part rfl 3 (.tmp 22) (.const (.int .i64 2)) rfl w2.heap.size 0 (.int .i64 2) [.int .i64 2] rfl rfl rfl (by kernel_rfl) (fun u hu => by rw [List.mem_singleton.1 hu]; rfl) _ #[.int .i64 2, .string U, .int .i64 0, .int .i64 0, .int .i64 0, .int .i64 0, .string ⟨#[]⟩] 42 hq3 (Nat.le_of_ble_eq_true rfl) rfl (fun V4 hV4 hg4 _ => ?_)
         have hr4 := RB.gb hr3 hg4 (by omega)
         have hj4 := hj3.gb hg4 (by omega)
         have hb4 := below_gb hb3 hg4 (by omega))
      | (refine store_part rfl 9 (.tmp 23) (.tmp 21) rfl w2.heap.size 6 (.string NM) [.string NM] rfl rfl rfl (by kernel_rfl) (fun u hu => by rw [List.mem_singleton.1 hu]; rfl) _ #[.int .i64 2, .string U, .int .i64 0, .int .i64 0, .int .i64 0, .int .i64 0, .string NM] 42 hV4 (Nat.le_of_ble_eq_true rfl) rfl (fun V5 hV5 hg5 _ => ?_)
         have hr5 := RB.gb hr4 hg5 (by omega)
         have hj5 := hj4.gb hg5 (by omega)
         have hb5 := below_gb hb4 hg5 (by omega)
         clear c0 c1 c2 c3
         obtain ⟨c0, c1, c2, c3⟩ := HX.out V5 hb5
         have hP := position79 HEV.out hb5 (HK.out V5 hb5) HS.out.1 HS.out.2 z hz0 b3 hr5 ⟨#[112, 111, 115, 105, 116, 105, 111, 110]⟩ p false HP.out)
      | (refine store_part rfl 40 (.tmp 26) (.tmp 25) rfl w2.heap.size 2 (.agg #[.int .i64 p.1, .int .i64 p.2]) [.int .i64 p.1, .int .i64 p.2] rfl rfl rfl (by kernel_rfl) (fun u hu => by simp only [List.mem_cons, List.not_mem_nil, or_false] at hu; rcases hu with rfl | rfl <;> rfl) _ #[.int .i64 2, .string U, .int .i64 p.1, .int .i64 p.2, .int .i64 0, .int .i64 0, .string NM] 42 hq6 (Nat.le_of_ble_eq_true rfl) rfl (fun V7 hV7 hg7 _ => ?_)
         have hr7 := RB.gb hr6 hg7 (by omega)
         have hj7 := hj6.gb hg7 (by omega)
         have hb7 := below_gb hb6 hg7 (by omega)
         obtain ⟨y0, y1, y2, y3, y4, y5, y6⟩ := cells7 hV7)
      | (refine store_part rfl 40 (.tmp 29) (.tmp 28) rfl w2.heap.size 4 (.agg #[.int .i64 p.1, .int .i64 p.2]) [.int .i64 p.1, .int .i64 p.2] rfl rfl rfl (by kernel_rfl) (fun u hu => by simp only [List.mem_cons, List.not_mem_nil, or_false] at hu; rcases hu with rfl | rfl <;> rfl) _ #[.int .i64 2, .string U, .int .i64 p.1, .int .i64 p.2, .int .i64 p.1, .int .i64 p.2, .string NM] 42 hV7 (Nat.le_of_ble_eq_true rfl) rfl (fun V8 hV8 hg8 _ => ?_)
         have hr8 := RB.gb hr7 hg8 (by omega)
         have hj8 := hj7.gb hg8 (by omega)
         have hb8 := below_gb hb7 hg8 (by omega)
         clear y0 y1 y2 y3 y4 y5 y6
         have qz := hr8.cell
         obtain ⟨y0, y1, y2, y3, y4, y5, y6⟩ := cells7 hV8
         have hbE := hb8
         obtain ⟨j0, j1, j2, j3, j4, j5, j6, hjE⟩ := hj8)
      | (refine store_part rfl 42 (.tmp 4) (.tmp 43) rfl (w.heap.size + 1) 0 (.agg #[.int .i64 2, .string U, .int .i64 p.1, .int .i64 p.2, .int .i64 p.1, .int .i64 p.2, .string NM]) [.int .i64 2, .string U, .int .i64 p.1, .int .i64 p.2, .int .i64 p.1, .int .i64 p.2, .string NM] rfl rfl rfl (by kernel_rfl) (fun u hu => by simp only [List.mem_cons, List.not_mem_nil, or_false] at hu; rcases hu with rfl | rfl | rfl | rfl | rfl | rfl | rfl <;> rfl) _ #[.int .i64 2, .string U, .int .i64 p.1, .int .i64 p.2, .int .i64 p.1, .int .i64 p.2, .string NM] 42 hjE (Nat.le_of_ble_eq_true rfl) rfl (fun V9 hV9 hg9 _ => ?_)))
    refine bodyPost_ret (ret_q Tryz.results19 rfl rfl hV9) rfl ?_
    exact ⟨rfl, Below.on HB1.out (below_gb hbE hg9 (by omega))⟩
end Go.Proofs.Ls
