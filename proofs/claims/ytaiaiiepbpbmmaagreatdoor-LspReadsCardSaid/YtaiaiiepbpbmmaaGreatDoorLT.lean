/- the reference's reader of params: position, span. Printed by gen_lt.py. -/
import Derived.Test.YtaiaiiepbpbmmaaGreatDoorKD
namespace Go.Proofs.Ls
open Go.RowKit Go.Maps Go.Lib Go.Proofs.Utf Go.Proofs.Jt Go.Proofs

theorem fldR_or (x : JV) (K : List UInt8) (k : Int) (b : Bool) : fldR x K k b = ((fldR x K k false).1, b || (fldR x K k false).2) := by
  unfold fldR
  cases fieldV x K with
  | none => simp
  | some y =>
    dsimp only
    split <;> simp
theorem smallR_or (x : JV) (K : List UInt8) (b : Bool) : smallR x K b = ((smallR x K false).1, b || (smallR x K false).2) := by
  unfold smallR wholeR
  simp only [fldR_or x K 3 b, Bool.or_assoc]
theorem posR_or (x : JV) (K : List UInt8) (b : Bool) : posR x K b = ((posR x K false).1, b || (posR x K false).2) := by
  unfold posR
  simp only [fldR_or x K 6 b]
  simp only [smallR_or _ _ (b || _), smallR_or _ _ (_ || (smallR _ _ false).2), smallR_or _ _ (fldR x K 6 false).2, Bool.or_assoc]
theorem pos_split {x f : JV} {K : List UInt8} {p : Int × Int} {l c : Int} {b b1 b2 b3 : Bool} (hn : posR x K false = (p, b)) (h1 : fldR x K 6 false = (f, b1)) (h2 : smallR f kLine false = (l, b2)) (h3 : smallR f kChar false = (c, b3)) : p = (l, c) ∧ b = (b1 || b2 || b3) := by
  unfold posR at hn
  simp only [h1] at hn
  rw [smallR_or f kLine b1, h2] at hn
  dsimp only at hn
  rw [smallR_or f kChar (b1 || b2), h3] at hn
  simp only [Prod.mk.injEq] at hn
  exact ⟨hn.1.symm, hn.2.symm⟩
theorem span_split {x f : JV} {K : List UInt8} {p : (Int × Int) × (Int × Int)} {l c : Int × Int} {b b1 b2 b3 : Bool} (hn : spanR x K false = (p, b)) (h1 : fldR x K 6 false = (f, b1)) (h2 : posR f kStart false = (l, b2)) (h3 : posR f kEnd false = (c, b3)) : p = (l, c) ∧ b = (b1 || b2 || b3) := by
  unfold spanR at hn
  simp only [h1] at hn
  rw [posR_or f kStart b1, h2] at hn
  dsimp only at hn
  rw [posR_or f kEnd (b1 || b2), h3] at hn
  simp only [Prod.mk.injEq] at hn
  exact ⟨hn.1.symm, hn.2.symm⟩
theorem ret_pos2 {fn : Func} {p u : Tmp} (h : fn.results = #[.cell p 40, .tmp u]) {tmps : Array Value} {w : World} {g : Nat} (hp : tmps.getD p undef = .pointer (some ⟨g, 0, none⟩)) {v0 v1 e : Value} (he : tmps.getD u undef = e) (hg : w.heap[g]? = some (.cells #[v0, v1] 40 (0, 0))) :
    (results fn tmps).run Tryz.prog w = .ok (.tuple #[.agg #[v0, v1], e]) w := by
  rw [results_cell_tmp h, hp, he]
  have hl := run_loadVar_row (P := Tryz.prog) w g 40 40 #[v0, v1] (0, 0) _ hg Tryz.underlying40 rfl (by kernel_rfl)
  simp only [asAddr, Sem.run_pure, Result.andThen_ok, hl]
theorem ret_span2 {fn : Func} {p u : Tmp} (h : fn.results = #[.cell p 115, .tmp u]) {tmps : Array Value} {w : World} {g : Nat} (hp : tmps.getD p undef = .pointer (some ⟨g, 0, none⟩)) {v0 v1 v2 v3 e : Value} (he : tmps.getD u undef = e) (hg : w.heap[g]? = some (.cells #[v0, v1, v2, v3] 115 (0, 0))) :
    (results fn tmps).run Tryz.prog w = .ok (.tuple #[.agg #[v0, v1, v2, v3], e]) w := by
  rw [results_cell_tmp h, hp, he]
  have hl := run_loadVar_row (P := Tryz.prog) w g 115 115 #[v0, v1, v2, v3] (0, 0) _ hg Tryz.underlying115 rfl (by kernel_rfl)
  simp only [asAddr, Sem.run_pure, Result.andThen_ok, hl]
set_option maxRecDepth 100000 in
set_option maxHeartbeats 8000000 in
theorem rposition81 {w : World} {x : JV} {S : ByteArray} {kp ip : Option Addr} {kc ic : Nat} (h : KI w x kp kc ip ic) (hwt : x.wt ≤ 1000000) (hS : (⟨x.str.toArray⟩ : ByteArray) = S) (K : ByteArray) (p : Int × Int) (b : Bool) (hn : posR x K.data.toList false = (p, b)) (p1 p2 : Int) (hp : (if b = true then ((0 : Int), (0 : Int)) else p) = (p1, p2)) :
    Calls Tryz.prog 81 #[.agg #[.int .i64 x.kind, .string S, .slice kp x.keys.length kc, .slice ip x.items.length ic], .string K] w fun e w' => e = .returned (.tuple #[.agg #[.int .i64 p1, .int .i64 p2], .bool (!b)]) ∧ Below w.heap.size w w' := by
  obtain ⟨W1, hW1⟩ : ∃ W, w.alloc (.cells #[.int .i64 x.kind, .string S, .slice kp x.keys.length kc, .slice ip x.items.length ic] 25) = W := ⟨_, rfl⟩
  obtain ⟨W, hW⟩ : ∃ W, W1.alloc (.cells #[.int .i64 0, .int .i64 0] 40) = W := ⟨_, rfl⟩
  have bW1 := alloc_b hW1
  have bW2 := alloc_b hW
  have bW := Below.on bW1 bW2
  have z1 : W1.heap.size = w.heap.size + 1 := by rw [← hW1]; simp
  have z2 : W.heap.size = w.heap.size + 2 := by rw [← hW]; simp; omega
  obtain ⟨c0, c1', c2', c3⟩ := box_of hW1 W bW2
  have hJ := row_at hW
  rw [z1] at hJ
  have HJ : Hid (∀ V, Below W.heap.size W V → V.heap[w.heap.size + 1]? = some (.cells #[.int .i64 0, .int .i64 0] 40 (0, 0))) := Lib.hid fun V hV => (hV.block _ (ltS hJ)).trans hJ
  have HBW := Lib.hid bW
  obtain ⟨f, b1, hf⟩ : ∃ f b1, fldR x K.data.toList 6 false = (f, b1) := ⟨_, _, rfl⟩
  obtain ⟨F, hF⟩ : ∃ F : ByteArray, (⟨f.str.toArray⟩ : ByteArray) = F := ⟨_, rfl⟩
  have hfw : f.wt ≤ 1000000 := by
    have := fldR_wt x K.data.toList 6 false
    rw [hf] at this
    exact Nat.le_trans this hwt
  have h75 := rwithin75 (h.stay bW) hS K f b1 hf F hF
  obtain ⟨l, b2, hl⟩ : ∃ l b2, smallR f kLine false = (l, b2) := ⟨_, _, rfl⟩
  obtain ⟨c, b3, hc⟩ : ∃ c b3, smallR f kChar false = (c, b3) := ⟨_, _, rfl⟩
  obtain ⟨rfl, hb⟩ := pos_split hn hf hl hc
  obtain ⟨l1, hl1⟩ : ∃ n : Int, (if b2 = true then 0 else l) = n := ⟨_, rfl⟩
  obtain ⟨c1, hc1⟩ : ∃ n : Int, (if b3 = true then 0 else c) = n := ⟨_, rfl⟩
  have HA : Hid (∀ (V : World) (fp gp : Option Addr) (fc gc : Nat), KI V f fp fc gp gc → Calls Tryz.prog 132 #[.agg #[.int .i64 f.kind, .string F, .slice fp f.keys.length fc, .slice gp f.items.length gc], .string ⟨#[108, 105, 110, 101]⟩] V fun e w' => e = .returned (.tuple #[.int .i64 l1, .bool (!b2)]) ∧ Below V.heap.size V w') := Lib.hid fun V fp gp fc gc hk => hl1 ▸ rsmall132 hk hfw hF ⟨#[108, 105, 110, 101]⟩ l b2 hl
  have HB : Hid (∀ (V : World) (fp gp : Option Addr) (fc gc : Nat), KI V f fp fc gp gc → Calls Tryz.prog 132 #[.agg #[.int .i64 f.kind, .string F, .slice fp f.keys.length fc, .slice gp f.items.length gc], .string ⟨#[99, 104, 97, 114, 97, 99, 116, 101, 114]⟩] V fun e w' => e = .returned (.tuple #[.int .i64 c1, .bool (!b3)]) ∧ Below V.heap.size V w') := Lib.hid fun V fp gp fc gc hk => hc1 ▸ rsmall132 hk hfw hF ⟨#[99, 104, 97, 114, 97, 99, 116, 101, 114]⟩ c b3 hc
  subst hW1
  clear h hwt hS bW1 bW2 bW hJ hf hF hfw hl hc hn
  cases b1 with
  | true =>
    cases b2 with
    | true =>
      cases b3 with
      | true =>
        obtain rfl : b = true := hb
        rw [if_pos rfl] at hp
        simp only [Prod.mk.injEq] at hp
        obtain ⟨rfl, rfl⟩ := hp
        clear hl1 hc1
        go_enter Tryz.func81, Tryz.ntmps81
        go_wp2_with (first
          | (go_at_call 75; refine h75.mono ?_; rintro e w1 ⟨fp, fc, gp, gc, rfl, hkf, _, hb1⟩
             obtain ⟨V1, hV1⟩ : ∃ V, w1.alloc (.cells #[.int .i64 f.kind, .string F, .slice fp f.keys.length fc, .slice gp f.items.length gc] 25) = V := ⟨_, rfl⟩
             have hv1 := alloc_b hV1
             have b1' := Below.on hb1 hv1
             have HX := Lib.hid (box_of hV1)
             obtain ⟨d0, d1, d2, d3⟩ := HX.out V1 (Below.refl _ _)
             have hk1 := hkf.stay hv1
             have hA := HA.out V1 _ _ _ _ (hk1))
          | (with_reducible (show Calls _ _ _ V1 _); go_at_call 132; refine hA.mono ?_; rintro e w2 ⟨rfl, hb2⟩
             have hB := HB.out w2 _ _ _ _ (hk1.stay hb2)
             have b2' := Below.on b1' hb2
             clear d0 d1 d2 d3
             obtain ⟨d0, d1, d2, d3⟩ := HX.out w2 hb2)
          | (with_reducible (show Calls _ _ _ w2 _); go_at_call 132; refine hB.mono ?_; rintro e w3 ⟨rfl, hb3⟩
             have b3' := Below.on b2' hb3)
          | (refine store_part rfl 40 (.tmp 4) (.tmp 38) rfl (w.heap.size + 1) 0 (.agg #[.int .i64 0, .int .i64 0]) [.int .i64 0, .int .i64 0] rfl rfl rfl (by kernel_rfl) (fun u hu => by simp only [List.mem_cons, List.not_mem_nil, or_false] at hu; rcases hu with rfl | rfl <;> rfl) _ #[.int .i64 0, .int .i64 0] 40 (HJ.out w3 b3') (Nat.le_of_ble_eq_true rfl) rfl (fun V9 hV9 hg9 _ => ?_)))
        refine bodyPost_ret (ret_pos2 Tryz.results81 rfl rfl hV9) rfl ?_
        exact ⟨rfl, below_gbz (Below.on HBW.out b3') (by omega) hg9⟩
      | false =>
        obtain rfl : b = true := hb
        rw [if_pos rfl] at hp
        simp only [Prod.mk.injEq] at hp
        obtain ⟨rfl, rfl⟩ := hp
        clear hl1 hc1
        go_enter Tryz.func81, Tryz.ntmps81
        go_wp2_with (first
          | (go_at_call 75; refine h75.mono ?_; rintro e w1 ⟨fp, fc, gp, gc, rfl, hkf, _, hb1⟩
             obtain ⟨V1, hV1⟩ : ∃ V, w1.alloc (.cells #[.int .i64 f.kind, .string F, .slice fp f.keys.length fc, .slice gp f.items.length gc] 25) = V := ⟨_, rfl⟩
             have hv1 := alloc_b hV1
             have b1' := Below.on hb1 hv1
             have HX := Lib.hid (box_of hV1)
             obtain ⟨d0, d1, d2, d3⟩ := HX.out V1 (Below.refl _ _)
             have hk1 := hkf.stay hv1
             have hA := HA.out V1 _ _ _ _ (hk1))
          | (with_reducible (show Calls _ _ _ V1 _); go_at_call 132; refine hA.mono ?_; rintro e w2 ⟨rfl, hb2⟩
             have hB := HB.out w2 _ _ _ _ (hk1.stay hb2)
             have b2' := Below.on b1' hb2
             clear d0 d1 d2 d3
             obtain ⟨d0, d1, d2, d3⟩ := HX.out w2 hb2)
          | (with_reducible (show Calls _ _ _ w2 _); go_at_call 132; refine hB.mono ?_; rintro e w3 ⟨rfl, hb3⟩
             have b3' := Below.on b2' hb3)
          | (refine store_part rfl 40 (.tmp 4) (.tmp 38) rfl (w.heap.size + 1) 0 (.agg #[.int .i64 0, .int .i64 0]) [.int .i64 0, .int .i64 0] rfl rfl rfl (by kernel_rfl) (fun u hu => by simp only [List.mem_cons, List.not_mem_nil, or_false] at hu; rcases hu with rfl | rfl <;> rfl) _ #[.int .i64 0, .int .i64 0] 40 (HJ.out w3 b3') (Nat.le_of_ble_eq_true rfl) rfl (fun V9 hV9 hg9 _ => ?_)))
        refine bodyPost_ret (ret_pos2 Tryz.results81 rfl rfl hV9) rfl ?_
        exact ⟨rfl, below_gbz (Below.on HBW.out b3') (by omega) hg9⟩
    | false =>
      cases b3 with
      | true =>
        obtain rfl : b = true := hb
        rw [if_pos rfl] at hp
        simp only [Prod.mk.injEq] at hp
        obtain ⟨rfl, rfl⟩ := hp
        clear hl1 hc1
        go_enter Tryz.func81, Tryz.ntmps81
        go_wp2_with (first
          | (go_at_call 75; refine h75.mono ?_; rintro e w1 ⟨fp, fc, gp, gc, rfl, hkf, _, hb1⟩
             obtain ⟨V1, hV1⟩ : ∃ V, w1.alloc (.cells #[.int .i64 f.kind, .string F, .slice fp f.keys.length fc, .slice gp f.items.length gc] 25) = V := ⟨_, rfl⟩
             have hv1 := alloc_b hV1
             have b1' := Below.on hb1 hv1
             have HX := Lib.hid (box_of hV1)
             obtain ⟨d0, d1, d2, d3⟩ := HX.out V1 (Below.refl _ _)
             have hk1 := hkf.stay hv1
             have hA := HA.out V1 _ _ _ _ (hk1))
          | (with_reducible (show Calls _ _ _ V1 _); go_at_call 132; refine hA.mono ?_; rintro e w2 ⟨rfl, hb2⟩
             have hB := HB.out w2 _ _ _ _ (hk1.stay hb2)
             have b2' := Below.on b1' hb2
             clear d0 d1 d2 d3
             obtain ⟨d0, d1, d2, d3⟩ := HX.out w2 hb2)
          | (with_reducible (show Calls _ _ _ w2 _); go_at_call 132; refine hB.mono ?_; rintro e w3 ⟨rfl, hb3⟩
             have b3' := Below.on b2' hb3)
          | (refine store_part rfl 40 (.tmp 4) (.tmp 38) rfl (w.heap.size + 1) 0 (.agg #[.int .i64 0, .int .i64 0]) [.int .i64 0, .int .i64 0] rfl rfl rfl (by kernel_rfl) (fun u hu => by simp only [List.mem_cons, List.not_mem_nil, or_false] at hu; rcases hu with rfl | rfl <;> rfl) _ #[.int .i64 0, .int .i64 0] 40 (HJ.out w3 b3') (Nat.le_of_ble_eq_true rfl) rfl (fun V9 hV9 hg9 _ => ?_)))
        refine bodyPost_ret (ret_pos2 Tryz.results81 rfl rfl hV9) rfl ?_
        exact ⟨rfl, below_gbz (Below.on HBW.out b3') (by omega) hg9⟩
      | false =>
        obtain rfl : b = true := hb
        rw [if_pos rfl] at hp
        simp only [Prod.mk.injEq] at hp
        obtain ⟨rfl, rfl⟩ := hp
        clear hl1 hc1
        go_enter Tryz.func81, Tryz.ntmps81
        go_wp2_with (first
          | (go_at_call 75; refine h75.mono ?_; rintro e w1 ⟨fp, fc, gp, gc, rfl, hkf, _, hb1⟩
             obtain ⟨V1, hV1⟩ : ∃ V, w1.alloc (.cells #[.int .i64 f.kind, .string F, .slice fp f.keys.length fc, .slice gp f.items.length gc] 25) = V := ⟨_, rfl⟩
             have hv1 := alloc_b hV1
             have b1' := Below.on hb1 hv1
             have HX := Lib.hid (box_of hV1)
             obtain ⟨d0, d1, d2, d3⟩ := HX.out V1 (Below.refl _ _)
             have hk1 := hkf.stay hv1
             have hA := HA.out V1 _ _ _ _ (hk1))
          | (with_reducible (show Calls _ _ _ V1 _); go_at_call 132; refine hA.mono ?_; rintro e w2 ⟨rfl, hb2⟩
             have hB := HB.out w2 _ _ _ _ (hk1.stay hb2)
             have b2' := Below.on b1' hb2
             clear d0 d1 d2 d3
             obtain ⟨d0, d1, d2, d3⟩ := HX.out w2 hb2)
          | (with_reducible (show Calls _ _ _ w2 _); go_at_call 132; refine hB.mono ?_; rintro e w3 ⟨rfl, hb3⟩
             have b3' := Below.on b2' hb3)
          | (refine store_part rfl 40 (.tmp 4) (.tmp 38) rfl (w.heap.size + 1) 0 (.agg #[.int .i64 0, .int .i64 0]) [.int .i64 0, .int .i64 0] rfl rfl rfl (by kernel_rfl) (fun u hu => by simp only [List.mem_cons, List.not_mem_nil, or_false] at hu; rcases hu with rfl | rfl <;> rfl) _ #[.int .i64 0, .int .i64 0] 40 (HJ.out w3 b3') (Nat.le_of_ble_eq_true rfl) rfl (fun V9 hV9 hg9 _ => ?_)))
        refine bodyPost_ret (ret_pos2 Tryz.results81 rfl rfl hV9) rfl ?_
        exact ⟨rfl, below_gbz (Below.on HBW.out b3') (by omega) hg9⟩
  | false =>
    cases b2 with
    | true =>
      cases b3 with
      | true =>
        obtain rfl : b = true := hb
        rw [if_pos rfl] at hp
        simp only [Prod.mk.injEq] at hp
        obtain ⟨rfl, rfl⟩ := hp
        clear hl1 hc1
        go_enter Tryz.func81, Tryz.ntmps81
        go_wp2_with (first
          | (go_at_call 75; refine h75.mono ?_; rintro e w1 ⟨fp, fc, gp, gc, rfl, hkf, _, hb1⟩
             obtain ⟨V1, hV1⟩ : ∃ V, w1.alloc (.cells #[.int .i64 f.kind, .string F, .slice fp f.keys.length fc, .slice gp f.items.length gc] 25) = V := ⟨_, rfl⟩
             have hv1 := alloc_b hV1
             have b1' := Below.on hb1 hv1
             have HX := Lib.hid (box_of hV1)
             obtain ⟨d0, d1, d2, d3⟩ := HX.out V1 (Below.refl _ _)
             have hk1 := hkf.stay hv1
             have hA := HA.out V1 _ _ _ _ (hk1))
          | (with_reducible (show Calls _ _ _ V1 _); go_at_call 132; refine hA.mono ?_; rintro e w2 ⟨rfl, hb2⟩
             have hB := HB.out w2 _ _ _ _ (hk1.stay hb2)
             have b2' := Below.on b1' hb2
             clear d0 d1 d2 d3
             obtain ⟨d0, d1, d2, d3⟩ := HX.out w2 hb2)
          | (with_reducible (show Calls _ _ _ w2 _); go_at_call 132; refine hB.mono ?_; rintro e w3 ⟨rfl, hb3⟩
             have b3' := Below.on b2' hb3)
          | (refine store_part rfl 40 (.tmp 4) (.tmp 38) rfl (w.heap.size + 1) 0 (.agg #[.int .i64 0, .int .i64 0]) [.int .i64 0, .int .i64 0] rfl rfl rfl (by kernel_rfl) (fun u hu => by simp only [List.mem_cons, List.not_mem_nil, or_false] at hu; rcases hu with rfl | rfl <;> rfl) _ #[.int .i64 0, .int .i64 0] 40 (HJ.out w3 b3') (Nat.le_of_ble_eq_true rfl) rfl (fun V9 hV9 hg9 _ => ?_)))
        refine bodyPost_ret (ret_pos2 Tryz.results81 rfl rfl hV9) rfl ?_
        exact ⟨rfl, below_gbz (Below.on HBW.out b3') (by omega) hg9⟩
      | false =>
        obtain rfl : b = true := hb
        rw [if_pos rfl] at hp
        simp only [Prod.mk.injEq] at hp
        obtain ⟨rfl, rfl⟩ := hp
        clear hl1 hc1
        go_enter Tryz.func81, Tryz.ntmps81
        go_wp2_with (first
          | (go_at_call 75; refine h75.mono ?_; rintro e w1 ⟨fp, fc, gp, gc, rfl, hkf, _, hb1⟩
             obtain ⟨V1, hV1⟩ : ∃ V, w1.alloc (.cells #[.int .i64 f.kind, .string F, .slice fp f.keys.length fc, .slice gp f.items.length gc] 25) = V := ⟨_, rfl⟩
             have hv1 := alloc_b hV1
             have b1' := Below.on hb1 hv1
             have HX := Lib.hid (box_of hV1)
             obtain ⟨d0, d1, d2, d3⟩ := HX.out V1 (Below.refl _ _)
             have hk1 := hkf.stay hv1
             have hA := HA.out V1 _ _ _ _ (hk1))
          | (with_reducible (show Calls _ _ _ V1 _); go_at_call 132; refine hA.mono ?_; rintro e w2 ⟨rfl, hb2⟩
             have hB := HB.out w2 _ _ _ _ (hk1.stay hb2)
             have b2' := Below.on b1' hb2
             clear d0 d1 d2 d3
             obtain ⟨d0, d1, d2, d3⟩ := HX.out w2 hb2)
          | (with_reducible (show Calls _ _ _ w2 _); go_at_call 132; refine hB.mono ?_; rintro e w3 ⟨rfl, hb3⟩
             have b3' := Below.on b2' hb3)
          | (refine store_part rfl 40 (.tmp 4) (.tmp 38) rfl (w.heap.size + 1) 0 (.agg #[.int .i64 0, .int .i64 0]) [.int .i64 0, .int .i64 0] rfl rfl rfl (by kernel_rfl) (fun u hu => by simp only [List.mem_cons, List.not_mem_nil, or_false] at hu; rcases hu with rfl | rfl <;> rfl) _ #[.int .i64 0, .int .i64 0] 40 (HJ.out w3 b3') (Nat.le_of_ble_eq_true rfl) rfl (fun V9 hV9 hg9 _ => ?_)))
        refine bodyPost_ret (ret_pos2 Tryz.results81 rfl rfl hV9) rfl ?_
        exact ⟨rfl, below_gbz (Below.on HBW.out b3') (by omega) hg9⟩
    | false =>
      cases b3 with
      | true =>
        obtain rfl : b = true := hb
        rw [if_pos rfl] at hp
        simp only [Prod.mk.injEq] at hp
        obtain ⟨rfl, rfl⟩ := hp
        clear hl1 hc1
        go_enter Tryz.func81, Tryz.ntmps81
        go_wp2_with (first
          | (go_at_call 75; refine h75.mono ?_; rintro e w1 ⟨fp, fc, gp, gc, rfl, hkf, _, hb1⟩
             obtain ⟨V1, hV1⟩ : ∃ V, w1.alloc (.cells #[.int .i64 f.kind, .string F, .slice fp f.keys.length fc, .slice gp f.items.length gc] 25) = V := ⟨_, rfl⟩
             have hv1 := alloc_b hV1
             have b1' := Below.on hb1 hv1
             have HX := Lib.hid (box_of hV1)
             obtain ⟨d0, d1, d2, d3⟩ := HX.out V1 (Below.refl _ _)
             have hk1 := hkf.stay hv1
             have hA := HA.out V1 _ _ _ _ (hk1))
          | (with_reducible (show Calls _ _ _ V1 _); go_at_call 132; refine hA.mono ?_; rintro e w2 ⟨rfl, hb2⟩
             have hB := HB.out w2 _ _ _ _ (hk1.stay hb2)
             have b2' := Below.on b1' hb2
             clear d0 d1 d2 d3
             obtain ⟨d0, d1, d2, d3⟩ := HX.out w2 hb2)
          | (with_reducible (show Calls _ _ _ w2 _); go_at_call 132; refine hB.mono ?_; rintro e w3 ⟨rfl, hb3⟩
             have b3' := Below.on b2' hb3)
          | (refine store_part rfl 40 (.tmp 4) (.tmp 38) rfl (w.heap.size + 1) 0 (.agg #[.int .i64 0, .int .i64 0]) [.int .i64 0, .int .i64 0] rfl rfl rfl (by kernel_rfl) (fun u hu => by simp only [List.mem_cons, List.not_mem_nil, or_false] at hu; rcases hu with rfl | rfl <;> rfl) _ #[.int .i64 0, .int .i64 0] 40 (HJ.out w3 b3') (Nat.le_of_ble_eq_true rfl) rfl (fun V9 hV9 hg9 _ => ?_)))
        refine bodyPost_ret (ret_pos2 Tryz.results81 rfl rfl hV9) rfl ?_
        exact ⟨rfl, below_gbz (Below.on HBW.out b3') (by omega) hg9⟩
      | false =>
        obtain rfl : b = false := hb
        rw [if_neg (by decide)] at hp hl1 hc1
        subst hl1 hc1
        simp only [Prod.mk.injEq] at hp
        obtain ⟨rfl, rfl⟩ := hp
        go_enter Tryz.func81, Tryz.ntmps81
        go_wp2_with (first
          | (go_at_call 75; refine h75.mono ?_; rintro e w1 ⟨fp, fc, gp, gc, rfl, hkf, _, hb1⟩
             obtain ⟨V1, hV1⟩ : ∃ V, w1.alloc (.cells #[.int .i64 f.kind, .string F, .slice fp f.keys.length fc, .slice gp f.items.length gc] 25) = V := ⟨_, rfl⟩
             have hv1 := alloc_b hV1
             have b1' := Below.on hb1 hv1
             have HX := Lib.hid (box_of hV1)
             obtain ⟨d0, d1, d2, d3⟩ := HX.out V1 (Below.refl _ _)
             have hk1 := hkf.stay hv1
             have hA := HA.out V1 _ _ _ _ (hk1))
          | (with_reducible (show Calls _ _ _ V1 _); go_at_call 132; refine hA.mono ?_; rintro e w2 ⟨rfl, hb2⟩
             have hB := HB.out w2 _ _ _ _ (hk1.stay hb2)
             have b2' := Below.on b1' hb2
             clear d0 d1 d2 d3
             obtain ⟨d0, d1, d2, d3⟩ := HX.out w2 hb2)
          | (with_reducible (show Calls _ _ _ w2 _); go_at_call 132; refine hB.mono ?_; rintro e w3 ⟨rfl, hb3⟩
             have b3' := Below.on b2' hb3)
          | (refine store_part rfl 40 (.tmp 4) (.tmp 41) rfl (w.heap.size + 1) 0 (.agg #[.int .i64 l, .int .i64 c]) [.int .i64 l, .int .i64 c] rfl rfl rfl (by kernel_rfl) (fun u hu => by simp only [List.mem_cons, List.not_mem_nil, or_false] at hu; rcases hu with rfl | rfl <;> rfl) _ #[.int .i64 l, .int .i64 c] 40 (HJ.out w3 b3') (Nat.le_of_ble_eq_true rfl) rfl (fun V9 hV9 hg9 _ => ?_)))
        refine bodyPost_ret (ret_pos2 Tryz.results81 rfl rfl hV9) rfl ?_
        exact ⟨rfl, below_gbz (Below.on HBW.out b3') (by omega) hg9⟩
theorem pos_cells {w W : World} {a b : Value} (hW : w.alloc (.cells #[a, b] 40) = W) : ∀ V, Below W.heap.size W V → V.cell? ⟨w.heap.size, 0, none⟩ = some a ∧ V.cell? ⟨w.heap.size, 1, none⟩ = some b := fun V hV => by
  have h := row_at hW
  have h2 := (hV.block _ (ltS h)).trans h
  refine ⟨?_, ?_⟩ <;> simp [World.cell?, h2]
set_option maxRecDepth 100000 in
set_option maxHeartbeats 8000000 in
theorem rspan82 {w : World} {x : JV} {S : ByteArray} {kp ip : Option Addr} {kc ic : Nat} (h : KI w x kp kc ip ic) (hwt : x.wt ≤ 1000000) (hS : (⟨x.str.toArray⟩ : ByteArray) = S) (K : ByteArray) (p : (Int × Int) × (Int × Int)) (b : Bool) (hn : spanR x K.data.toList false = (p, b)) (p1 p2 p3 p4 : Int) (hp : (if b = true then (((0 : Int), (0 : Int)), ((0 : Int), (0 : Int))) else p) = ((p1, p2), (p3, p4))) :
    Calls Tryz.prog 82 #[.agg #[.int .i64 x.kind, .string S, .slice kp x.keys.length kc, .slice ip x.items.length ic], .string K] w fun e w' => e = .returned (.tuple #[.agg #[.int .i64 p1, .int .i64 p2, .int .i64 p3, .int .i64 p4], .bool (!b)]) ∧ Below w.heap.size w w' := by
  obtain ⟨W1, hW1⟩ : ∃ W, w.alloc (.cells #[.int .i64 x.kind, .string S, .slice kp x.keys.length kc, .slice ip x.items.length ic] 25) = W := ⟨_, rfl⟩
  obtain ⟨W, hW⟩ : ∃ W, W1.alloc (.cells #[.int .i64 0, .int .i64 0, .int .i64 0, .int .i64 0] 115) = W := ⟨_, rfl⟩
  have bW1 := alloc_b hW1
  have bW2 := alloc_b hW
  have bW := Below.on bW1 bW2
  have z1 : W1.heap.size = w.heap.size + 1 := by rw [← hW1]; simp
  have z2 : W.heap.size = w.heap.size + 2 := by rw [← hW]; simp; omega
  obtain ⟨c0, c1', c2', c3⟩ := box_of hW1 W bW2
  have hJ := row_at hW
  rw [z1] at hJ
  have HJ : Hid (∀ V, Below W.heap.size W V → V.heap[w.heap.size + 1]? = some (.cells #[.int .i64 0, .int .i64 0, .int .i64 0, .int .i64 0] 115 (0, 0))) := Lib.hid fun V hV => (hV.block _ (ltS hJ)).trans hJ
  have HBW := Lib.hid bW
  obtain ⟨f, b1, hf⟩ : ∃ f b1, fldR x K.data.toList 6 false = (f, b1) := ⟨_, _, rfl⟩
  obtain ⟨F, hF⟩ : ∃ F : ByteArray, (⟨f.str.toArray⟩ : ByteArray) = F := ⟨_, rfl⟩
  have hfw : f.wt ≤ 1000000 := by
    have := fldR_wt x K.data.toList 6 false
    rw [hf] at this
    exact Nat.le_trans this hwt
  have h75 := rwithin75 (h.stay bW) hS K f b1 hf F hF
  obtain ⟨l, b2, hl⟩ : ∃ l b2, posR f kStart false = (l, b2) := ⟨_, _, rfl⟩
  obtain ⟨c, b3, hc⟩ : ∃ c b3, posR f kEnd false = (c, b3) := ⟨_, _, rfl⟩
  obtain ⟨rfl, hb⟩ := span_split hn hf hl hc
  obtain ⟨l1, l2, hl1⟩ : ∃ m n : Int, (if b2 = true then ((0 : Int), (0 : Int)) else l) = (m, n) := ⟨_, _, rfl⟩
  obtain ⟨c1, c2, hc1⟩ : ∃ m n : Int, (if b3 = true then ((0 : Int), (0 : Int)) else c) = (m, n) := ⟨_, _, rfl⟩
  have HA : Hid (∀ (V : World) (fp gp : Option Addr) (fc gc : Nat), KI V f fp fc gp gc → Calls Tryz.prog 81 #[.agg #[.int .i64 f.kind, .string F, .slice fp f.keys.length fc, .slice gp f.items.length gc], .string ⟨#[115, 116, 97, 114, 116]⟩] V fun e w' => e = .returned (.tuple #[.agg #[.int .i64 l1, .int .i64 l2], .bool (!b2)]) ∧ Below V.heap.size V w') := Lib.hid fun V fp gp fc gc hk => rposition81 hk hfw hF ⟨#[115, 116, 97, 114, 116]⟩ l b2 hl l1 l2 hl1
  have HB : Hid (∀ (V : World) (fp gp : Option Addr) (fc gc : Nat), KI V f fp fc gp gc → Calls Tryz.prog 81 #[.agg #[.int .i64 f.kind, .string F, .slice fp f.keys.length fc, .slice gp f.items.length gc], .string ⟨#[101, 110, 100]⟩] V fun e w' => e = .returned (.tuple #[.agg #[.int .i64 c1, .int .i64 c2], .bool (!b3)]) ∧ Below V.heap.size V w') := Lib.hid fun V fp gp fc gc hk => rposition81 hk hfw hF ⟨#[101, 110, 100]⟩ c b3 hc c1 c2 hc1
  subst hW1
  clear h hwt hS bW1 bW2 bW hJ hf hF hfw hl hc hn
  cases b1 with
  | true =>
    cases b2 with
    | true =>
      cases b3 with
      | true =>
        obtain rfl : b = true := hb
        rw [if_pos rfl] at hp
        simp only [Prod.mk.injEq] at hp
        obtain ⟨⟨rfl, rfl⟩, rfl, rfl⟩ := hp
        clear hl1 hc1
        go_enter Tryz.func82, Tryz.ntmps82
        go_wp2_with (first
          | (go_at_call 75; refine h75.mono ?_; rintro e w1 ⟨fp, fc, gp, gc, rfl, hkf, _, hb1⟩
             obtain ⟨V1, hV1⟩ : ∃ V, w1.alloc (.cells #[.int .i64 f.kind, .string F, .slice fp f.keys.length fc, .slice gp f.items.length gc] 25) = V := ⟨_, rfl⟩
             have hv1 := alloc_b hV1
             have b1' := Below.on hb1 hv1
             have HX := Lib.hid (box_of hV1)
             obtain ⟨d0, d1, d2, d3⟩ := HX.out V1 (Below.refl _ _)
             have hk1 := hkf.stay hv1
             have hA := HA.out V1 _ _ _ _ (hk1))
          | (with_reducible (show Calls _ _ _ V1 _); go_at_call 81; refine hA.mono ?_; rintro e w2 ⟨rfl, hb2⟩
             obtain ⟨V2, hV2⟩ : ∃ V, w2.alloc (.cells #[.int .i64 l1, .int .i64 l2] 40) = V := ⟨_, rfl⟩
             have hv2 := alloc_b hV2
             have hc2 := Below.on hb2 hv2
             have hB := HB.out V2 _ _ _ _ (hk1.stay hc2)
             have b2' := Below.on b1' hc2
             have HE2 := Lib.hid (pos_cells hV2)
             clear d0 d1 d2 d3
             obtain ⟨d0, d1, d2, d3⟩ := HX.out V2 hc2)
          | (with_reducible (show Calls _ _ _ V2 _); go_at_call 81; refine hB.mono ?_; rintro e w3 ⟨rfl, hb3⟩
             obtain ⟨V3, hV3⟩ : ∃ V, w3.alloc (.cells #[.int .i64 c1, .int .i64 c2] 40) = V := ⟨_, rfl⟩
             have hv3 := alloc_b hV3
             have hc3 := Below.on hb3 hv3
             have b3' := Below.on b2' hc3
             obtain ⟨y0, y1⟩ := HE2.out V3 hc3
             obtain ⟨y2, y3⟩ := pos_cells hV3 V3 (Below.refl _ _))
          | (refine store_part rfl 115 (.tmp 4) (.tmp 38) rfl (w.heap.size + 1) 0 (.agg #[.int .i64 0, .int .i64 0, .int .i64 0, .int .i64 0]) [.int .i64 0, .int .i64 0, .int .i64 0, .int .i64 0] rfl rfl rfl (by kernel_rfl) (fun u hu => by simp only [List.mem_cons, List.not_mem_nil, or_false] at hu; rcases hu with rfl | rfl | rfl | rfl <;> rfl) _ #[.int .i64 0, .int .i64 0, .int .i64 0, .int .i64 0] 115 (HJ.out V3 b3') (Nat.le_of_ble_eq_true rfl) rfl (fun V9 hV9 hg9 _ => ?_)))
        refine bodyPost_ret (ret_span2 Tryz.results82 rfl rfl hV9) rfl ?_
        exact ⟨rfl, below_gbz (Below.on HBW.out b3') (by omega) hg9⟩
      | false =>
        obtain rfl : b = true := hb
        rw [if_pos rfl] at hp
        simp only [Prod.mk.injEq] at hp
        obtain ⟨⟨rfl, rfl⟩, rfl, rfl⟩ := hp
        clear hl1 hc1
        go_enter Tryz.func82, Tryz.ntmps82
        go_wp2_with (first
          | (go_at_call 75; refine h75.mono ?_; rintro e w1 ⟨fp, fc, gp, gc, rfl, hkf, _, hb1⟩
             obtain ⟨V1, hV1⟩ : ∃ V, w1.alloc (.cells #[.int .i64 f.kind, .string F, .slice fp f.keys.length fc, .slice gp f.items.length gc] 25) = V := ⟨_, rfl⟩
             have hv1 := alloc_b hV1
             have b1' := Below.on hb1 hv1
             have HX := Lib.hid (box_of hV1)
             obtain ⟨d0, d1, d2, d3⟩ := HX.out V1 (Below.refl _ _)
             have hk1 := hkf.stay hv1
             have hA := HA.out V1 _ _ _ _ (hk1))
          | (with_reducible (show Calls _ _ _ V1 _); go_at_call 81; refine hA.mono ?_; rintro e w2 ⟨rfl, hb2⟩
             obtain ⟨V2, hV2⟩ : ∃ V, w2.alloc (.cells #[.int .i64 l1, .int .i64 l2] 40) = V := ⟨_, rfl⟩
             have hv2 := alloc_b hV2
             have hc2 := Below.on hb2 hv2
             have hB := HB.out V2 _ _ _ _ (hk1.stay hc2)
             have b2' := Below.on b1' hc2
             have HE2 := Lib.hid (pos_cells hV2)
             clear d0 d1 d2 d3
             obtain ⟨d0, d1, d2, d3⟩ := HX.out V2 hc2)
          | (with_reducible (show Calls _ _ _ V2 _); go_at_call 81; refine hB.mono ?_; rintro e w3 ⟨rfl, hb3⟩
             obtain ⟨V3, hV3⟩ : ∃ V, w3.alloc (.cells #[.int .i64 c1, .int .i64 c2] 40) = V := ⟨_, rfl⟩
             have hv3 := alloc_b hV3
             have hc3 := Below.on hb3 hv3
             have b3' := Below.on b2' hc3
             obtain ⟨y0, y1⟩ := HE2.out V3 hc3
             obtain ⟨y2, y3⟩ := pos_cells hV3 V3 (Below.refl _ _))
          | (refine store_part rfl 115 (.tmp 4) (.tmp 38) rfl (w.heap.size + 1) 0 (.agg #[.int .i64 0, .int .i64 0, .int .i64 0, .int .i64 0]) [.int .i64 0, .int .i64 0, .int .i64 0, .int .i64 0] rfl rfl rfl (by kernel_rfl) (fun u hu => by simp only [List.mem_cons, List.not_mem_nil, or_false] at hu; rcases hu with rfl | rfl | rfl | rfl <;> rfl) _ #[.int .i64 0, .int .i64 0, .int .i64 0, .int .i64 0] 115 (HJ.out V3 b3') (Nat.le_of_ble_eq_true rfl) rfl (fun V9 hV9 hg9 _ => ?_)))
        refine bodyPost_ret (ret_span2 Tryz.results82 rfl rfl hV9) rfl ?_
        exact ⟨rfl, below_gbz (Below.on HBW.out b3') (by omega) hg9⟩
    | false =>
      cases b3 with
      | true =>
        obtain rfl : b = true := hb
        rw [if_pos rfl] at hp
        simp only [Prod.mk.injEq] at hp
        obtain ⟨⟨rfl, rfl⟩, rfl, rfl⟩ := hp
        clear hl1 hc1
        go_enter Tryz.func82, Tryz.ntmps82
        go_wp2_with (first
          | (go_at_call 75; refine h75.mono ?_; rintro e w1 ⟨fp, fc, gp, gc, rfl, hkf, _, hb1⟩
             obtain ⟨V1, hV1⟩ : ∃ V, w1.alloc (.cells #[.int .i64 f.kind, .string F, .slice fp f.keys.length fc, .slice gp f.items.length gc] 25) = V := ⟨_, rfl⟩
             have hv1 := alloc_b hV1
             have b1' := Below.on hb1 hv1
             have HX := Lib.hid (box_of hV1)
             obtain ⟨d0, d1, d2, d3⟩ := HX.out V1 (Below.refl _ _)
             have hk1 := hkf.stay hv1
             have hA := HA.out V1 _ _ _ _ (hk1))
          | (with_reducible (show Calls _ _ _ V1 _); go_at_call 81; refine hA.mono ?_; rintro e w2 ⟨rfl, hb2⟩
             obtain ⟨V2, hV2⟩ : ∃ V, w2.alloc (.cells #[.int .i64 l1, .int .i64 l2] 40) = V := ⟨_, rfl⟩
             have hv2 := alloc_b hV2
             have hc2 := Below.on hb2 hv2
             have hB := HB.out V2 _ _ _ _ (hk1.stay hc2)
             have b2' := Below.on b1' hc2
             have HE2 := Lib.hid (pos_cells hV2)
             clear d0 d1 d2 d3
             obtain ⟨d0, d1, d2, d3⟩ := HX.out V2 hc2)
          | (with_reducible (show Calls _ _ _ V2 _); go_at_call 81; refine hB.mono ?_; rintro e w3 ⟨rfl, hb3⟩
             obtain ⟨V3, hV3⟩ : ∃ V, w3.alloc (.cells #[.int .i64 c1, .int .i64 c2] 40) = V := ⟨_, rfl⟩
             have hv3 := alloc_b hV3
             have hc3 := Below.on hb3 hv3
             have b3' := Below.on b2' hc3
             obtain ⟨y0, y1⟩ := HE2.out V3 hc3
             obtain ⟨y2, y3⟩ := pos_cells hV3 V3 (Below.refl _ _))
          | (refine store_part rfl 115 (.tmp 4) (.tmp 38) rfl (w.heap.size + 1) 0 (.agg #[.int .i64 0, .int .i64 0, .int .i64 0, .int .i64 0]) [.int .i64 0, .int .i64 0, .int .i64 0, .int .i64 0] rfl rfl rfl (by kernel_rfl) (fun u hu => by simp only [List.mem_cons, List.not_mem_nil, or_false] at hu; rcases hu with rfl | rfl | rfl | rfl <;> rfl) _ #[.int .i64 0, .int .i64 0, .int .i64 0, .int .i64 0] 115 (HJ.out V3 b3') (Nat.le_of_ble_eq_true rfl) rfl (fun V9 hV9 hg9 _ => ?_)))
        refine bodyPost_ret (ret_span2 Tryz.results82 rfl rfl hV9) rfl ?_
        exact ⟨rfl, below_gbz (Below.on HBW.out b3') (by omega) hg9⟩
      | false =>
        obtain rfl : b = true := hb
        rw [if_pos rfl] at hp
        simp only [Prod.mk.injEq] at hp
        obtain ⟨⟨rfl, rfl⟩, rfl, rfl⟩ := hp
        clear hl1 hc1
        go_enter Tryz.func82, Tryz.ntmps82
        go_wp2_with (first
          | (go_at_call 75; refine h75.mono ?_; rintro e w1 ⟨fp, fc, gp, gc, rfl, hkf, _, hb1⟩
             obtain ⟨V1, hV1⟩ : ∃ V, w1.alloc (.cells #[.int .i64 f.kind, .string F, .slice fp f.keys.length fc, .slice gp f.items.length gc] 25) = V := ⟨_, rfl⟩
             have hv1 := alloc_b hV1
             have b1' := Below.on hb1 hv1
             have HX := Lib.hid (box_of hV1)
             obtain ⟨d0, d1, d2, d3⟩ := HX.out V1 (Below.refl _ _)
             have hk1 := hkf.stay hv1
             have hA := HA.out V1 _ _ _ _ (hk1))
          | (with_reducible (show Calls _ _ _ V1 _); go_at_call 81; refine hA.mono ?_; rintro e w2 ⟨rfl, hb2⟩
             obtain ⟨V2, hV2⟩ : ∃ V, w2.alloc (.cells #[.int .i64 l1, .int .i64 l2] 40) = V := ⟨_, rfl⟩
             have hv2 := alloc_b hV2
             have hc2 := Below.on hb2 hv2
             have hB := HB.out V2 _ _ _ _ (hk1.stay hc2)
             have b2' := Below.on b1' hc2
             have HE2 := Lib.hid (pos_cells hV2)
             clear d0 d1 d2 d3
             obtain ⟨d0, d1, d2, d3⟩ := HX.out V2 hc2)
          | (with_reducible (show Calls _ _ _ V2 _); go_at_call 81; refine hB.mono ?_; rintro e w3 ⟨rfl, hb3⟩
             obtain ⟨V3, hV3⟩ : ∃ V, w3.alloc (.cells #[.int .i64 c1, .int .i64 c2] 40) = V := ⟨_, rfl⟩
             have hv3 := alloc_b hV3
             have hc3 := Below.on hb3 hv3
             have b3' := Below.on b2' hc3
             obtain ⟨y0, y1⟩ := HE2.out V3 hc3
             obtain ⟨y2, y3⟩ := pos_cells hV3 V3 (Below.refl _ _))
          | (refine store_part rfl 115 (.tmp 4) (.tmp 38) rfl (w.heap.size + 1) 0 (.agg #[.int .i64 0, .int .i64 0, .int .i64 0, .int .i64 0]) [.int .i64 0, .int .i64 0, .int .i64 0, .int .i64 0] rfl rfl rfl (by kernel_rfl) (fun u hu => by simp only [List.mem_cons, List.not_mem_nil, or_false] at hu; rcases hu with rfl | rfl | rfl | rfl <;> rfl) _ #[.int .i64 0, .int .i64 0, .int .i64 0, .int .i64 0] 115 (HJ.out V3 b3') (Nat.le_of_ble_eq_true rfl) rfl (fun V9 hV9 hg9 _ => ?_)))
        refine bodyPost_ret (ret_span2 Tryz.results82 rfl rfl hV9) rfl ?_
        exact ⟨rfl, below_gbz (Below.on HBW.out b3') (by omega) hg9⟩
  | false =>
    cases b2 with
    | true =>
      cases b3 with
      | true =>
        obtain rfl : b = true := hb
        rw [if_pos rfl] at hp
        simp only [Prod.mk.injEq] at hp
        obtain ⟨⟨rfl, rfl⟩, rfl, rfl⟩ := hp
        clear hl1 hc1
        go_enter Tryz.func82, Tryz.ntmps82
        go_wp2_with (first
          | (go_at_call 75; refine h75.mono ?_; rintro e w1 ⟨fp, fc, gp, gc, rfl, hkf, _, hb1⟩
             obtain ⟨V1, hV1⟩ : ∃ V, w1.alloc (.cells #[.int .i64 f.kind, .string F, .slice fp f.keys.length fc, .slice gp f.items.length gc] 25) = V := ⟨_, rfl⟩
             have hv1 := alloc_b hV1
             have b1' := Below.on hb1 hv1
             have HX := Lib.hid (box_of hV1)
             obtain ⟨d0, d1, d2, d3⟩ := HX.out V1 (Below.refl _ _)
             have hk1 := hkf.stay hv1
             have hA := HA.out V1 _ _ _ _ (hk1))
          | (with_reducible (show Calls _ _ _ V1 _); go_at_call 81; refine hA.mono ?_; rintro e w2 ⟨rfl, hb2⟩
             obtain ⟨V2, hV2⟩ : ∃ V, w2.alloc (.cells #[.int .i64 l1, .int .i64 l2] 40) = V := ⟨_, rfl⟩
             have hv2 := alloc_b hV2
             have hc2 := Below.on hb2 hv2
             have hB := HB.out V2 _ _ _ _ (hk1.stay hc2)
             have b2' := Below.on b1' hc2
             have HE2 := Lib.hid (pos_cells hV2)
             clear d0 d1 d2 d3
             obtain ⟨d0, d1, d2, d3⟩ := HX.out V2 hc2)
          | (with_reducible (show Calls _ _ _ V2 _); go_at_call 81; refine hB.mono ?_; rintro e w3 ⟨rfl, hb3⟩
             obtain ⟨V3, hV3⟩ : ∃ V, w3.alloc (.cells #[.int .i64 c1, .int .i64 c2] 40) = V := ⟨_, rfl⟩
             have hv3 := alloc_b hV3
             have hc3 := Below.on hb3 hv3
             have b3' := Below.on b2' hc3
             obtain ⟨y0, y1⟩ := HE2.out V3 hc3
             obtain ⟨y2, y3⟩ := pos_cells hV3 V3 (Below.refl _ _))
          | (refine store_part rfl 115 (.tmp 4) (.tmp 38) rfl (w.heap.size + 1) 0 (.agg #[.int .i64 0, .int .i64 0, .int .i64 0, .int .i64 0]) [.int .i64 0, .int .i64 0, .int .i64 0, .int .i64 0] rfl rfl rfl (by kernel_rfl) (fun u hu => by simp only [List.mem_cons, List.not_mem_nil, or_false] at hu; rcases hu with rfl | rfl | rfl | rfl <;> rfl) _ #[.int .i64 0, .int .i64 0, .int .i64 0, .int .i64 0] 115 (HJ.out V3 b3') (Nat.le_of_ble_eq_true rfl) rfl (fun V9 hV9 hg9 _ => ?_)))
        refine bodyPost_ret (ret_span2 Tryz.results82 rfl rfl hV9) rfl ?_
        exact ⟨rfl, below_gbz (Below.on HBW.out b3') (by omega) hg9⟩
      | false =>
        obtain rfl : b = true := hb
        rw [if_pos rfl] at hp
        simp only [Prod.mk.injEq] at hp
        obtain ⟨⟨rfl, rfl⟩, rfl, rfl⟩ := hp
        clear hl1 hc1
        go_enter Tryz.func82, Tryz.ntmps82
        go_wp2_with (first
          | (go_at_call 75; refine h75.mono ?_; rintro e w1 ⟨fp, fc, gp, gc, rfl, hkf, _, hb1⟩
             obtain ⟨V1, hV1⟩ : ∃ V, w1.alloc (.cells #[.int .i64 f.kind, .string F, .slice fp f.keys.length fc, .slice gp f.items.length gc] 25) = V := ⟨_, rfl⟩
             have hv1 := alloc_b hV1
             have b1' := Below.on hb1 hv1
             have HX := Lib.hid (box_of hV1)
             obtain ⟨d0, d1, d2, d3⟩ := HX.out V1 (Below.refl _ _)
             have hk1 := hkf.stay hv1
             have hA := HA.out V1 _ _ _ _ (hk1))
          | (with_reducible (show Calls _ _ _ V1 _); go_at_call 81; refine hA.mono ?_; rintro e w2 ⟨rfl, hb2⟩
             obtain ⟨V2, hV2⟩ : ∃ V, w2.alloc (.cells #[.int .i64 l1, .int .i64 l2] 40) = V := ⟨_, rfl⟩
             have hv2 := alloc_b hV2
             have hc2 := Below.on hb2 hv2
             have hB := HB.out V2 _ _ _ _ (hk1.stay hc2)
             have b2' := Below.on b1' hc2
             have HE2 := Lib.hid (pos_cells hV2)
             clear d0 d1 d2 d3
             obtain ⟨d0, d1, d2, d3⟩ := HX.out V2 hc2)
          | (with_reducible (show Calls _ _ _ V2 _); go_at_call 81; refine hB.mono ?_; rintro e w3 ⟨rfl, hb3⟩
             obtain ⟨V3, hV3⟩ : ∃ V, w3.alloc (.cells #[.int .i64 c1, .int .i64 c2] 40) = V := ⟨_, rfl⟩
             have hv3 := alloc_b hV3
             have hc3 := Below.on hb3 hv3
             have b3' := Below.on b2' hc3
             obtain ⟨y0, y1⟩ := HE2.out V3 hc3
             obtain ⟨y2, y3⟩ := pos_cells hV3 V3 (Below.refl _ _))
          | (refine store_part rfl 115 (.tmp 4) (.tmp 38) rfl (w.heap.size + 1) 0 (.agg #[.int .i64 0, .int .i64 0, .int .i64 0, .int .i64 0]) [.int .i64 0, .int .i64 0, .int .i64 0, .int .i64 0] rfl rfl rfl (by kernel_rfl) (fun u hu => by simp only [List.mem_cons, List.not_mem_nil, or_false] at hu; rcases hu with rfl | rfl | rfl | rfl <;> rfl) _ #[.int .i64 0, .int .i64 0, .int .i64 0, .int .i64 0] 115 (HJ.out V3 b3') (Nat.le_of_ble_eq_true rfl) rfl (fun V9 hV9 hg9 _ => ?_)))
        refine bodyPost_ret (ret_span2 Tryz.results82 rfl rfl hV9) rfl ?_
        exact ⟨rfl, below_gbz (Below.on HBW.out b3') (by omega) hg9⟩
    | false =>
      cases b3 with
      | true =>
        obtain rfl : b = true := hb
        rw [if_pos rfl] at hp
        simp only [Prod.mk.injEq] at hp
        obtain ⟨⟨rfl, rfl⟩, rfl, rfl⟩ := hp
        clear hl1 hc1
        go_enter Tryz.func82, Tryz.ntmps82
        go_wp2_with (first
          | (go_at_call 75; refine h75.mono ?_; rintro e w1 ⟨fp, fc, gp, gc, rfl, hkf, _, hb1⟩
             obtain ⟨V1, hV1⟩ : ∃ V, w1.alloc (.cells #[.int .i64 f.kind, .string F, .slice fp f.keys.length fc, .slice gp f.items.length gc] 25) = V := ⟨_, rfl⟩
             have hv1 := alloc_b hV1
             have b1' := Below.on hb1 hv1
             have HX := Lib.hid (box_of hV1)
             obtain ⟨d0, d1, d2, d3⟩ := HX.out V1 (Below.refl _ _)
             have hk1 := hkf.stay hv1
             have hA := HA.out V1 _ _ _ _ (hk1))
          | (with_reducible (show Calls _ _ _ V1 _); go_at_call 81; refine hA.mono ?_; rintro e w2 ⟨rfl, hb2⟩
             obtain ⟨V2, hV2⟩ : ∃ V, w2.alloc (.cells #[.int .i64 l1, .int .i64 l2] 40) = V := ⟨_, rfl⟩
             have hv2 := alloc_b hV2
             have hc2 := Below.on hb2 hv2
             have hB := HB.out V2 _ _ _ _ (hk1.stay hc2)
             have b2' := Below.on b1' hc2
             have HE2 := Lib.hid (pos_cells hV2)
             clear d0 d1 d2 d3
             obtain ⟨d0, d1, d2, d3⟩ := HX.out V2 hc2)
          | (with_reducible (show Calls _ _ _ V2 _); go_at_call 81; refine hB.mono ?_; rintro e w3 ⟨rfl, hb3⟩
             obtain ⟨V3, hV3⟩ : ∃ V, w3.alloc (.cells #[.int .i64 c1, .int .i64 c2] 40) = V := ⟨_, rfl⟩
             have hv3 := alloc_b hV3
             have hc3 := Below.on hb3 hv3
             have b3' := Below.on b2' hc3
             obtain ⟨y0, y1⟩ := HE2.out V3 hc3
             obtain ⟨y2, y3⟩ := pos_cells hV3 V3 (Below.refl _ _))
          | (refine store_part rfl 115 (.tmp 4) (.tmp 38) rfl (w.heap.size + 1) 0 (.agg #[.int .i64 0, .int .i64 0, .int .i64 0, .int .i64 0]) [.int .i64 0, .int .i64 0, .int .i64 0, .int .i64 0] rfl rfl rfl (by kernel_rfl) (fun u hu => by simp only [List.mem_cons, List.not_mem_nil, or_false] at hu; rcases hu with rfl | rfl | rfl | rfl <;> rfl) _ #[.int .i64 0, .int .i64 0, .int .i64 0, .int .i64 0] 115 (HJ.out V3 b3') (Nat.le_of_ble_eq_true rfl) rfl (fun V9 hV9 hg9 _ => ?_)))
        refine bodyPost_ret (ret_span2 Tryz.results82 rfl rfl hV9) rfl ?_
        exact ⟨rfl, below_gbz (Below.on HBW.out b3') (by omega) hg9⟩
      | false =>
        obtain rfl : b = false := hb
        rw [if_neg (by decide)] at hp hl1 hc1
        subst hl1 hc1
        simp only [Prod.mk.injEq] at hp
        obtain ⟨⟨rfl, rfl⟩, rfl, rfl⟩ := hp
        go_enter Tryz.func82, Tryz.ntmps82
        go_wp2_with (first
          | (go_at_call 75; refine h75.mono ?_; rintro e w1 ⟨fp, fc, gp, gc, rfl, hkf, _, hb1⟩
             obtain ⟨V1, hV1⟩ : ∃ V, w1.alloc (.cells #[.int .i64 f.kind, .string F, .slice fp f.keys.length fc, .slice gp f.items.length gc] 25) = V := ⟨_, rfl⟩
             have hv1 := alloc_b hV1
             have b1' := Below.on hb1 hv1
             have HX := Lib.hid (box_of hV1)
             obtain ⟨d0, d1, d2, d3⟩ := HX.out V1 (Below.refl _ _)
             have hk1 := hkf.stay hv1
             have hA := HA.out V1 _ _ _ _ (hk1))
          | (with_reducible (show Calls _ _ _ V1 _); go_at_call 81; refine hA.mono ?_; rintro e w2 ⟨rfl, hb2⟩
             obtain ⟨V2, hV2⟩ : ∃ V, w2.alloc (.cells #[.int .i64 l1, .int .i64 l2] 40) = V := ⟨_, rfl⟩
             have hv2 := alloc_b hV2
             have hc2 := Below.on hb2 hv2
             have hB := HB.out V2 _ _ _ _ (hk1.stay hc2)
             have b2' := Below.on b1' hc2
             have HE2 := Lib.hid (pos_cells hV2)
             clear d0 d1 d2 d3
             obtain ⟨d0, d1, d2, d3⟩ := HX.out V2 hc2)
          | (with_reducible (show Calls _ _ _ V2 _); go_at_call 81; refine hB.mono ?_; rintro e w3 ⟨rfl, hb3⟩
             obtain ⟨V3, hV3⟩ : ∃ V, w3.alloc (.cells #[.int .i64 c1, .int .i64 c2] 40) = V := ⟨_, rfl⟩
             have hv3 := alloc_b hV3
             have hc3 := Below.on hb3 hv3
             have b3' := Below.on b2' hc3
             obtain ⟨y0, y1⟩ := HE2.out V3 hc3
             obtain ⟨y2, y3⟩ := pos_cells hV3 V3 (Below.refl _ _))
          | (refine store_part rfl 115 (.tmp 4) (.tmp 41) rfl (w.heap.size + 1) 0 (.agg #[.int .i64 l1, .int .i64 l2, .int .i64 c1, .int .i64 c2]) [.int .i64 l1, .int .i64 l2, .int .i64 c1, .int .i64 c2] rfl rfl rfl (by kernel_rfl) (fun u hu => by simp only [List.mem_cons, List.not_mem_nil, or_false] at hu; rcases hu with rfl | rfl | rfl | rfl <;> rfl) _ #[.int .i64 l1, .int .i64 l2, .int .i64 c1, .int .i64 c2] 115 (HJ.out V3 b3') (Nat.le_of_ble_eq_true rfl) rfl (fun V9 hV9 hg9 _ => ?_)))
        refine bodyPost_ret (ret_span2 Tryz.results82 rfl rfl hV9) rfl ?_
        exact ⟨rfl, below_gbz (Below.on HBW.out b3') (by omega) hg9⟩
end Go.Proofs.Ls
