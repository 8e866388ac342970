/- The reference's changes. Printed by gen_mh.py. -/
import Derived.Test.YtaiaiiepbpbmmaaGreatDoorKC
import Derived.Test.YtaiaiiepbpbmmaaGreatDoorLU
namespace Go.Proofs.Ls
open Go.RowKit Go.Maps Go.Lib Go.Proofs.Utf Go.Proofs.Jt Go.Proofs

theorem chR_or (y : JV) (b : Bool) : chR y b = ((chR y false).1, b || (chR y false).2) := by
  unfold chR
  rw [fldR_or y kText 4 b]
  dsimp only
  split
  · rw [spanR_or y kRange (b || _), spanR_or y kRange (fldR y kText 4 false).2]
    simp only [Bool.or_assoc]
  · rfl
theorem chsR_or : ∀ (l : List JV) (b : Bool), chsR l b = ((chsR l false).1, b || (chsR l false).2)
  | [], b => by simp [chsR]
  | y :: ys, b => by
    rw [chsR_cons, chsR_cons, chR_or y b]
    dsimp only
    rw [chsR_or ys (b || _), chsR_or ys (chR y false).2]
    simp only [Bool.or_assoc]
theorem chsR_bad {y : JV} {ys : List JV} {l cs : List ChV} {bc : Bool} (h : (l ++ (chsR (y :: ys) false).1, (chsR (y :: ys) false).2) = (cs, bc)) (hb : (chR y false).2 = true) : bc = true := by
  rw [chsR_cons, hb, chsR_or ys true] at h
  simp only [Prod.mk.injEq] at h
  exact h.2.symm
theorem chsR_good {y : JV} {ys : List JV} {l cs : List ChV} {bc : Bool} {c : ChV} (h : (l ++ (chsR (y :: ys) false).1, (chsR (y :: ys) false).2) = (cs, bc)) (hb : chR y false = (c, false)) : (l ++ [c] ++ (chsR ys false).1, (chsR ys false).2) = (cs, bc) := by
  rw [chsR_cons, hb] at h
  rw [List.append_assoc]
  exact h
theorem span_none {y : JV} {K : List UInt8} (h : fieldV y K = none) : (spanR y K false).2 = true := by
  have h1 : fldR y K 6 false = (jn 0, true) := by unfold fldR; rw [h]
  unfold spanR
  rw [h1, posR_or _ _ (posR _ _ _).2, posR_or _ _ true]
  rfl
theorem ki_item {w : World} {x : JV} {kp ip : Option Addr} {kc ic : Nat} (h : KI w x kp kc ip ic) {i : Nat} {y : JV} (hy : x.items[i]? = some y) : y.str.length ≤ maxLen ∧ ∃ a k2 kc2 i2 ic2, ip = some a ∧ JC w (a.add (i * 4)) y k2 kc2 i2 ic2 ∧ KI w y k2 kc2 i2 ic2 := by
  cases h with
  | mk _ _ _ _ _ fp fc gp gc hk hz hi hh =>
    obtain ⟨h1, a, h2, h3⟩ := hi i y hy
    exact ⟨h1, a, _, _, _, _, h2, h3, hh i y hy⟩
theorem chC_own2 {w : World} {B n : Nat} {v : Value} {l : List ChV} {c : ChV} (h : w.ownsRow B 140 6 v (l.length + 1) (chC l ++ [.bool c.whole, .int .i64 c.a.1, .int .i64 c.a.2, .int .i64 c.b.1, .int .i64 c.b.2, .string ⟨c.text.toArray⟩])) (hn : n = l.length + 1) : w.ownsRow B 140 6 v n (chC (l ++ [c])) := by
  rw [chC_snoc, hn]
  exact h
set_option maxRecDepth 100000 in
set_option maxHeartbeats 16000000 in
theorem rchanges77 {w : World} {x : JV} {S : ByteArray} {kp ip : Option Addr} {kc ic : Nat} (h : KI w x kp kc ip ic) (hwt : x.wt ≤ 1000000) (hS : (⟨x.str.toArray⟩ : ByteArray) = S) (f : JV) (bf : Bool) (hf : fldR x kChanges 5 false = (f, bf)) (cs : List ChV) (bc : Bool) (hc : chsR f.items false = (cs, bc)) :
    Calls Tryz.prog 77 #[.agg #[.int .i64 x.kind, .string S, .slice kp x.keys.length kc, .slice ip x.items.length ic]] w fun e w' => ∃ p n c, e = .returned (.tuple #[.slice p n c, .bool (!(bf || bc))]) ∧ ((bf || bc) = false → n = cs.length ∧ w'.ownsRow w.heap.size 140 6 (.slice p cs.length c) cs.length (chC cs)) ∧ Below w.heap.size w w' := by
  obtain ⟨W, hW⟩ : ∃ W, w.alloc (.cells #[.int .i64 x.kind, .string S, .slice kp x.keys.length kc, .slice ip x.items.length ic] 25) = W := ⟨_, rfl⟩
  have bW := alloc_b hW
  obtain ⟨c0, c1, c2, c3⟩ := box_of hW W (Below.refl _ _)
  have HBW := Lib.hid bW
  rcases fldR_split hf with ⟨y, h1, h2, rfl, rfl⟩ | ⟨h1, rfl, rfl⟩ | ⟨y, h1, h2, rfl, rfl⟩
  · obtain ⟨F, hF⟩ : ∃ B : ByteArray, (⟨f.str.toArray⟩ : ByteArray) = B := ⟨_, rfl⟩
    have hfield := rfW (h.stay bW) hS (K := ⟨#[99, 111, 110, 116, 101, 110, 116, 67, 104, 97, 110, 103, 101, 115]⟩) (f := f) (b := true) (by rw [show (⟨#[99, 111, 110, 116, 101, 110, 116, 67, 104, 97, 110, 103, 101, 115]⟩ : ByteArray).data.toList = kChanges from rfl, h1]; rfl) (by rw [show (⟨#[99, 111, 110, 116, 101, 110, 116, 67, 104, 97, 110, 103, 101, 115]⟩ : ByteArray).data.toList = kChanges from rfl, h1]; rfl) hF W (Below.refl _ _)
    have t1 : (f.kind != 5) = false := by simp [h2]
    have hwf : f.wt ≤ 1000000 := by have := fldR_wt x kChanges 5 false; rw [hf] at this; exact Nat.le_trans this hwt
    have hfn : f.items.length ≤ 1000000 := by have := items_len f.items; have := wtL_le f; omega
    have HWI : Hid (∀ (i : Nat) (y : JV), f.items[i]? = some y → y.wt ≤ 1000000) := Lib.hid fun i y hy => by have := wt_items hy; omega
    have HC := Lib.hid hc
    clear h hwt hS hF hf hc bW h1 h2 hwf
    go_enter Tryz.func77, Tryz.ntmps77
    go_wp2_with (first
      | (go_at_call 28; refine hfield.mono ?_; rintro e w1 ⟨fp, fc, gp, gc, rfl, hki, _, hb1⟩
         obtain ⟨V1, hV1⟩ : ∃ V, w1.alloc (.cells #[.int .i64 f.kind, .string F, .slice fp f.keys.length fc, .slice gp f.items.length gc] 25) = V := ⟨_, rfl⟩
         have hv1 := alloc_b hV1
         have b1 := Below.on hb1 hv1
         have HFB : Hid (∀ V, Below V1.heap.size V1 V → _) := Lib.hid (box_of hV1)
         obtain ⟨d0, d1, d2, d3⟩ := HFB.out V1 (Below.refl _ _)))
    have HKI : Hid (KI V1 f fp fc gp gc) := Lib.hid (hki.stay b1)
    have HB1 := Lib.hid (Below.on HBW.out b1)
    have hsv1 := hV1
    clear hki hb1 hv1 b1 c0 c1 c2 c3 hfield d0 d1 d2 d3 hsv1
    go_loopw [6, 7] (fun lv iv wr => ∃ (i : Nat) (l : List ChV), iv = .int .i64 i ∧ i ≤ f.items.length ∧ l.length = i ∧ wr.ownsRow V1.heap.size 140 6 lv l.length (chC l) ∧ Below V1.heap.size V1 wr ∧ (l ++ (chsR (f.items.drop i) false).1, (chsR (f.items.drop i) false).2) = (cs, bc)) (fun _ iv _ => f.items.length - (RowKit.intOf iv).toNat)
    case atStart => exact ⟨0, [], rfl, Nat.zero_le _, rfl, World.ownsRow_nil _ _ _ _, Below.refl _ _, HC.out⟩
    case round =>
      obtain ⟨_, l, rfl, hi, rfl, hown, hB, hch⟩ := hrel
      have HCH := Lib.hid hch
      obtain ⟨d0, d1, d2, d3⟩ := HFB.out wr hB
      clear hch
      by_cases hin : (l.length : Int) < (f.items.length : Int)
      · obtain ⟨y, hy⟩ : ∃ y, f.items[l.length]? = some y := ⟨_, List.getElem?_eq_getElem (by omega)⟩
        obtain ⟨hyl, a, k2, kc2, i2, ic2, rfl, hjc, hky⟩ := ki_item HKI.out hy
        have hwy := HWI.out _ y hy
        have hch := HCH.out
        rw [drop_cons hy] at hch
        obtain ⟨Y, hY⟩ : ∃ Y : ByteArray, (⟨y.str.toArray⟩ : ByteArray) = Y := ⟨_, rfl⟩
        have HJC : Hid (∀ V, Below V1.heap.size V1 V → V.cell? (a.add (l.length * 4)) = some (.int .i64 y.kind) ∧ V.cell? ⟨(a.add (l.length * 4)).block, (a.add (l.length * 4)).off + 1, none⟩ = some (.string Y) ∧ V.cell? ⟨(a.add (l.length * 4)).block, (a.add (l.length * 4)).off + 2, none⟩ = some (.slice k2 y.keys.length kc2) ∧ V.cell? ⟨(a.add (l.length * 4)).block, (a.add (l.length * 4)).off + 3, none⟩ = some (.slice i2 y.items.length ic2)) := Lib.hid fun V hV => by
          have hj := hjc.below hV
          exact ⟨hj.c0, by rw [← hY]; exact hj.c1, hj.c2, hj.c3⟩
        obtain ⟨V2, hV2⟩ : ∃ V, wr.alloc (.cells #[.bool false, .int .i64 0, .int .i64 0, .int .i64 0, .int .i64 0, .string ⟨#[]⟩] 140) = V := ⟨_, rfl⟩
        have hv2 := alloc_b hV2
        have hr2 := row_at hV2
        have hB2 := hB.trans (hv2.mono hB.size)
        have hsB := hB.size
        have hs2 : V2.heap.size = wr.heap.size + 1 := by rw [← hV2]; simp
        obtain ⟨t, bt, ht⟩ : ∃ t bt, fldR y kText 4 false = (t, bt) := ⟨_, _, rfl⟩
        obtain ⟨T, hT⟩ : ∃ B : ByteArray, (⟨t.str.toArray⟩ : ByteArray) = B := ⟨_, rfl⟩
        have HT76 : Hid (∀ V, Below V1.heap.size V1 V → Calls Tryz.prog 76 #[.agg #[.int .i64 y.kind, .string Y, .slice k2 y.keys.length kc2, .slice i2 y.items.length ic2], .string ⟨#[116, 101, 120, 116]⟩] V fun e w' => e = .returned (.tuple #[.string T, .bool (!bt)]) ∧ Below V.heap.size V w') := Lib.hid fun V hV => rtext76 (hky.stay hV) hY ⟨#[116, 101, 120, 116]⟩ t bt ht T hT
        obtain ⟨o, ho⟩ : ∃ o, fieldV y kRange = o := ⟨_, rfl⟩
        obtain ⟨g, hgg⟩ : ∃ g, o.getD (jn 0) = g := ⟨_, rfl⟩
        obtain ⟨G, hG⟩ : ∃ B : ByteArray, (⟨g.str.toArray⟩ : ByteArray) = B := ⟨_, rfl⟩
        have HFO : Hid (∀ V, Below V1.heap.size V1 V → Calls Tryz.prog 28 #[.agg #[.int .i64 y.kind, .string Y, .slice k2 y.keys.length kc2, .slice i2 y.items.length ic2], .string ⟨#[114, 97, 110, 103, 101]⟩] V fun e w'' => ∃ fp fc gp gc, e = .returned (.tuple #[.agg #[.int .i64 g.kind, .string G, .slice fp g.keys.length fc, .slice gp g.items.length gc], .bool o.isSome]) ∧ Below V.heap.size V w'') := Lib.hid fun V hV => (rfW hky hY (K := ⟨#[114, 97, 110, 103, 101]⟩) (f := g) (b := o.isSome) (by rw [show (⟨#[114, 97, 110, 103, 101]⟩ : ByteArray).data.toList = kRange from rfl, ho]; exact hgg) (by rw [show (⟨#[114, 97, 110, 103, 101]⟩ : ByteArray).data.toList = kRange from rfl, ho]) hG V hV).mono fun e w'' ⟨fp, fc, gp, gc, q1, _, _, q2⟩ => ⟨fp, fc, gp, gc, q1, q2⟩
        obtain ⟨s, bs, hs⟩ : ∃ s bs, spanR y kRange false = (s, bs) := ⟨_, _, rfl⟩
        obtain ⟨r1, r2, r3, r4, hr1⟩ : ∃ a b c d : Int, (if bs = true then (((0 : Int), (0 : Int)), ((0 : Int), (0 : Int))) else s) = ((a, b), (c, d)) := ⟨_, _, _, _, rfl⟩
        have HSP : Hid (∀ V, Below V1.heap.size V1 V → Calls Tryz.prog 82 #[.agg #[.int .i64 y.kind, .string Y, .slice k2 y.keys.length kc2, .slice i2 y.items.length ic2], .string ⟨#[114, 97, 110, 103, 101]⟩] V fun e w' => e = .returned (.tuple #[.agg #[.int .i64 r1, .int .i64 r2, .int .i64 r3, .int .i64 r4], .bool (!bs)]) ∧ Below V.heap.size V w') := Lib.hid fun V hV => rspan82 (hky.stay hV) hwy hY ⟨#[114, 97, 110, 103, 101]⟩ s bs hs r1 r2 r3 r4 hr1
        have HCN := Lib.hid hch
        have HOWN := Lib.hid hown
        have HBB := Lib.hid hB
        obtain ⟨pl, cl, rfl⟩ := row_shape hown
        obtain ⟨i140_, hi140, hz0', hz1', hz2'⟩ := info_parts info140
        have hsm : l.length ≤ 1000000 := by omega
        have HTO := Lib.hid (And.intro ht (And.intro ho (And.intro hs (And.intro hr1 hT))))
        clear hyl hjc hky hch hY ht hT hgg hG hs hr1 hwy hy hown hB HCH
        cases bt with
        | true =>
          have HBC : Hid (bc = true) := Lib.hid (chsR_bad HCN.out (by
            have := HTO.out.1
            unfold chR
            rw [this]
            dsimp only
            split
            · rw [spanR_or]; rfl
            · rfl))
          clear ho
          go_wp2_with (first
            | (with_reducible (show Calls _ _ _ Va _); go_at_call 76; refine h76.mono ?_; rintro e w3 ⟨rfl, hb3⟩
               have hB3 := hBa.trans (hb3.mono hBa.size)
               have hr3 := (hb3.block _ (ltS hVa)).trans hVa
               have hs3 := hb3.size)
            | (refine store_part rfl 140 (.tmp 8) (.tmp 34) rfl wr.heap.size 0 (.agg #[.bool false, .int .i64 0, .int .i64 0, .int .i64 0, .int .i64 0, .string ⟨#[]⟩]) [.bool false, .int .i64 0, .int .i64 0, .int .i64 0, .int .i64 0, .string ⟨#[]⟩] rfl rfl rfl (by kernel_rfl) (fun u hu => by simp only [List.mem_cons, List.not_mem_nil, or_false] at hu; rcases hu with rfl | rfl | rfl | rfl | rfl | rfl <;> rfl) _ #[.bool false, .int .i64 0, .int .i64 0, .int .i64 0, .int .i64 0, .string ⟨#[]⟩] 140 hr2 (Nat.le_of_ble_eq_true rfl) rfl (fun Va hVa hga hsa => ?_)
               clear hsa
               have hBa := below_gb hB2 hga (by omega)
               have hsza := hga.size
               obtain ⟨e0, e1, e2, e3⟩ := HFB.out Va hBa
               obtain ⟨g0, g1, g2, g3⟩ := HJC.out Va hBa
               have h76 := HT76.out Va hBa))
          go_ret2
          obtain rfl : bc = true := HBC.out
          exact ⟨none, 0, 0, rfl, fun e => (by cases e), Below.on HB1.out hB3⟩
        | false =>
          cases o with
          | none =>
            obtain rfl : bs = true := by have := span_none (K := kRange) ho; rw [HTO.out.2.2.1] at this; exact this
            have hz4 := HTO.out.2.2.2.1
            rw [if_pos rfl] at hz4
            simp only [Prod.mk.injEq] at hz4
            have hcR : chR y false = (⟨true, (r1, r2), (r3, r4), t.str⟩, false) := by
              unfold chR
              rw [HTO.out.1, HTO.out.2.1, if_neg (by decide), ← hz4.1.1, ← hz4.1.2, ← hz4.2.1, ← hz4.2.2]
            have HCG := Lib.hid (chsR_good HCN.out hcR)
            clear hz4
            clear ho hcR
            go_wp2_with (first
              | (with_reducible (show Calls _ _ _ Va _); go_at_call 76; refine h76.mono ?_; rintro e w3 ⟨rfl, hb3⟩
                 have hB3 := hBa.trans (hb3.mono hBa.size)
                 have hr3 := (hb3.block _ (ltS hVa)).trans hVa
                 have hs3 := hb3.size)
              | (with_reducible (show Calls _ _ _ V4 _); go_at_call 28; refine h28.mono ?_; rintro e w5 ⟨k3, kc3, i3, ic3, rfl, hb5⟩
                 obtain ⟨V5, hV5⟩ : ∃ V, w5.alloc (.cells #[.int .i64 g.kind, .string G, .slice k3 g.keys.length kc3, .slice i3 g.items.length ic3] 25) = V := ⟨_, rfl⟩
                 have hb5' := Below.on hb5 (alloc_b hV5)
                 have hB5 := hB4.trans (hb5'.mono hB4.size)
                 have hr5 := (hb5'.block _ (ltS hV4)).trans hV4
                 have hs5 := hb5'.size)
              | (go_at_call 82; refine h82.mono ?_; rintro e w7 ⟨rfl, hb7⟩
                 obtain ⟨V7, hV7⟩ : ∃ V, w7.alloc (.cells #[.int .i64 r1, .int .i64 r2, .int .i64 r3, .int .i64 r4] 115) = V := ⟨_, rfl⟩
                 have hb7' := Below.on hb7 (alloc_b hV7)
                 have hB7 := hB6.trans (hb7'.mono hB6.size)
                 have hr7 := (hb7'.block _ (ltS hV6)).trans hV6
                 obtain ⟨q0, q1, q2, q3⟩ := span_cells hV7 V7 (Below.refl _ _)
                 have hs7 := hb7'.size)
              | (refine store_part rfl 140 (.tmp 8) (.tmp 34) rfl wr.heap.size 0 (.agg #[.bool false, .int .i64 0, .int .i64 0, .int .i64 0, .int .i64 0, .string ⟨#[]⟩]) [.bool false, .int .i64 0, .int .i64 0, .int .i64 0, .int .i64 0, .string ⟨#[]⟩] rfl rfl rfl (by kernel_rfl) (fun u hu => by simp only [List.mem_cons, List.not_mem_nil, or_false] at hu; rcases hu with rfl | rfl | rfl | rfl | rfl | rfl <;> rfl) _ #[.bool false, .int .i64 0, .int .i64 0, .int .i64 0, .int .i64 0, .string ⟨#[]⟩] 140 hr2 (Nat.le_of_ble_eq_true rfl) rfl (fun Va hVa hga hsa => ?_)
                 clear hsa
                 have hBa := below_gb hB2 hga (by omega)
                 have hsza := hga.size
                 obtain ⟨e0, e1, e2, e3⟩ := HFB.out Va hBa
                 obtain ⟨g0, g1, g2, g3⟩ := HJC.out Va hBa
                 have h76 := HT76.out Va hBa)
              | (refine store_part rfl 9 (.tmp 47) (.tmp 46) rfl wr.heap.size 5 (.string T) [.string T] rfl rfl rfl (by kernel_rfl) (fun u hu => by rw [List.mem_singleton.1 hu]; rfl) _ #[.bool false, .int .i64 0, .int .i64 0, .int .i64 0, .int .i64 0, .string T] 140 hr3 (Nat.le_of_ble_eq_true rfl) rfl (fun V4 hV4 hg4 hs4 => ?_)
                 clear hs4
                 have hs4 := hg4.size
                 have hB4 := below_gb hB3 hg4 (by omega)
                 clear d0 d1 d2 d3 e0 e1 e2 e3 g0 g1 g2 g3
                 obtain ⟨e0, e1, e2, e3⟩ := HFB.out V4 hB4
                 obtain ⟨g0, g1, g2, g3⟩ := HJC.out V4 hB4
                 have h28 := HFO.out V4 hB4)
              | (refine store_part rfl 4 (.tmp 59) (.tmp 58) rfl wr.heap.size 0 (.bool true) [.bool true] rfl rfl rfl (by kernel_rfl) (fun u hu => by rw [List.mem_singleton.1 hu]; rfl) _ #[.bool true, .int .i64 0, .int .i64 0, .int .i64 0, .int .i64 0, .string T] 140 hr5 (Nat.le_of_ble_eq_true rfl) rfl (fun V6 hV6 hg6 hs6 => ?_)
                 clear hs6
                 have hs6 := hg6.size
                 have hB6 := below_gb hB5 hg6 (by omega)
                 clear e0 e1 e2 e3 g0 g1 g2 g3
                 obtain ⟨e0, e1, e2, e3⟩ := HFB.out V6 hB6
                 obtain ⟨g0, g1, g2, g3⟩ := HJC.out V6 hB6
                 have h82 := HSP.out V6 hB6)
              | (refine store_part rfl 115 (.tmp 75) (.tmp 74) rfl wr.heap.size 1 (.agg #[.int .i64 r1, .int .i64 r2, .int .i64 r3, .int .i64 r4]) [.int .i64 r1, .int .i64 r2, .int .i64 r3, .int .i64 r4] rfl rfl rfl (by kernel_rfl) (fun u hu => by simp only [List.mem_cons, List.not_mem_nil, or_false] at hu; rcases hu with rfl | rfl | rfl | rfl <;> rfl) _ #[.bool true, .int .i64 r1, .int .i64 r2, .int .i64 r3, .int .i64 r4, .string T] 140 hr7 (Nat.le_of_ble_eq_true rfl) rfl (fun V8 hV8 hg8 hs8 => ?_)
                 clear hs8
                 have hs8 := hg8.size
                 have hB8 := below_gb hB7 hg8 (by omega)
                 obtain ⟨y0, y1, y2, y3, y4, y5⟩ := cells6 hV8
                 have F8 := ((((((FrP.of_none (P := fun q => wr.heap.size ≤ q) (gb_below' hv2)).trans (FrP.of hga (Nat.le_refl _))).trans (FrP.of_none (gb_below' hb3))).trans (FrP.of hg4 (Nat.le_refl _))).trans (FrP.of_none (gb_below' hb5'))).trans (FrP.of hg6 (Nat.le_refl _))).trans ((FrP.of_none (gb_below' hb7')).trans (FrP.of hg8 (Nat.le_refl _)))
                 have hown8 := row_fr HOWN.out F8 (fun q hq hp => by have := row_lt HOWN.out hq; omega)
                 have hsz8 := F8.size)
              | (at_builtin; refine wpList_append_own _ rfl (.tmp 76) (.tmp 78) 34 rfl V1.heap.size 140 i140_ _ 6 56 Tryz.underlying34 hi140 hz0' hz1' hz2' rfl (by decide) _ _ _ rfl (hown8.alloc (.cells #[.bool true, .int .i64 r1, .int .i64 r2, .int .i64 r3, .int .i64 r4, .string T] 140)) ⟨V8.heap.size, 0, none⟩ 1 1 [.bool true, .int .i64 r1, .int .i64 r2, .int .i64 r3, .int .i64 r4, .string T] rfl rfl (cells_new V8 [.bool true, .int .i64 r1, .int .i64 r2, .int .i64 r3, .int .i64 r4, .string T] 140 _ rfl) (fun u hu => by simp only [List.mem_cons, List.not_mem_nil, or_false] at hu; rcases hu with rfl | rfl | rfl | rfl | rfl | rfl <;> rfl) (by unfold maxLen; omega) (by omega) (by simp; omega) ?_; intro v' w' hown' hg' hnil'
                 have F9 := ((F8.mono (Q := fun q => V1.heap.size ≤ q) (fun q hq hp => by omega)).alloc (.cells #[.bool true, .int .i64 r1, .int .i64 r2, .int .i64 r3, .int .i64 r4, .string T] 140)).trans (FrP.of_row hg' (fun q hq => (row_lt HOWN.out hq).1))
                 have hB9 := below_fr HBB.out (Nat.le_refl _) F9 (fun k hk => hk)
                 clear hg' hnil'))
            go_roundw
            case rel => exact ⟨l.length + 1, l ++ [⟨true, (r1, r2), (r3, r4), t.str⟩], by go_num, by omega, by simp, chC_own2 (by rw [HTO.out.2.2.2.2]; exact hown') (by rw [List.length_append]; rfl), hB9, HCG.out⟩
            case measure => simp [RowKit.intOf]; omega
          | some gg =>
            cases bs with
            | true =>
              have HBC : Hid (bc = true) := Lib.hid (chsR_bad HCN.out (by
                unfold chR
                rw [HTO.out.1, HTO.out.2.1, if_pos (show (some gg).isSome = true from rfl)]
                dsimp only
                rw [HTO.out.2.2.1]))
              clear ho
              go_wp2_with (first
                | (with_reducible (show Calls _ _ _ Va _); go_at_call 76; refine h76.mono ?_; rintro e w3 ⟨rfl, hb3⟩
                   have hB3 := hBa.trans (hb3.mono hBa.size)
                   have hr3 := (hb3.block _ (ltS hVa)).trans hVa
                   have hs3 := hb3.size)
                | (with_reducible (show Calls _ _ _ V4 _); go_at_call 28; refine h28.mono ?_; rintro e w5 ⟨k3, kc3, i3, ic3, rfl, hb5⟩
                   obtain ⟨V5, hV5⟩ : ∃ V, w5.alloc (.cells #[.int .i64 g.kind, .string G, .slice k3 g.keys.length kc3, .slice i3 g.items.length ic3] 25) = V := ⟨_, rfl⟩
                   have hb5' := Below.on hb5 (alloc_b hV5)
                   have hB5 := hB4.trans (hb5'.mono hB4.size)
                   have hr5 := (hb5'.block _ (ltS hV4)).trans hV4
                   have hs5 := hb5'.size)
                | (go_at_call 82; refine h82.mono ?_; rintro e w7 ⟨rfl, hb7⟩
                   obtain ⟨V7, hV7⟩ : ∃ V, w7.alloc (.cells #[.int .i64 r1, .int .i64 r2, .int .i64 r3, .int .i64 r4] 115) = V := ⟨_, rfl⟩
                   have hb7' := Below.on hb7 (alloc_b hV7)
                   have hB7 := hB6.trans (hb7'.mono hB6.size)
                   have hr7 := (hb7'.block _ (ltS hV6)).trans hV6
                   obtain ⟨q0, q1, q2, q3⟩ := span_cells hV7 V7 (Below.refl _ _)
                   have hs7 := hb7'.size)
                | (refine store_part rfl 140 (.tmp 8) (.tmp 34) rfl wr.heap.size 0 (.agg #[.bool false, .int .i64 0, .int .i64 0, .int .i64 0, .int .i64 0, .string ⟨#[]⟩]) [.bool false, .int .i64 0, .int .i64 0, .int .i64 0, .int .i64 0, .string ⟨#[]⟩] rfl rfl rfl (by kernel_rfl) (fun u hu => by simp only [List.mem_cons, List.not_mem_nil, or_false] at hu; rcases hu with rfl | rfl | rfl | rfl | rfl | rfl <;> rfl) _ #[.bool false, .int .i64 0, .int .i64 0, .int .i64 0, .int .i64 0, .string ⟨#[]⟩] 140 hr2 (Nat.le_of_ble_eq_true rfl) rfl (fun Va hVa hga hsa => ?_)
                   clear hsa
                   have hBa := below_gb hB2 hga (by omega)
                   have hsza := hga.size
                   obtain ⟨e0, e1, e2, e3⟩ := HFB.out Va hBa
                   obtain ⟨g0, g1, g2, g3⟩ := HJC.out Va hBa
                   have h76 := HT76.out Va hBa)
                | (refine store_part rfl 9 (.tmp 47) (.tmp 46) rfl wr.heap.size 5 (.string T) [.string T] rfl rfl rfl (by kernel_rfl) (fun u hu => by rw [List.mem_singleton.1 hu]; rfl) _ #[.bool false, .int .i64 0, .int .i64 0, .int .i64 0, .int .i64 0, .string T] 140 hr3 (Nat.le_of_ble_eq_true rfl) rfl (fun V4 hV4 hg4 hs4 => ?_)
                   clear hs4
                   have hs4 := hg4.size
                   have hB4 := below_gb hB3 hg4 (by omega)
                   clear d0 d1 d2 d3 e0 e1 e2 e3 g0 g1 g2 g3
                   obtain ⟨e0, e1, e2, e3⟩ := HFB.out V4 hB4
                   obtain ⟨g0, g1, g2, g3⟩ := HJC.out V4 hB4
                   have h28 := HFO.out V4 hB4)
                | (refine store_part rfl 4 (.tmp 59) (.tmp 58) rfl wr.heap.size 0 (.bool false) [.bool false] rfl rfl rfl (by kernel_rfl) (fun u hu => by rw [List.mem_singleton.1 hu]; rfl) _ #[.bool false, .int .i64 0, .int .i64 0, .int .i64 0, .int .i64 0, .string T] 140 hr5 (Nat.le_of_ble_eq_true rfl) rfl (fun V6 hV6 hg6 hs6 => ?_)
                   clear hs6
                   have hs6 := hg6.size
                   have hB6 := below_gb hB5 hg6 (by omega)
                   clear e0 e1 e2 e3 g0 g1 g2 g3
                   obtain ⟨e0, e1, e2, e3⟩ := HFB.out V6 hB6
                   obtain ⟨g0, g1, g2, g3⟩ := HJC.out V6 hB6
                   have h82 := HSP.out V6 hB6))
              go_ret2
              obtain rfl : bc = true := HBC.out
              exact ⟨none, 0, 0, rfl, fun e => (by cases e), Below.on HB1.out hB7⟩
            | false =>
              have hz4 := HTO.out.2.2.2.1
              rw [if_neg (by decide)] at hz4
              have hcR : chR y false = (⟨false, (r1, r2), (r3, r4), t.str⟩, false) := by
                unfold chR
                rw [HTO.out.1, HTO.out.2.1, if_pos (show (some gg).isSome = true from rfl)]
                dsimp only
                rw [HTO.out.2.2.1, hz4]
              have HCG := Lib.hid (chsR_good HCN.out hcR)
              clear ho hcR hz4
              go_wp2_with (first
                | (with_reducible (show Calls _ _ _ Va _); go_at_call 76; refine h76.mono ?_; rintro e w3 ⟨rfl, hb3⟩
                   have hB3 := hBa.trans (hb3.mono hBa.size)
                   have hr3 := (hb3.block _ (ltS hVa)).trans hVa
                   have hs3 := hb3.size)
                | (with_reducible (show Calls _ _ _ V4 _); go_at_call 28; refine h28.mono ?_; rintro e w5 ⟨k3, kc3, i3, ic3, rfl, hb5⟩
                   obtain ⟨V5, hV5⟩ : ∃ V, w5.alloc (.cells #[.int .i64 g.kind, .string G, .slice k3 g.keys.length kc3, .slice i3 g.items.length ic3] 25) = V := ⟨_, rfl⟩
                   have hb5' := Below.on hb5 (alloc_b hV5)
                   have hB5 := hB4.trans (hb5'.mono hB4.size)
                   have hr5 := (hb5'.block _ (ltS hV4)).trans hV4
                   have hs5 := hb5'.size)
                | (go_at_call 82; refine h82.mono ?_; rintro e w7 ⟨rfl, hb7⟩
                   obtain ⟨V7, hV7⟩ : ∃ V, w7.alloc (.cells #[.int .i64 r1, .int .i64 r2, .int .i64 r3, .int .i64 r4] 115) = V := ⟨_, rfl⟩
                   have hb7' := Below.on hb7 (alloc_b hV7)
                   have hB7 := hB6.trans (hb7'.mono hB6.size)
                   have hr7 := (hb7'.block _ (ltS hV6)).trans hV6
                   obtain ⟨q0, q1, q2, q3⟩ := span_cells hV7 V7 (Below.refl _ _)
                   have hs7 := hb7'.size)
                | (refine store_part rfl 140 (.tmp 8) (.tmp 34) rfl wr.heap.size 0 (.agg #[.bool false, .int .i64 0, .int .i64 0, .int .i64 0, .int .i64 0, .string ⟨#[]⟩]) [.bool false, .int .i64 0, .int .i64 0, .int .i64 0, .int .i64 0, .string ⟨#[]⟩] rfl rfl rfl (by kernel_rfl) (fun u hu => by simp only [List.mem_cons, List.not_mem_nil, or_false] at hu; rcases hu with rfl | rfl | rfl | rfl | rfl | rfl <;> rfl) _ #[.bool false, .int .i64 0, .int .i64 0, .int .i64 0, .int .i64 0, .string ⟨#[]⟩] 140 hr2 (Nat.le_of_ble_eq_true rfl) rfl (fun Va hVa hga hsa => ?_)
                   clear hsa
                   have hBa := below_gb hB2 hga (by omega)
                   have hsza := hga.size
                   obtain ⟨e0, e1, e2, e3⟩ := HFB.out Va hBa
                   obtain ⟨g0, g1, g2, g3⟩ := HJC.out Va hBa
                   have h76 := HT76.out Va hBa)
                | (refine store_part rfl 9 (.tmp 47) (.tmp 46) rfl wr.heap.size 5 (.string T) [.string T] rfl rfl rfl (by kernel_rfl) (fun u hu => by rw [List.mem_singleton.1 hu]; rfl) _ #[.bool false, .int .i64 0, .int .i64 0, .int .i64 0, .int .i64 0, .string T] 140 hr3 (Nat.le_of_ble_eq_true rfl) rfl (fun V4 hV4 hg4 hs4 => ?_)
                   clear hs4
                   have hs4 := hg4.size
                   have hB4 := below_gb hB3 hg4 (by omega)
                   clear d0 d1 d2 d3 e0 e1 e2 e3 g0 g1 g2 g3
                   obtain ⟨e0, e1, e2, e3⟩ := HFB.out V4 hB4
                   obtain ⟨g0, g1, g2, g3⟩ := HJC.out V4 hB4
                   have h28 := HFO.out V4 hB4)
                | (refine store_part rfl 4 (.tmp 59) (.tmp 58) rfl wr.heap.size 0 (.bool false) [.bool false] rfl rfl rfl (by kernel_rfl) (fun u hu => by rw [List.mem_singleton.1 hu]; rfl) _ #[.bool false, .int .i64 0, .int .i64 0, .int .i64 0, .int .i64 0, .string T] 140 hr5 (Nat.le_of_ble_eq_true rfl) rfl (fun V6 hV6 hg6 hs6 => ?_)
                   clear hs6
                   have hs6 := hg6.size
                   have hB6 := below_gb hB5 hg6 (by omega)
                   clear e0 e1 e2 e3 g0 g1 g2 g3
                   obtain ⟨e0, e1, e2, e3⟩ := HFB.out V6 hB6
                   obtain ⟨g0, g1, g2, g3⟩ := HJC.out V6 hB6
                   have h82 := HSP.out V6 hB6)
                | (refine store_part rfl 115 (.tmp 75) (.tmp 74) rfl wr.heap.size 1 (.agg #[.int .i64 r1, .int .i64 r2, .int .i64 r3, .int .i64 r4]) [.int .i64 r1, .int .i64 r2, .int .i64 r3, .int .i64 r4] rfl rfl rfl (by kernel_rfl) (fun u hu => by simp only [List.mem_cons, List.not_mem_nil, or_false] at hu; rcases hu with rfl | rfl | rfl | rfl <;> rfl) _ #[.bool false, .int .i64 r1, .int .i64 r2, .int .i64 r3, .int .i64 r4, .string T] 140 hr7 (Nat.le_of_ble_eq_true rfl) rfl (fun V8 hV8 hg8 hs8 => ?_)
                   clear hs8
                   have hs8 := hg8.size
                   have hB8 := below_gb hB7 hg8 (by omega)
                   obtain ⟨y0, y1, y2, y3, y4, y5⟩ := cells6 hV8
                   have F8 := ((((((FrP.of_none (P := fun q => wr.heap.size ≤ q) (gb_below' hv2)).trans (FrP.of hga (Nat.le_refl _))).trans (FrP.of_none (gb_below' hb3))).trans (FrP.of hg4 (Nat.le_refl _))).trans (FrP.of_none (gb_below' hb5'))).trans (FrP.of hg6 (Nat.le_refl _))).trans ((FrP.of_none (gb_below' hb7')).trans (FrP.of hg8 (Nat.le_refl _)))
                   have hown8 := row_fr HOWN.out F8 (fun q hq hp => by have := row_lt HOWN.out hq; omega)
                   have hsz8 := F8.size)
                | (at_builtin; refine wpList_append_own _ rfl (.tmp 76) (.tmp 78) 34 rfl V1.heap.size 140 i140_ _ 6 56 Tryz.underlying34 hi140 hz0' hz1' hz2' rfl (by decide) _ _ _ rfl (hown8.alloc (.cells #[.bool false, .int .i64 r1, .int .i64 r2, .int .i64 r3, .int .i64 r4, .string T] 140)) ⟨V8.heap.size, 0, none⟩ 1 1 [.bool false, .int .i64 r1, .int .i64 r2, .int .i64 r3, .int .i64 r4, .string T] rfl rfl (cells_new V8 [.bool false, .int .i64 r1, .int .i64 r2, .int .i64 r3, .int .i64 r4, .string T] 140 _ rfl) (fun u hu => by simp only [List.mem_cons, List.not_mem_nil, or_false] at hu; rcases hu with rfl | rfl | rfl | rfl | rfl | rfl <;> rfl) (by unfold maxLen; omega) (by omega) (by simp; omega) ?_; intro v' w' hown' hg' hnil'
                   have F9 := ((F8.mono (Q := fun q => V1.heap.size ≤ q) (fun q hq hp => by omega)).alloc (.cells #[.bool false, .int .i64 r1, .int .i64 r2, .int .i64 r3, .int .i64 r4, .string T] 140)).trans (FrP.of_row hg' (fun q hq => (row_lt HOWN.out hq).1))
                   have hB9 := below_fr HBB.out (Nat.le_refl _) F9 (fun k hk => hk)
                   clear hg' hnil'))
              go_roundw
              case rel => exact ⟨l.length + 1, l ++ [⟨false, (r1, r2), (r3, r4), t.str⟩], by go_num, by omega, by simp, chC_own2 (by rw [HTO.out.2.2.2.2]; exact hown') (by rw [List.length_append]; rfl), hB9, HCG.out⟩
              case measure => simp [RowKit.intOf]; omega
      · have hd : f.items.drop l.length = [] := List.drop_eq_nil_of_le (by omega)
        have hch := HCH.out
        rw [hd] at hch
        unfold chsR at hch
        simp only [List.append_nil, Prod.mk.injEq] at hch
        obtain ⟨rfl, rfl⟩ := hch
        obtain ⟨pl, cl, rfl⟩ := row_shape hown
        go_wp2
        go_ret2
        have hs0 := HB1.out.size
        exact ⟨pl, _, cl, rfl, ⟨rfl, row_low hown hs0⟩, Below.on HB1.out hB⟩
  · have hfield := rfW (h.stay bW) hS (K := ⟨#[99, 111, 110, 116, 101, 110, 116, 67, 104, 97, 110, 103, 101, 115]⟩) (f := jn 0) (b := false) (by rw [show (⟨#[99, 111, 110, 116, 101, 110, 116, 67, 104, 97, 110, 103, 101, 115]⟩ : ByteArray).data.toList = kChanges from rfl, h1]; rfl) (by rw [show (⟨#[99, 111, 110, 116, 101, 110, 116, 67, 104, 97, 110, 103, 101, 115]⟩ : ByteArray).data.toList = kChanges from rfl, h1]; rfl) rfl W (Below.refl _ _)
    clear h hS hf h1 bW hc
    go_enter Tryz.func77, Tryz.ntmps77
    go_wp2_with (first
      | (go_at_call 28; refine hfield.mono ?_; rintro e w1 ⟨fp, fc, gp, gc, rfl, _, _, hb1⟩
         obtain ⟨V1, hV1⟩ : ∃ V, w1.alloc (.cells #[.int .i64 (jn 0).kind, .string ⟨(jn 0).str.toArray⟩, .slice fp (jn 0).keys.length fc, .slice gp (jn 0).items.length gc] 25) = V := ⟨_, rfl⟩
         have b1 := Below.on hb1 (alloc_b hV1)))
    go_ret2
    exact ⟨none, 0, 0, rfl, fun e => (by cases e), Below.on HBW.out b1⟩
  · obtain ⟨Y, hY⟩ : ∃ Y : ByteArray, (⟨y.str.toArray⟩ : ByteArray) = Y := ⟨_, rfl⟩
    have hfield := rfW (h.stay bW) hS (K := ⟨#[99, 111, 110, 116, 101, 110, 116, 67, 104, 97, 110, 103, 101, 115]⟩) (f := y) (b := true) (by rw [show (⟨#[99, 111, 110, 116, 101, 110, 116, 67, 104, 97, 110, 103, 101, 115]⟩ : ByteArray).data.toList = kChanges from rfl, h1]; rfl) (by rw [show (⟨#[99, 111, 110, 116, 101, 110, 116, 67, 104, 97, 110, 103, 101, 115]⟩ : ByteArray).data.toList = kChanges from rfl, h1]; rfl) hY W (Below.refl _ _)
    have t1 : (y.kind != 5) = true := by simp [h2]
    clear h hS hf hY h1 h2 bW hc
    go_enter Tryz.func77, Tryz.ntmps77
    go_wp2_with (first
      | (go_at_call 28; refine hfield.mono ?_; rintro e w1 ⟨fp, fc, gp, gc, rfl, _, _, hb1⟩
         obtain ⟨V1, hV1⟩ : ∃ V, w1.alloc (.cells #[.int .i64 y.kind, .string Y, .slice fp y.keys.length fc, .slice gp y.items.length gc] 25) = V := ⟨_, rfl⟩
         have b1 := Below.on hb1 (alloc_b hV1)
         obtain ⟨d0, d1, d2, d3⟩ := box_of hV1 V1 (Below.refl _ _)))
    go_ret2
    exact ⟨none, 0, 0, rfl, fun e => (by cases e), Below.on HBW.out b1⟩
end Go.Proofs.Ls
