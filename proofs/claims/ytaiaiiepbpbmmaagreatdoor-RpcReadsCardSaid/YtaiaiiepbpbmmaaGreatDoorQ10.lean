/- emendref24.Read. Printed by gen_q10b.py. -/
import Derived.Test.YtaiaiiepbpbmmaaGreatDoorQ9
import Derived.Test.YtaiaiiepbpbmmaaGreatDoorZZ
import Derived.Deep.CutBlock
namespace Go.Proofs.Rp
open Go.RowKit Go.Maps Go.Lib Go.Proofs.Utf Go.Proofs.Jt Go.Proofs

/-- a box of the reference's message -/
def RMBox (w : World) (z : Nat) : Prop := ∃ a b c d e f g h i, w.heap[z]? = some (.cells #[a, b, c, d, e, f, g, h, i] 64 (0, 0))
theorem store_rmsg2 {op : Oper} {a : Act} {w : World} {K : Act → World → Prop} {Q : Exit → Act → World → Prop} (x y : Operand) (ho : op.op = .store 64 x y) (z : Nat) (hx : a.eval x = .pointer (some ⟨z, 0, none⟩))
 (v0 v1 v2 v3 v4 v5 v6 v7 v8 : Value) (hy : a.eval y = .agg #[v0, v1, v2, v3, v4, v5, v6, v7, v8]) (h1 : (#[v0, v1, v2, v3, v4, v5, v6, v7, v8] : Array Value).all (·.oneCell') = true) (hz : RMBox w z)
 (h : ∀ W, W.heap[z]? = some (.cells #[v0, v1, v2, v3, v4, v5, v6, v7, v8] 64 (0, 0)) → w.grownBy W (some z) → W.heap.size = w.heap.size → K (a.put op.dst undef) W) : op.wp Tryz.prog a w K Q := by
 obtain ⟨a0, a1, a2, a3, a4, a5, a6, a7, a8, hz⟩ := hz
 refine wp_store_row 64 x y ho z #[v0, v1, v2, v3, v4, v5, v6, v7, v8] hx hy 64 #[a0, a1, a2, a3, a4, a5, a6, a7, a8] hz (by kernel_rfl) rfl h1 ?_
 exact h _ (heap_setRow_self hz) (gb_setRow _ _ _) (by show (w.heap.modify z _).size = _; rw [Array.size_modify])
theorem store_rmsg {ops : Array Oper} {rest : List Oper} {op : Oper} {a : Act} {w : World} {Q : Exit → Act → World → Prop} (hgd : op.guard = none) (x y : Operand) (ho : op.op = .store 64 x y) (z : Nat) (hx : a.eval x = .pointer (some ⟨z, 0, none⟩))
 (v0 v1 v2 v3 v4 v5 v6 v7 v8 : Value) (hy : a.eval y = .agg #[v0, v1, v2, v3, v4, v5, v6, v7, v8]) (h1 : (#[v0, v1, v2, v3, v4, v5, v6, v7, v8] : Array Value).all (·.oneCell') = true) (hz : RMBox w z)
 (h : ∀ W, W.heap[z]? = some (.cells #[v0, v1, v2, v3, v4, v5, v6, v7, v8] 64 (0, 0)) → w.grownBy W (some z) → W.heap.size = w.heap.size → wpList Tryz.prog ops Q rest (a.put op.dst undef) W) : wpList Tryz.prog ops Q (op :: rest) a w :=
 wpList_plain hgd fun _ hK => store_rmsg2 x y ho z hx v0 v1 v2 v3 v4 v5 v6 v7 v8 hy h1 hz fun W a b c => hK _ _ (h W a b c)
theorem store_rid2 {op : Oper} {a : Act} {w : World} {K : Act → World → Prop} {Q : Exit → Act → World → Prop} (x y : Operand) (ho : op.op = .store 62 x y) (z : Nat) (hx : a.eval x = .pointer (some ⟨z, 0, none⟩))
 (v0 v1 v2 : Value) (hy : a.eval y = .agg #[v0, v1, v2]) (h1 : (#[v0, v1, v2] : Array Value).all (·.oneCell') = true) (hz : RIBox w z)
 (h : ∀ W, W.heap[z]? = some (.cells #[v0, v1, v2] 62 (0, 0)) → w.grownBy W (some z) → W.heap.size = w.heap.size → K (a.put op.dst undef) W) : op.wp Tryz.prog a w K Q := by
 obtain ⟨a0, a1, a2, hz⟩ := hz
 refine wp_store_row 62 x y ho z #[v0, v1, v2] hx hy 62 #[a0, a1, a2] hz (by kernel_rfl) rfl h1 ?_
 exact h _ (heap_setRow_self hz) (gb_setRow _ _ _) (by show (w.heap.modify z _).size = _; rw [Array.size_modify])
theorem bad_ver {k : Int} {s : List UInt8} {x y z : Bool} (h : false = (decide (k = 4) && decide (s = v20))) : (decide (k ≠ 4) || decide (s ≠ v20) || x || y || z) = true := by
 by_cases a : k = 4
 · by_cases b : s = v20
   · simp [a, b] at h
   · simp [b]
 · simp [a]
theorem ribox_keep {w W : World} {z r : Nat} (h : RIBox w z) (hne : some z ≠ some r) (hg : w.grownBy W (some r)) : RIBox W z := by
 obtain ⟨a, b, c, h⟩ := h
 exact ⟨a, b, c, (hg.block z (ltS h) hne).trans h⟩
theorem ret_rread {fn : Func} {p q u : Tmp} (h : fn.results = #[.cell p 64, .cell q 62, .tmp u]) {tmps : Array Value} {w : World} {g g' : Nat} (hp : tmps.getD p undef = .pointer (some ⟨g, 0, none⟩)) (hq : tmps.getD q undef = .pointer (some ⟨g', 0, none⟩)) {v0 v1 v2 v3 v4 v5 v6 v7 v8 u0 u1 u2 e : Value} (he : tmps.getD u undef = e)
 (hg : w.heap[g]? = some (.cells #[v0, v1, v2, v3, v4, v5, v6, v7, v8] 64 (0, 0))) (hg' : w.heap[g']? = some (.cells #[u0, u1, u2] 62 (0, 0))) :
 (results fn tmps).run Tryz.prog w = .ok (.tuple #[.agg #[v0, v1, v2, v3, v4, v5, v6, v7, v8], .agg #[u0, u1, u2], e]) w := by
 have h1 := run_loadVar_row (P := Tryz.prog) w g 64 64 #[v0, v1, v2, v3, v4, v5, v6, v7, v8] (0, 0) _ hg Tryz.underlying64 rfl (by kernel_rfl)
 have h2 := run_loadVar_row (P := Tryz.prog) w g' 62 62 #[u0, u1, u2] (0, 0) _ hg' Tryz.underlying62 rfl (by kernel_rfl)
 have hp' : tmps[p]?.getD undef = .pointer (some ⟨g, 0, none⟩) := by simpa using hp
 have hq' : tmps[q]?.getD undef = .pointer (some ⟨g', 0, none⟩) := by simpa using hq
 have he' : tmps[u]?.getD undef = e := by simpa using he
 simp [results, h, hp', hq', he', asAddr, h1, h2]
set_option maxRecDepth 100000 in
set_option maxHeartbeats 16000000 in
theorem rread_any (s : ByteArray) {w : World} (hs : s.size ≤ 5000) : Calls Tryz.prog 36 #[.string s] w (RR w (readV s.data.toList)) := by
 obtain ⟨v, n, hp⟩ : ∃ v n, parV s.data.toList = (v, n) := ⟨_, _, rfl⟩
 have hrv : readV s.data.toList = if n ≠ 0 then (msg0, id0, -32700) else if v.kind ≠ 6 then (msg0, id0, -32600) else readJ v := by
  unfold readV
  rw [hp]
 rw [hrv]
 clear hrv
 obtain ⟨S, hS⟩ : ∃ S : ByteArray, (⟨v.str.toArray⟩ : ByteArray) = S := ⟨_, rfl⟩
 obtain ⟨W1, hW1⟩ : ∃ W, w.alloc (.cells #[.int .i64 0, .int .i64 0, .int .i64 0, .string ⟨#[]⟩, .string ⟨#[]⟩, .int .i64 0, .string ⟨#[]⟩, .slice none 0 0, .slice none 0 0] 64) = W := ⟨_, rfl⟩
 obtain ⟨W, hW⟩ : ∃ W, W1.alloc (.cells #[.int .i64 0, .int .i64 0, .string ⟨#[]⟩] 62) = W := ⟨_, rfl⟩
 have bW1 := alloc_b hW1
 have bW2 := alloc_b hW
 have bW := Below.on bW1 bW2
 have hz1 : W1.heap.size = w.heap.size + 1 := by rw [← hW1]; simp
 have hz2 : W.heap.size = w.heap.size + 2 := by rw [← hW]; simp; omega
 have hm := row_of hW1 W bW2
 have hi := row_of hW W (Below.refl _ _)
 rw [hz1] at hi
 have hpar := rparse_is (w := W) hs hp hS
 have HM : Hid (∀ V, Below W.heap.size W V → RMBox V w.heap.size) := Lib.hid fun V hV => ⟨_, _, _, _, _, _, _, _, _, (hV.block _ (ltS hm)).trans hm⟩
 have HI0 : Hid (∀ V, Below W.heap.size W V → RIBox V (w.heap.size + 1)) := Lib.hid fun V hV => ⟨_, _, _, (hV.block _ (ltS hi)).trans hi⟩
 have HS := Lib.hid hS
 have HBW := Lib.hid bW
 have HVW : Hid (n = 0 → v.wt ≤ 1000000) := Lib.hid fun e => by
  subst e
  have := par_wt hp
  rw [Array.length_toList] at this
  have : s.data.size = s.size := rfl
  omega
 have hP0 : n = 0 → parV s.data.toList = (v, 0) := fun e => by rw [← e]; exact hp
 have HP0 := Lib.hid hP0
 subst hW1
 clear hm hi hp hS bW bW1 bW2 hP0
 go_enter Tryz.func36, Tryz.ntmps36
 go_upto_region 2 with (first
  | (go_at_call 95; refine hpar.mono ?_; rintro e w1 ⟨kp, kc, ip, ic, rfl, hkp, hvl, hb1⟩
     obtain ⟨V1, hV1⟩ : ∃ V, w1.alloc (.cells #[.int .i64 v.kind, .string S, .slice kp v.keys.length kc, .slice ip v.items.length ic] 25) = V := ⟨_, rfl⟩
     have hv1 := alloc_b hV1
     have b1 := Below.on hb1 hv1
     have HX := Lib.hid (box_of hV1)
     have HK : Hid (∀ V, Below V1.heap.size V1 V → KP V (fun b => w.heap.size + 2 ≤ b) v kp kc ip ic) := Lib.hid fun V hV => kp_on ((kp_on hkp hv1).keep (Nat.le_refl _) (fun _ _ _ => rfl) (fun b hb _ => Nat.le_trans (Nat.le_of_eq hz2.symm) hb)) hV
     clear hkp hvl hpar hb1 hv1))
 by_cases hn0 : n = 0
 · subst hn0
   rw [if_neg (fun h => h rfl)]
   have HP := Lib.hid (HP0.out rfl)
   obtain ⟨x0, x1, x2, x3⟩ := HX.out V1 (Below.refl _ _)
   by_cases k6 : v.kind = 6
   · rw [if_neg (fun h => h k6)]
     have q6 : (v.kind != 6) = false := by simp [k6]
     have q6b : (v.kind == 6) = true := by simp [k6]
     have hwt := HVW.out rfl
     have hver := ver_eq HP.out kVer
     obtain ⟨i, hid⟩ : ∃ i, idOfV v = i := ⟨_, rfl⟩
     obtain ⟨I, hI⟩ : ∃ B : ByteArray, (⟨i.s.toArray⟩ : ByteArray) = B := ⟨_, rfl⟩
     obtain ⟨ix, hix⟩ : ∃ f, getV v kId = f := ⟨_, rfl⟩
     obtain ⟨bi, hbi⟩ : ∃ b, hasV v kId = b := ⟨_, rfl⟩
     obtain ⟨XS, hXS⟩ : ∃ B : ByteArray, (⟨ix.str.toArray⟩ : ByteArray) = B := ⟨_, rfl⟩
     obtain ⟨me, hme⟩ : ∃ f, getV v kMethod = f := ⟨_, rfl⟩
     obtain ⟨bm, hbm⟩ : ∃ b, hasV v kMethod = b := ⟨_, rfl⟩
     obtain ⟨MS, hMS⟩ : ∃ B : ByteArray, (⟨me.str.toArray⟩ : ByteArray) = B := ⟨_, rfl⟩
     obtain ⟨re, hre⟩ : ∃ f, getV v kResult = f := ⟨_, rfl⟩
     obtain ⟨br, hbr⟩ : ∃ b, hasV v kResult = b := ⟨_, rfl⟩
     obtain ⟨RS, hRS⟩ : ∃ B : ByteArray, (⟨re.str.toArray⟩ : ByteArray) = B := ⟨_, rfl⟩
     obtain ⟨er, her⟩ : ∃ f, getV v kError = f := ⟨_, rfl⟩
     obtain ⟨be, hbe⟩ : ∃ b, hasV v kError = b := ⟨_, rfl⟩
     obtain ⟨ES, hES⟩ : ∃ B : ByteArray, (⟨er.str.toArray⟩ : ByteArray) = B := ⟨_, rfl⟩
     obtain ⟨ve, hve⟩ : ∃ f, getV v kVer = f := ⟨_, rfl⟩
     obtain ⟨bv, hbv⟩ : ∃ b, hasV v kVer = b := ⟨_, rfl⟩
     obtain ⟨VS, hVS⟩ : ∃ B : ByteArray, (⟨ve.str.toArray⟩ : ByteArray) = B := ⟨_, rfl⟩
     obtain ⟨pa, hpa⟩ : ∃ f, getV v kParams = f := ⟨_, rfl⟩
     obtain ⟨bp, hbp⟩ : ∃ b, hasV v kParams = b := ⟨_, rfl⟩
     obtain ⟨PS, hPS⟩ : ∃ B : ByteArray, (⟨pa.str.toArray⟩ : ByteArray) = B := ⟨_, rfl⟩
     obtain ⟨Bv, hBv⟩ : ∃ b, eqV ve (txtV v20) = b := ⟨_, rfl⟩
     have hrj := readJ_eq v
     rw [hid, hbi, hbm, hbr, hbe, hbp, hme, hve, hpa] at hrj
     rw [hve, hBv] at hver
     have HRJ := Lib.hid hrj
     have HVE := Lib.hid hver
     have HBV := Lib.hid hBv
     have hi0 : bi = false → i = id0 := fun e => by
      rw [← hid]
      apply idOf_none
      rw [e] at hbi
      unfold hasV at hbi
      unfold getV
      cases hq : fieldV v kId with
      | none => rfl
      | some y => rw [hq] at hbi; cases hbi
     have HI0Z := Lib.hid hi0
     have H3 := Lib.hid (And.intro hix (And.intro hbi hXS))
     have H4 := Lib.hid (And.intro hme (And.intro hbm hMS))
     have H5 := Lib.hid (And.intro hre (And.intro hbr hRS))
     have H6 := Lib.hid (And.intro her (And.intro hbe hES))
     have H7 := Lib.hid (And.intro hve (And.intro hbv hVS))
     have H8 := Lib.hid (And.intro hpa (And.intro hbp hPS))
     have HI := Lib.hid hI
     have HWT := Lib.hid hwt
     have h96 := ridOf_any (HK.out V1 (Below.refl _ _)).ki hwt HS.out i hid I hI
     rw [k6] at h96
     clear hrj hid hI hwt hver hBv hi0 hix hbi hXS hme hbm hMS hre hbr hRS her hbe hES hve hbv hVS hpa hbp hPS
     go_upto_region 11 with (first
      | (go_at_call 96; refine h96.mono ?_; rintro e w2 ⟨rfl, hb2⟩
         obtain ⟨V2, hV2⟩ : ∃ V, w2.alloc (.cells #[.int .i64 i.k, .int .i64 i.n, .string I] 62) = V := ⟨_, rfl⟩
         have hv2 := alloc_b hV2
         have b2 := Below.on hb2 hv2
         have HX2 := Lib.hid (row_of hV2)
         clear h96 x0 x1 x2 x3
         obtain ⟨x0, x1, x2, x3⟩ := HX.out V2 b2
         have h3 := rfieldK_is (K := ⟨#[105, 100]⟩) (HK.out V2 b2) HS.out H3.out.1 H3.out.2.1 H3.out.2.2 V2 (Below.refl _ _)
         rw [k6] at h3)
      | (with_reducible (show Calls _ _ _ V2 _); go_at_call 28; refine h3.mono ?_; rintro e w3 ⟨p3, q3, r3, s3, rfl, hk3, _, hb3⟩
         obtain ⟨V3, hV3⟩ : ∃ V, w3.alloc (.cells #[.int .i64 ix.kind, .string XS, .slice p3 ix.keys.length q3, .slice r3 ix.items.length s3] 25) = V := ⟨_, rfl⟩
         have hv3 := alloc_b hV3
         have b3 := Below.on b2 (Below.on hb3 hv3)
         have HX3 := Lib.hid (row_of hV3)
         have HK3 := Lib.hid (kp_on (kp_on hk3 hb3) hv3)
         clear hk3 h3 x0 x1 x2 x3
         obtain ⟨x0, x1, x2, x3⟩ := HX.out V3 b3
         have h4 := rfieldK_is (K := ⟨#[109, 101, 116, 104, 111, 100]⟩) (HK.out V3 b3) HS.out H4.out.1 H4.out.2.1 H4.out.2.2 V3 (Below.refl _ _)
         rw [k6] at h4)
      | (with_reducible (show Calls _ _ _ V3 _); go_at_call 28; refine h4.mono ?_; rintro e w4 ⟨p4, q4, r4, s4, rfl, hk4, _, hb4⟩
         obtain ⟨V4, hV4⟩ : ∃ V, w4.alloc (.cells #[.int .i64 me.kind, .string MS, .slice p4 me.keys.length q4, .slice r4 me.items.length s4] 25) = V := ⟨_, rfl⟩
         have hv4 := alloc_b hV4
         have b4 := Below.on b3 (Below.on hb4 hv4)
         have HX4 := Lib.hid (row_of hV4)
         have HK4 := Lib.hid (kp_on (kp_on hk4 hb4) hv4)
         clear hk4 h4 x0 x1 x2 x3
         obtain ⟨x0, x1, x2, x3⟩ := HX.out V4 b4
         have h5 := rfieldK_is (K := ⟨#[114, 101, 115, 117, 108, 116]⟩) (HK.out V4 b4) HS.out H5.out.1 H5.out.2.1 H5.out.2.2 V4 (Below.refl _ _)
         rw [k6] at h5)
      | (with_reducible (show Calls _ _ _ V4 _); go_at_call 28; refine h5.mono ?_; rintro e w5 ⟨p5, q5, r5, s5, rfl, hk5, _, hb5⟩
         obtain ⟨V5, hV5⟩ : ∃ V, w5.alloc (.cells #[.int .i64 re.kind, .string RS, .slice p5 re.keys.length q5, .slice r5 re.items.length s5] 25) = V := ⟨_, rfl⟩
         have hv5 := alloc_b hV5
         have b5 := Below.on b4 (Below.on hb5 hv5)
         have HX5 := Lib.hid (row_of hV5)
         have HK5 := Lib.hid (kp_on (kp_on hk5 hb5) hv5)
         clear hk5 h5 x0 x1 x2 x3
         obtain ⟨x0, x1, x2, x3⟩ := HX.out V5 b5
         have h6 := rfieldK_is (K := ⟨#[101, 114, 114, 111, 114]⟩) (HK.out V5 b5) HS.out H6.out.1 H6.out.2.1 H6.out.2.2 V5 (Below.refl _ _)
         rw [k6] at h6)
      | (with_reducible (show Calls _ _ _ V5 _); go_at_call 28; refine h6.mono ?_; rintro e w6 ⟨p6, q6, r6, s6, rfl, hk6, _, hb6⟩
         obtain ⟨V6, hV6⟩ : ∃ V, w6.alloc (.cells #[.int .i64 er.kind, .string ES, .slice p6 er.keys.length q6, .slice r6 er.items.length s6] 25) = V := ⟨_, rfl⟩
         have hv6 := alloc_b hV6
         have b6 := Below.on b5 (Below.on hb6 hv6)
         have HX6 := Lib.hid (row_of hV6)
         have HK6 := Lib.hid (kp_on (kp_on hk6 hb6) hv6)
         clear hk6 h6 x0 x1 x2 x3
         obtain ⟨x0, x1, x2, x3⟩ := HX.out V6 b6))
     clear x0 x1 x2 x3
     obtain ⟨zi, hzie⟩ : ∃ z, w2.heap.size = z := ⟨_, rfl⟩
     obtain ⟨zm, hzme⟩ : ∃ z, w4.heap.size = z := ⟨_, rfl⟩
     have hni : w.heap.size + 2 ≤ zi := by have := b1.size; have := hb2.size; omega
     have hnm : w.heap.size + 2 ≤ zm := by have := b1.size; have := b3.size; have := hb4.size; omega
     have bV2 : Below V2.heap.size V2 V6 := Below.on (Below.on (Below.on (Below.on hb3 hv3) (Below.on hb4 hv4)) (Below.on hb5 hv5)) (Below.on hb6 hv6)
     have bV4 : Below V4.heap.size V4 V6 := Below.on (Below.on hb5 hv5) (Below.on hb6 hv6)
     go_cut [63] (fun x wx => x = .bool (!bm && (br || be)) ∧ Below V6.heap.size V6 wx)
     case first =>
      cases bm with
      | true =>
       go_wp2_with fail
       go_meet
       exact ⟨rfl, Below.refl _ _⟩
      | false =>
       cases br with
       | true =>
        go_wp2_with fail
        go_meet
        exact ⟨rfl, Below.refl _ _⟩
       | false =>
        go_wp2_with fail
        go_meet
        exact ⟨rfl, Below.refl _ _⟩
     case rest =>
      obtain ⟨rfl, hbc⟩ := hcut
      have b2c := Below.on b6 hbc
      cases hq : (!bm && (br || be)) with
      | true =>
       have hBz : Below w.heap.size w wc := Below.on HBW.out (Below.on b1 b2c)
       have hzi := HX2.out wc (Below.on bV2 hbc)
       rw [hzie] at hzi
       have hmb := HM.out wc (Below.on b1 b2c)
       have hib := HI0.out wc (Below.on b1 b2c)
       go_upto_region 12 with fail
       rw [hzie]
       refine wp_region_held_drew (S := (fun v => v.heap[zi]? = some (.cells #[.int .i64 i.k, .int .i64 i.n, .string I] 62 (0, 0)) ∧ RMBox v w.heap.size ∧ RIBox v (w.heap.size + 1))) (by kernel_rfl) ⟨hzi, hmb, hib⟩ (fun hHeld => ?_)
       refine wpAnyH_take (i := 0) (oi := { dst := some 64, op := Op.load 62 (Operand.tmp 7), type := 62, pos := "ref.go:87", after := #[], guard := none }) (v := ?_) rfl (by kernel_rfl) (by kernel_rfl) (by kernel_rfl) (fun _ _ _ h => h) (Or.inl ⟨by rfl, ?_⟩) (by assumption) ?_
       rotate_left
       · intro wx hS; obtain ⟨s1, s2, s3⟩ := hS; obtain ⟨i0, i1, i2, _⟩ := cells3 s1; go_simp; with_reducible rfl
       try simp only [Act.put, aSA, aSZ, aSS]
       refine wpAnyH_take (i := 1) (oi := { dst := some 65, op := Op.build 64 #[(0, Operand.const (Value.int IntKind.i64 3)), (1, Operand.tmp 64)], type := 64, pos := "ref.go:87", after := #[eDa 0], guard := none }) (v := ?_) rfl (by kernel_rfl) (by kernel_rfl) (by kernel_rfl) (fun _ _ _ h => h) (Or.inl ⟨by rfl, ?_⟩) (by assumption) ?_
       rotate_left
       · intro wx hS; obtain ⟨s1, s2, s3⟩ := hS; obtain ⟨i0, i1, i2, _⟩ := cells3 s1; go_simp; with_reducible rfl
       try simp only [Act.put, aSA, aSZ, aSS]
       refine wpAnyH_take (i := 2) (oi := { dst := some 66, op := Op.load 62 (Operand.tmp 7), type := 62, pos := "ref.go:87", after := #[{ on := 3, ground := Ground.gcOnly Departure.lateStores }], guard := none }) (v := ?_) rfl (by kernel_rfl) (by kernel_rfl) (by kernel_rfl) (fun _ _ _ h => h) (Or.inl ⟨by rfl, ?_⟩) (by assumption) ?_
       rotate_left
       · intro wx hS; obtain ⟨s1, s2, s3⟩ := hS; obtain ⟨i0, i1, i2, _⟩ := cells3 s1; go_simp; with_reducible rfl
       try simp only [Act.put, aSA, aSZ, aSS]
       have hh := hHeld
       refine wpAnyH_ready (rs := [3]) (by kernel_rfl) (by simp) (AllReadyH.cons (o := { dst := none, op := Op.store 64 (Operand.tmp 2) (Operand.tmp 65), type := 0, pos := "ref.go:87", after := #[eDa 1, ePh 0, ePh 1, { on := 2, ground := Ground.textOnly Departure.lateStores }], guard := none }) rfl (fun K hK => ?_) AllReadyH.nil)
       rw [if_pos (by rfl)]
       refine store_rmsg2 (.tmp 2) (.tmp 65) rfl w.heap.size rfl (.int .i64 3) (.int .i64 i.k) (.int .i64 i.n) (.string I) (.string ⟨#[]⟩) (.int .i64 0) (.string ⟨#[]⟩) (.slice none 0 0) (.slice none 0 0) rfl (by simp [Value.oneCell']) hh.2.1 (fun Y1 hY1 hg1 _ => ?_)
       have t1 := (hg1.block zi (ltS hh.1) (fun e => by have := Option.some.inj e; omega)).trans hh.1
       have t5 : RIBox Y1 (w.heap.size + 1) := ribox_keep hh.2.2 (fun e => by have := Option.some.inj e; omega) hg1
       refine hK.out _ _ ⟨t1, ⟨_, _, _, _, _, _, _, _, _, hY1⟩, t5⟩ (fun _ => ?_)
       clear hK K
       try simp only [Act.put]
       refine wpAnyH_ready (rs := [4]) (by kernel_rfl) (by simp) (AllReadyH.cons (o := { dst := none, op := Op.store 62 (Operand.tmp 3) (Operand.tmp 66), type := 0, pos := "ref.go:87", after := #[eDa 2, eCh 3, ePh 0, ePh 1, ePh 2, ePh 3], guard := none }) rfl (fun K hK => ?_) AllReadyH.nil)
       rw [if_pos (by rfl)]
       refine store_rid2 (.tmp 3) (.tmp 66) rfl (w.heap.size + 1) rfl (.int .i64 i.k) (.int .i64 i.n) (.string I) rfl (by simp [Value.oneCell']) t5 (fun Y2 hY2 hg2 _ => ?_)
       have u1 := (hg2.block zi (ltS t1) (fun e => by have := Option.some.inj e; omega)).trans t1
       have t4 := (hg2.block w.heap.size (ltS hY1) (fun e => by have := Option.some.inj e; omega)).trans hY1
       refine hK.out _ _ ⟨u1, ⟨_, _, _, _, _, _, _, _, _, t4⟩, ⟨_, _, _, hY2⟩⟩ (fun _ => ?_)
       clear hK K
       try simp only [Act.put]
       refine wpAnyH_ready (rs := [5]) (by kernel_rfl) (by simp) (AllReadyH.cons (o := { dst := some 4, op := Op.assign (Operand.const (Value.int IntKind.i64 0)), type := 3, pos := "ref.go:87", after := #[eCh 4, ePh 0, ePh 1, ePh 2, ePh 3, ePh 4], guard := none }) rfl (fun K hK => ?_) AllReadyH.nil)
       rw [if_pos (by rfl)]
       go_simp
       refine hK.out _ _ ⟨u1, ⟨_, _, _, _, _, _, _, _, _, t4⟩, ⟨_, _, _, hY2⟩⟩ (fun _ => ?_)
       clear hK K
       try simp only [Act.put, aSA, aSZ, aSS]
       refine wpAnyH_done (by kernel_rfl) ?_ _
       go_wp2_with fail
       refine bodyPost_ret (ret_rread Tryz.results36 rfl rfl rfl t4 hY2) rfl ?_
       have hbE : Below w.heap.size w Y2 := below_gbz (below_gbz hBz.drew (Nat.le_refl _) hg1) (Nat.le_succ _) hg2
       rw [HRJ.out, hq, if_pos rfl]
       exact ⟨none, 0, none, 0, by rw [← HI.out]; rfl, ki_leaf rfl rfl, hbE⟩
      | false =>
       obtain ⟨x0, x1, x2, x3⟩ := HX.out wc b2c
       have h7 := rfieldK_is (K := ⟨#[106, 115, 111, 110, 114, 112, 99]⟩) (HK.out wc b2c) HS.out H7.out.1 H7.out.2.1 H7.out.2.2 wc (Below.refl _ _)
       rw [k6] at h7
       go_upto_region 15 with (first
        | (with_reducible (show Calls _ _ _ wc _); go_at_call 28; refine h7.mono ?_; rintro e w7 ⟨p7, q7, r7, s7, rfl, hk7, _, hb7⟩
           obtain ⟨V7, hV7⟩ : ∃ V, w7.alloc (.cells #[.int .i64 ve.kind, .string VS, .slice p7 ve.keys.length q7, .slice r7 ve.items.length s7] 25) = V := ⟨_, rfl⟩
           have hv7 := alloc_b hV7
           have b7 := Below.on b2c (Below.on hb7 hv7)
           have HX7 := Lib.hid (row_of hV7)
           have HK7 := Lib.hid (kp_on (kp_on hk7 hb7) hv7)
           clear hk7 h7 x0 x1 x2 x3
           obtain ⟨x0, x1, x2, x3⟩ := HX.out V7 b7
           have h8 := rfieldK_is (K := ⟨#[112, 97, 114, 97, 109, 115]⟩) (HK.out V7 b7) HS.out H8.out.1 H8.out.2.1 H8.out.2.2 V7 (Below.refl _ _)
           rw [k6] at h8)
        | (with_reducible (show Calls _ _ _ V7 _); go_at_call 28; refine h8.mono ?_; rintro e w8 ⟨p8, q8, r8, s8, rfl, hk8, _, hb8⟩
           obtain ⟨V8, hV8⟩ : ∃ V, w8.alloc (.cells #[.int .i64 pa.kind, .string PS, .slice p8 pa.keys.length q8, .slice r8 pa.items.length s8] 25) = V := ⟨_, rfl⟩
           have hv8 := alloc_b hV8
           have b8 := Below.on b7 (Below.on hb8 hv8)
           have HX8 := Lib.hid (row_of hV8)
           have HK8 := Lib.hid (kp_on (kp_on hk8 hb8) hv8)
           clear hk8 h8 x0 x1 x2 x3
           obtain ⟨x0, x1, x2, x3⟩ := HX.out V8 b8))
       clear x0 x1 x2 x3
       obtain ⟨zp, hzpe⟩ : ∃ z, w8.heap.size = z := ⟨_, rfl⟩
       obtain ⟨zv, hzve⟩ : ∃ z, w7.heap.size = z := ⟨_, rfl⟩
       have hnp : w.heap.size + 2 ≤ zp := by have := b1.size; have := b7.size; have := hb8.size; omega
       have bVc : Below V6.heap.size V6 V8 := Below.on (Below.on hbc (Below.on hb7 hv7)) (Below.on hb8 hv8)
       have hx2 := HX2.out V8 (Below.on bV2 bVc)
       have hx4 := HX4.out V8 (Below.on bV4 bVc)
       have hx7 := HX7.out V8 (Below.on hb8 hv8)
       have hx8 := HX8.out V8 (Below.refl _ _)
       have hkp8 := HK8.out
       rw [hzie] at hx2
       rw [hzme] at hx4
       rw [hzve] at hx7
       rw [hzpe] at hx8
       have HQ8 : Hid (∀ V, Below V8.heap.size V8 V → V.heap[zi]? = some (.cells #[.int .i64 i.k, .int .i64 i.n, .string I] 62 (0, 0)) ∧ V.heap[zm]? = some (.cells #[.int .i64 me.kind, .string MS, .slice p4 me.keys.length q4, .slice r4 me.items.length s4] 25 (0, 0)) ∧ V.heap[zp]? = some (.cells #[.int .i64 pa.kind, .string PS, .slice p8 pa.keys.length q8, .slice r8 pa.items.length s8] 25 (0, 0)) ∧ V.heap[zv]? = some (.cells #[.int .i64 ve.kind, .string VS, .slice p7 ve.keys.length q7, .slice r7 ve.items.length s7] 25 (0, 0))) := Lib.hid fun V hV => ⟨(hV.block _ (ltS hx2)).trans hx2, (hV.block _ (ltS hx4)).trans hx4, (hV.block _ (ltS hx8)).trans hx8, (hV.block _ (ltS hx7)).trans hx7⟩
       have HKV : Hid (∀ V, Below V8.heap.size V8 V → KI V ve p7 q7 r7 s7) := Lib.hid fun V hV => (HK7.out.ki.stay (Below.on hb8 hv8)).stay hV
       have HKP : Hid (∀ V, Below V8.heap.size V8 V → KP V (fun b => w.heap.size + 2 ≤ b) pa p8 q8 r8 s8) := Lib.hid fun V hV => kp_on hkp8 hV
       have HB8 : Hid (∀ V, Below V8.heap.size V8 V → Below w.heap.size w V ∧ RMBox V w.heap.size ∧ RIBox V (w.heap.size + 1)) := Lib.hid fun V hV => ⟨Below.on HBW.out (Below.on b1 (Below.on b8 hV)), HM.out V (Below.on b1 (Below.on b8 hV)), HI0.out V (Below.on b1 (Below.on b8 hV))⟩
       clear hx2 hx4 hx7 hx8 hkp8 HX HX2 HX3 HX4 HX5 HX6 HX7 HX8 HK HK3 HK4 HK5 HK6 HK7 HK8 b2c bVc bV2 bV4 b1 b2 b3 b4 b5 b6 b7 b8 hb2 hb3 hb4 hb5 hb6 hb7 hb8 hbc hv2 hv3 hv4 hv5 hv6 hv7 hv8
       rw [hzpe, hzve]
       have HS9 : Hid (∀ V, Below V8.heap.size V8 V → (V.cell? ⟨zv, 0, none⟩ = some (.int .i64 ve.kind) ∧ V.cell? ⟨zv, 1, none⟩ = some (.string VS) ∧ V.cell? ⟨zv, 2, none⟩ = some (.slice p7 ve.keys.length q7) ∧ V.cell? ⟨zv, 3, none⟩ = some (.slice r7 ve.items.length s7) ∧ V.cell? ⟨zm, 0, none⟩ = some (.int .i64 me.kind))) := Lib.hid fun V hV => by
        obtain ⟨a0, a1, a2, a3⟩ := cells4 (HQ8.out V hV).2.2.2
        obtain ⟨c0, _, _, _⟩ := cells4 (HQ8.out V hV).2.1
        exact ⟨a0, a1, a2, a3, c0⟩
       have hb0 : Below V8.heap.size V8 V8.drew := (Below.refl _ _).drew
       have HD := HS9.out _ hb0
       obtain ⟨Km, hKm⟩ : ∃ b, (me.kind != 4) = b := ⟨_, rfl⟩
       have HKm := Lib.hid hKm
       cases Bv with
       | false =>
        refine wp_region_held_drew (S := fun V => V.cell? ⟨zv, 0, none⟩ = some (.int .i64 ve.kind) ∧ V.cell? ⟨zv, 1, none⟩ = some (.string VS) ∧ V.cell? ⟨zv, 2, none⟩ = some (.slice p7 ve.keys.length q7) ∧ V.cell? ⟨zv, 3, none⟩ = some (.slice r7 ve.items.length s7) ∧ V.cell? ⟨zm, 0, none⟩ = some (.int .i64 me.kind)) (by kernel_rfl) HD (fun hHeld => ?_)
        refine wpAnyH_take (i := 0) (oi := { dst := some 77, op := Op.load 25 (Operand.tmp 16), type := 25, pos := "ref.go:91", after := #[], guard := none }) (v := ?_) rfl (by kernel_rfl) (by kernel_rfl) (by kernel_rfl) (fun _ _ _ h => h) (Or.inl ⟨by rfl, ?_⟩) (by assumption) ?_
        rotate_left
        · intro wx hS; obtain ⟨a0, a1, a2, a3, c0⟩ := hS; go_simp; with_reducible rfl
        try simp only [Act.put, aSA, aSZ, aSS]
        refine wpAnyH_ready (rs := [1]) (by kernel_rfl) (by simp) (AllReadyH.cons (o := { dst := some 78, op := Op.call { callee := Callee.value (Operand.func 97), args := #[Operand.const (Value.string { data := #[50, 46, 48] })], argTypes := #[9] }, type := 25, pos := "ref.go:91", after := #[], guard := none }) rfl (fun K hK => ?_) AllReadyH.nil)
        rw [if_pos (by rfl)]
        go_simp
        go_at_call 97
        refine (rtxt_any _ _).mono ?_
        rintro e wa ⟨rfl, hba⟩
        have hb0 := Below.on hb0 hba
        have h24 : Calls Tryz.prog 24 #[.agg #[.int .i64 ve.kind, .string VS, .slice p7 ve.keys.length q7, .slice r7 ve.items.length s7], .agg #[.int .i64 4, .string ⟨#[50, 46, 48]⟩, .slice none 0 0, .slice none 0 0]] wa fun e w'' => e = .returned (.bool false) ∧ Below wa.heap.size wa w'' := by
         have := equal_is (y := txtV v20) (Y := ⟨#[50, 46, 48]⟩) (HKV.out wa hb0) (ki_leaf rfl rfl) H7.out.2.2 rfl wa (Below.refl _ _)
         rw [HBV.out] at this
         exact this
        refine hK.out _ _ (HS9.out _ hb0) (fun hH1 => ?_)
        clear hK K
        try simp only [Act.put, aSA, aSZ, aSS]
        refine wpAnyH_ready (rs := [2]) (by kernel_rfl) (by simp) (AllReadyH.cons (o := { dst := some 79, op := Op.call { callee := Callee.value (Operand.func 24), args := #[Operand.tmp 77, Operand.tmp 78], argTypes := #[25, 25] }, type := 4, pos := "ref.go:91", after := #[eDa 0, eDa 1, eCh 1], guard := none }) rfl (fun K hK => ?_) AllReadyH.nil)
        rw [if_pos (by rfl)]
        go_simp
        go_at_call 24
        refine h24.mono ?_
        rintro e wb ⟨rfl, hbb⟩
        have hb0 := Below.on hb0 hbb
        refine hK.out _ _ (HS9.out _ hb0) (fun hH2 => ?_)
        clear hK K
        try simp only [Act.put, aSA, aSZ, aSS]
        refine wpAnyH_take (i := 3) (oi := { dst := some 80, op := Op.unOp UnOp.not 4 (Operand.tmp 79), type := 4, pos := "ref.go:91", after := #[eDa 2], guard := none }) (v := ?_) rfl (by kernel_rfl) (by kernel_rfl) (by kernel_rfl) (fun _ _ _ h => h) (Or.inl ⟨by rfl, ?_⟩) (by assumption) ?_
        rotate_left
        · intro wx hS; go_simp; with_reducible rfl
        try simp only [Act.put, aSA, aSZ, aSS]
        refine wpAnyH_take (i := 4) (oi := { dst := some 81, op := Op.move (Operand.tmp 80), type := 4, pos := "ref.go:91", after := #[eDa 3, eCh 2], guard := none }) (v := ?_) rfl (by kernel_rfl) (by kernel_rfl) (by kernel_rfl) (fun _ _ _ h => h) (Or.inl ⟨by rfl, ?_⟩) (by assumption) ?_
        rotate_left
        · intro wx hS; go_simp; with_reducible rfl
        try simp only [Act.put, aSA, aSZ, aSS]
        refine wpAnyH_take (i := 5) (oi := { dst := some 82, op := Op.fieldAddr 25 (Operand.tmp 10) 0, type := 0, pos := "ref.go:91", after := #[eGu 4], guard := some (4, false) }) (v := undef) rfl (by kernel_rfl) (by kernel_rfl) (by kernel_rfl) (fun _ _ _ h => h) (Or.inr ⟨by rfl, rfl⟩) (by assumption) ?_
        try simp only [Act.put, aSA, aSZ, aSS]
        refine wpAnyH_take (i := 6) (oi := { dst := some 83, op := Op.load 3 (Operand.tmp 82), type := 3, pos := "ref.go:91", after := #[eDa 5, eGu 4], guard := some (4, false) }) (v := undef) rfl (by kernel_rfl) (by kernel_rfl) (by kernel_rfl) (fun _ _ _ h => h) (Or.inr ⟨by rfl, rfl⟩) (by assumption) ?_
        try simp only [Act.put, aSA, aSZ, aSS]
        refine wpAnyH_take (i := 7) (oi := { dst := some 84, op := Op.binOp BinOp.neq 3 (Operand.tmp 83) (Operand.const (Value.int IntKind.i64 4)) 3, type := 4, pos := "ref.go:91", after := #[eDa 6, eGu 4], guard := some (4, false) }) (v := undef) rfl (by kernel_rfl) (by kernel_rfl) (by kernel_rfl) (fun _ _ _ h => h) (Or.inr ⟨by rfl, rfl⟩) (by assumption) ?_
        try simp only [Act.put, aSA, aSZ, aSS]
        refine wpAnyH_take (i := 8) (oi := { dst := some 85, op := Op.pick (Operand.tmp 81) (Operand.const (Value.bool true)) (Operand.tmp 84), type := 4, pos := "ref.go:91", after := #[eDa 4, eDa 7], guard := none }) (v := ?_) rfl (by kernel_rfl) (by kernel_rfl) (by kernel_rfl) (fun _ _ _ h => h) (Or.inl ⟨by rfl, ?_⟩) (by assumption) ?_
        rotate_left
        · intro wx hS; go_simp; with_reducible rfl
        try simp only [Act.put, aSA, aSZ, aSS]
        refine wpAnyH_done (by kernel_rfl) ?_ _
        clear HD
        go_upto_region 16 with fail
        obtain ⟨hzi, hzm, hzp, _⟩ := HQ8.out wb hb0
        obtain ⟨hBz, hmb, hib⟩ := HB8.out wb hb0
        refine wp_region_held_drew (S := (fun v => v.heap[zi]? = some (.cells #[.int .i64 i.k, .int .i64 i.n, .string I] 62 (0, 0)) ∧ v.heap[zm]? = some (.cells #[.int .i64 me.kind, .string MS, .slice p4 me.keys.length q4, .slice r4 me.items.length s4] 25 (0, 0)) ∧ v.heap[zp]? = some (.cells #[.int .i64 pa.kind, .string PS, .slice p8 pa.keys.length q8, .slice r8 pa.items.length s8] 25 (0, 0)) ∧ RMBox v w.heap.size ∧ RIBox v (w.heap.size + 1))) (by kernel_rfl) ⟨hzi, hzm, hzp, hmb, hib⟩ (fun hHeld => ?_)
        refine wpAnyH_take (i := 0) (oi := { dst := some 86, op := Op.build 64 #[], type := 64, pos := "ref.go:92", after := #[], guard := none }) (v := ?_) rfl (by kernel_rfl) (by kernel_rfl) (by kernel_rfl) (fun _ _ _ h => h) (Or.inl ⟨by rfl, ?_⟩) (by assumption) ?_
        rotate_left
        · intro wx hS; obtain ⟨s1, s2, s3, s4, s5⟩ := hS; obtain ⟨i0, i1, i2, _⟩ := cells3 s1; obtain ⟨k0, k1, k2, k3⟩ := cells4 s2; obtain ⟨y0, y1, y2, y3⟩ := cells4 s3; go_simp; with_reducible rfl
        try simp only [Act.put, aSA, aSZ, aSS]
        refine wpAnyH_take (i := 1) (oi := { dst := some 87, op := Op.load 62 (Operand.tmp 7), type := 62, pos := "ref.go:92", after := #[{ on := 2, ground := Ground.gcOnly Departure.lateStores }], guard := none }) (v := ?_) rfl (by kernel_rfl) (by kernel_rfl) (by kernel_rfl) (fun _ _ _ h => h) (Or.inl ⟨by rfl, ?_⟩) (by assumption) ?_
        rotate_left
        · intro wx hS; obtain ⟨s1, s2, s3, s4, s5⟩ := hS; obtain ⟨i0, i1, i2, _⟩ := cells3 s1; obtain ⟨k0, k1, k2, k3⟩ := cells4 s2; obtain ⟨y0, y1, y2, y3⟩ := cells4 s3; go_simp; with_reducible rfl
        try simp only [Act.put, aSA, aSZ, aSS]
        have hh := hHeld
        refine wpAnyH_ready (rs := [2]) (by kernel_rfl) (by simp) (AllReadyH.cons (o := { dst := none, op := Op.store 64 (Operand.tmp 2) (Operand.tmp 86), type := 0, pos := "ref.go:92", after := #[eDa 0, ePh 0, { on := 1, ground := Ground.textOnly Departure.lateStores }], guard := none }) rfl (fun K hK => ?_) AllReadyH.nil)
        rw [if_pos (by rfl)]
        refine store_rmsg2 (.tmp 2) (.tmp 86) rfl w.heap.size rfl (.int .i64 0) (.int .i64 0) (.int .i64 0) (.string ⟨#[]⟩) (.string ⟨#[]⟩) (.int .i64 0) (.string ⟨#[]⟩) (.slice none 0 0) (.slice none 0 0) rfl (by simp [Value.oneCell']) hh.2.2.2.1 (fun Y1 hY1 hg1 _ => ?_)
        have t1 := (hg1.block zi (ltS hh.1) (fun e => by have := Option.some.inj e; omega)).trans hh.1
        have t2 := (hg1.block zm (ltS hh.2.1) (fun e => by have := Option.some.inj e; omega)).trans hh.2.1
        have t3 := (hg1.block zp (ltS hh.2.2.1) (fun e => by have := Option.some.inj e; omega)).trans hh.2.2.1
        have t5 : RIBox Y1 (w.heap.size + 1) := ribox_keep hh.2.2.2.2 (fun e => by have := Option.some.inj e; omega) hg1
        refine hK.out _ _ ⟨t1, t2, t3, ⟨_, _, _, _, _, _, _, _, _, hY1⟩, t5⟩ (fun _ => ?_)
        clear hK K
        try simp only [Act.put]
        refine wpAnyH_ready (rs := [3]) (by kernel_rfl) (by simp) (AllReadyH.cons (o := { dst := none, op := Op.store 62 (Operand.tmp 3) (Operand.tmp 87), type := 0, pos := "ref.go:92", after := #[eDa 1, eCh 2, ePh 0, ePh 1, ePh 2], guard := none }) rfl (fun K hK => ?_) AllReadyH.nil)
        rw [if_pos (by rfl)]
        refine store_rid2 (.tmp 3) (.tmp 87) rfl (w.heap.size + 1) rfl (.int .i64 i.k) (.int .i64 i.n) (.string I) rfl (by simp [Value.oneCell']) t5 (fun Y2 hY2 hg2 _ => ?_)
        have u1 := (hg2.block zi (ltS t1) (fun e => by have := Option.some.inj e; omega)).trans t1
        have u2 := (hg2.block zm (ltS t2) (fun e => by have := Option.some.inj e; omega)).trans t2
        have u3 := (hg2.block zp (ltS t3) (fun e => by have := Option.some.inj e; omega)).trans t3
        have t4 := (hg2.block w.heap.size (ltS hY1) (fun e => by have := Option.some.inj e; omega)).trans hY1
        refine hK.out _ _ ⟨u1, u2, u3, ⟨_, _, _, _, _, _, _, _, _, t4⟩, ⟨_, _, _, hY2⟩⟩ (fun _ => ?_)
        clear hK K
        try simp only [Act.put]
        refine wpAnyH_ready (rs := [4]) (by kernel_rfl) (by simp) (AllReadyH.cons (o := { dst := some 4, op := Op.assign (Operand.const (Value.int IntKind.i64 (-32600))), type := 3, pos := "ref.go:92", after := #[eCh 3, ePh 0, ePh 1, ePh 2, ePh 3], guard := none }) rfl (fun K hK => ?_) AllReadyH.nil)
        rw [if_pos (by rfl)]
        go_simp
        refine hK.out _ _ ⟨u1, u2, u3, ⟨_, _, _, _, _, _, _, _, _, t4⟩, ⟨_, _, _, hY2⟩⟩ (fun _ => ?_)
        clear hK K
        try simp only [Act.put, aSA, aSZ, aSS]
        refine wpAnyH_done (by kernel_rfl) ?_ _
        go_wp2_with fail
        refine bodyPost_ret (ret_rread Tryz.results36 rfl rfl rfl t4 hY2) rfl ?_
        have hbE : Below w.heap.size w Y2 := below_gbz (below_gbz hBz.drew (Nat.le_refl _) hg1) (Nat.le_succ _) hg2
        rw [HRJ.out, hq, if_neg (by simp), if_pos (bad_ver HVE.out)]
        exact RR.zero _ HI.out hbE
       | true =>
        cases Km with
        | true =>
         go_region_held3 (fun V => V.cell? ⟨zv, 0, none⟩ = some (.int .i64 ve.kind) ∧ V.cell? ⟨zv, 1, none⟩ = some (.string VS) ∧ V.cell? ⟨zv, 2, none⟩ = some (.slice p7 ve.keys.length q7) ∧ V.cell? ⟨zv, 3, none⟩ = some (.slice r7 ve.items.length s7) ∧ V.cell? ⟨zm, 0, none⟩ = some (.int .i64 me.kind)) (first | exact HS9.out _ (by assumption)) (first
          | (go_at_call 97; refine (rtxt_any _ _).mono ?_; rintro e wa ⟨rfl, hba⟩; have hb0 := Below.on hb0 hba
             have h24 : Calls Tryz.prog 24 #[.agg #[.int .i64 ve.kind, .string VS, .slice p7 ve.keys.length q7, .slice r7 ve.items.length s7], .agg #[.int .i64 4, .string ⟨#[50, 46, 48]⟩, .slice none 0 0, .slice none 0 0]] wa fun e w'' => e = .returned (.bool true) ∧ Below wa.heap.size wa w'' := (by
              have := equal_is (y := txtV v20) (Y := ⟨#[50, 46, 48]⟩) (HKV.out wa hb0) (ki_leaf rfl rfl) H7.out.2.2 rfl wa (Below.refl _ _)
              rw [HBV.out] at this
              exact this))
          | (go_at_call 24; refine h24.mono ?_; rintro e wb ⟨rfl, hbb⟩; have hb0 := Below.on hb0 hbb))
         clear HD
         go_upto_region 16 with fail
         obtain ⟨hzi, hzm, hzp, _⟩ := HQ8.out wb hb0
         obtain ⟨hBz, hmb, hib⟩ := HB8.out wb hb0
         refine wp_region_held_drew (S := (fun v => v.heap[zi]? = some (.cells #[.int .i64 i.k, .int .i64 i.n, .string I] 62 (0, 0)) ∧ v.heap[zm]? = some (.cells #[.int .i64 me.kind, .string MS, .slice p4 me.keys.length q4, .slice r4 me.items.length s4] 25 (0, 0)) ∧ v.heap[zp]? = some (.cells #[.int .i64 pa.kind, .string PS, .slice p8 pa.keys.length q8, .slice r8 pa.items.length s8] 25 (0, 0)) ∧ RMBox v w.heap.size ∧ RIBox v (w.heap.size + 1))) (by kernel_rfl) ⟨hzi, hzm, hzp, hmb, hib⟩ (fun hHeld => ?_)
         refine wpAnyH_take (i := 0) (oi := { dst := some 86, op := Op.build 64 #[], type := 64, pos := "ref.go:92", after := #[], guard := none }) (v := ?_) rfl (by kernel_rfl) (by kernel_rfl) (by kernel_rfl) (fun _ _ _ h => h) (Or.inl ⟨by rfl, ?_⟩) (by assumption) ?_
         rotate_left
         · intro wx hS; obtain ⟨s1, s2, s3, s4, s5⟩ := hS; obtain ⟨i0, i1, i2, _⟩ := cells3 s1; obtain ⟨k0, k1, k2, k3⟩ := cells4 s2; obtain ⟨y0, y1, y2, y3⟩ := cells4 s3; go_simp; with_reducible rfl
         try simp only [Act.put, aSA, aSZ, aSS]
         refine wpAnyH_take (i := 1) (oi := { dst := some 87, op := Op.load 62 (Operand.tmp 7), type := 62, pos := "ref.go:92", after := #[{ on := 2, ground := Ground.gcOnly Departure.lateStores }], guard := none }) (v := ?_) rfl (by kernel_rfl) (by kernel_rfl) (by kernel_rfl) (fun _ _ _ h => h) (Or.inl ⟨by rfl, ?_⟩) (by assumption) ?_
         rotate_left
         · intro wx hS; obtain ⟨s1, s2, s3, s4, s5⟩ := hS; obtain ⟨i0, i1, i2, _⟩ := cells3 s1; obtain ⟨k0, k1, k2, k3⟩ := cells4 s2; obtain ⟨y0, y1, y2, y3⟩ := cells4 s3; go_simp; with_reducible rfl
         try simp only [Act.put, aSA, aSZ, aSS]
         have hh := hHeld
         refine wpAnyH_ready (rs := [2]) (by kernel_rfl) (by simp) (AllReadyH.cons (o := { dst := none, op := Op.store 64 (Operand.tmp 2) (Operand.tmp 86), type := 0, pos := "ref.go:92", after := #[eDa 0, ePh 0, { on := 1, ground := Ground.textOnly Departure.lateStores }], guard := none }) rfl (fun K hK => ?_) AllReadyH.nil)
         rw [if_pos (by rfl)]
         refine store_rmsg2 (.tmp 2) (.tmp 86) rfl w.heap.size rfl (.int .i64 0) (.int .i64 0) (.int .i64 0) (.string ⟨#[]⟩) (.string ⟨#[]⟩) (.int .i64 0) (.string ⟨#[]⟩) (.slice none 0 0) (.slice none 0 0) rfl (by simp [Value.oneCell']) hh.2.2.2.1 (fun Y1 hY1 hg1 _ => ?_)
         have t1 := (hg1.block zi (ltS hh.1) (fun e => by have := Option.some.inj e; omega)).trans hh.1
         have t2 := (hg1.block zm (ltS hh.2.1) (fun e => by have := Option.some.inj e; omega)).trans hh.2.1
         have t3 := (hg1.block zp (ltS hh.2.2.1) (fun e => by have := Option.some.inj e; omega)).trans hh.2.2.1
         have t5 : RIBox Y1 (w.heap.size + 1) := ribox_keep hh.2.2.2.2 (fun e => by have := Option.some.inj e; omega) hg1
         refine hK.out _ _ ⟨t1, t2, t3, ⟨_, _, _, _, _, _, _, _, _, hY1⟩, t5⟩ (fun _ => ?_)
         clear hK K
         try simp only [Act.put]
         refine wpAnyH_ready (rs := [3]) (by kernel_rfl) (by simp) (AllReadyH.cons (o := { dst := none, op := Op.store 62 (Operand.tmp 3) (Operand.tmp 87), type := 0, pos := "ref.go:92", after := #[eDa 1, eCh 2, ePh 0, ePh 1, ePh 2], guard := none }) rfl (fun K hK => ?_) AllReadyH.nil)
         rw [if_pos (by rfl)]
         refine store_rid2 (.tmp 3) (.tmp 87) rfl (w.heap.size + 1) rfl (.int .i64 i.k) (.int .i64 i.n) (.string I) rfl (by simp [Value.oneCell']) t5 (fun Y2 hY2 hg2 _ => ?_)
         have u1 := (hg2.block zi (ltS t1) (fun e => by have := Option.some.inj e; omega)).trans t1
         have u2 := (hg2.block zm (ltS t2) (fun e => by have := Option.some.inj e; omega)).trans t2
         have u3 := (hg2.block zp (ltS t3) (fun e => by have := Option.some.inj e; omega)).trans t3
         have t4 := (hg2.block w.heap.size (ltS hY1) (fun e => by have := Option.some.inj e; omega)).trans hY1
         refine hK.out _ _ ⟨u1, u2, u3, ⟨_, _, _, _, _, _, _, _, _, t4⟩, ⟨_, _, _, hY2⟩⟩ (fun _ => ?_)
         clear hK K
         try simp only [Act.put]
         refine wpAnyH_ready (rs := [4]) (by kernel_rfl) (by simp) (AllReadyH.cons (o := { dst := some 4, op := Op.assign (Operand.const (Value.int IntKind.i64 (-32600))), type := 3, pos := "ref.go:92", after := #[eCh 3, ePh 0, ePh 1, ePh 2, ePh 3], guard := none }) rfl (fun K hK => ?_) AllReadyH.nil)
         rw [if_pos (by rfl)]
         go_simp
         refine hK.out _ _ ⟨u1, u2, u3, ⟨_, _, _, _, _, _, _, _, _, t4⟩, ⟨_, _, _, hY2⟩⟩ (fun _ => ?_)
         clear hK K
         try simp only [Act.put, aSA, aSZ, aSS]
         refine wpAnyH_done (by kernel_rfl) ?_ _
         go_wp2_with fail
         refine bodyPost_ret (ret_rread Tryz.results36 rfl rfl rfl t4 hY2) rfl ?_
         have hbE : Below w.heap.size w Y2 := below_gbz (below_gbz hBz.drew (Nat.le_refl _) hg1) (Nat.le_succ _) hg2
         rw [HRJ.out, hq, if_neg (by simp), if_pos (by have h1 := HKm.out; have h2 : ¬ me.kind = 4 := (by simpa using h1); simp [h2])]
         exact RR.zero _ HI.out hbE
        | false =>
         go_region_held3 (fun V => V.cell? ⟨zv, 0, none⟩ = some (.int .i64 ve.kind) ∧ V.cell? ⟨zv, 1, none⟩ = some (.string VS) ∧ V.cell? ⟨zv, 2, none⟩ = some (.slice p7 ve.keys.length q7) ∧ V.cell? ⟨zv, 3, none⟩ = some (.slice r7 ve.items.length s7) ∧ V.cell? ⟨zm, 0, none⟩ = some (.int .i64 me.kind)) (first | exact HS9.out _ (by assumption)) (first
          | (go_at_call 97; refine (rtxt_any _ _).mono ?_; rintro e wa ⟨rfl, hba⟩; have hb0 := Below.on hb0 hba
             have h24 : Calls Tryz.prog 24 #[.agg #[.int .i64 ve.kind, .string VS, .slice p7 ve.keys.length q7, .slice r7 ve.items.length s7], .agg #[.int .i64 4, .string ⟨#[50, 46, 48]⟩, .slice none 0 0, .slice none 0 0]] wa fun e w'' => e = .returned (.bool true) ∧ Below wa.heap.size wa w'' := (by
              have := equal_is (y := txtV v20) (Y := ⟨#[50, 46, 48]⟩) (HKV.out wa hb0) (ki_leaf rfl rfl) H7.out.2.2 rfl wa (Below.refl _ _)
              rw [HBV.out] at this
              exact this))
          | (go_at_call 24; refine h24.mono ?_; rintro e wb ⟨rfl, hbb⟩; have hb0 := Below.on hb0 hbb))
         clear HD
         go_upto_region 17 with fail
         have hgd : ve.kind = 4 ∧ ve.str = v20 ∧ me.kind = 4 := by
          have h1 := HVE.out
          have h2 := HKm.out
          have h3 := h1.symm
          simp only [Bool.and_eq_true, decide_eq_true_eq] at h3
          exact ⟨h3.1, h3.2, by simpa using h2⟩
         have HGD := Lib.hid hgd
         clear hgd
         obtain ⟨_, _, hzp, _⟩ := HQ8.out wb hb0
         obtain ⟨y0, y1, y2, y3⟩ := cells4 hzp
         clear hzp
         go_cut [98] (fun x wx => x = .bool (bp && decide (pa.kind ≠ 5) && decide (pa.kind ≠ 6)) ∧ Below wb.heap.size wb wx)
         case first =>
          cases bp with
          | false =>
           go_wp2_with fail
           go_meet
           exact ⟨rfl, Below.refl _ _⟩
          | true =>
           by_cases p5 : pa.kind = 5
           · have r5 : (pa.kind != 5) = false := by simp [p5]
             have P5 := Lib.hid p5
             clear p5
             go_wp2_with fail
             go_meet
             exact ⟨by have := P5.out; simp [this], Below.refl _ _⟩
           · have r5 : (pa.kind != 5) = true := by simp [p5]
             by_cases p6 : pa.kind = 6
             · have r6 : (pa.kind != 6) = false := by simp [p6]
               have P6 := Lib.hid p6
               clear p5 p6
               go_wp2_with fail
               go_meet
               exact ⟨by have := P6.out; simp [this], Below.refl _ _⟩
             · have r6 : (pa.kind != 6) = true := by simp [p6]
               have P6 := Lib.hid (And.intro p5 p6)
               clear p5 p6
               go_wp2_with fail
               go_meet
               exact ⟨by have := P6.out; simp [this.1, this.2], Below.refl _ _⟩
         case rest =>
          obtain ⟨rfl, hbp⟩ := hcut
          have hb9 := Below.on hb0 hbp
          clear y0 y1 y2 y3
          cases hP : (bp && decide (pa.kind ≠ 5) && decide (pa.kind ≠ 6)) with
          | true =>
           go_upto_region 18 with fail
           obtain ⟨hzi, hzm, hzp, _⟩ := HQ8.out wc hb9
           obtain ⟨hBz, hmb, hib⟩ := HB8.out wc hb9
           refine wp_region_held_drew (S := (fun v => v.heap[zi]? = some (.cells #[.int .i64 i.k, .int .i64 i.n, .string I] 62 (0, 0)) ∧ v.heap[zm]? = some (.cells #[.int .i64 me.kind, .string MS, .slice p4 me.keys.length q4, .slice r4 me.items.length s4] 25 (0, 0)) ∧ v.heap[zp]? = some (.cells #[.int .i64 pa.kind, .string PS, .slice p8 pa.keys.length q8, .slice r8 pa.items.length s8] 25 (0, 0)) ∧ RMBox v w.heap.size ∧ RIBox v (w.heap.size + 1))) (by kernel_rfl) ⟨hzi, hzm, hzp, hmb, hib⟩ (fun hHeld => ?_)
           refine wpAnyH_take (i := 0) (oi := { dst := some 99, op := Op.build 64 #[], type := 64, pos := "ref.go:95", after := #[], guard := none }) (v := ?_) rfl (by kernel_rfl) (by kernel_rfl) (by kernel_rfl) (fun _ _ _ h => h) (Or.inl ⟨by rfl, ?_⟩) (by assumption) ?_
           rotate_left
           · intro wx hS; obtain ⟨s1, s2, s3, s4, s5⟩ := hS; obtain ⟨i0, i1, i2, _⟩ := cells3 s1; obtain ⟨k0, k1, k2, k3⟩ := cells4 s2; obtain ⟨y0, y1, y2, y3⟩ := cells4 s3; go_simp; with_reducible rfl
           try simp only [Act.put, aSA, aSZ, aSS]
           refine wpAnyH_take (i := 1) (oi := { dst := some 100, op := Op.load 62 (Operand.tmp 7), type := 62, pos := "ref.go:95", after := #[{ on := 2, ground := Ground.gcOnly Departure.lateStores }], guard := none }) (v := ?_) rfl (by kernel_rfl) (by kernel_rfl) (by kernel_rfl) (fun _ _ _ h => h) (Or.inl ⟨by rfl, ?_⟩) (by assumption) ?_
           rotate_left
           · intro wx hS; obtain ⟨s1, s2, s3, s4, s5⟩ := hS; obtain ⟨i0, i1, i2, _⟩ := cells3 s1; obtain ⟨k0, k1, k2, k3⟩ := cells4 s2; obtain ⟨y0, y1, y2, y3⟩ := cells4 s3; go_simp; with_reducible rfl
           try simp only [Act.put, aSA, aSZ, aSS]
           have hh := hHeld
           refine wpAnyH_ready (rs := [2]) (by kernel_rfl) (by simp) (AllReadyH.cons (o := { dst := none, op := Op.store 64 (Operand.tmp 2) (Operand.tmp 99), type := 0, pos := "ref.go:95", after := #[eDa 0, ePh 0, { on := 1, ground := Ground.textOnly Departure.lateStores }], guard := none }) rfl (fun K hK => ?_) AllReadyH.nil)
           rw [if_pos (by rfl)]
           refine store_rmsg2 (.tmp 2) (.tmp 99) rfl w.heap.size rfl (.int .i64 0) (.int .i64 0) (.int .i64 0) (.string ⟨#[]⟩) (.string ⟨#[]⟩) (.int .i64 0) (.string ⟨#[]⟩) (.slice none 0 0) (.slice none 0 0) rfl (by simp [Value.oneCell']) hh.2.2.2.1 (fun Y1 hY1 hg1 _ => ?_)
           have t1 := (hg1.block zi (ltS hh.1) (fun e => by have := Option.some.inj e; omega)).trans hh.1
           have t2 := (hg1.block zm (ltS hh.2.1) (fun e => by have := Option.some.inj e; omega)).trans hh.2.1
           have t3 := (hg1.block zp (ltS hh.2.2.1) (fun e => by have := Option.some.inj e; omega)).trans hh.2.2.1
           have t5 : RIBox Y1 (w.heap.size + 1) := ribox_keep hh.2.2.2.2 (fun e => by have := Option.some.inj e; omega) hg1
           refine hK.out _ _ ⟨t1, t2, t3, ⟨_, _, _, _, _, _, _, _, _, hY1⟩, t5⟩ (fun _ => ?_)
           clear hK K
           try simp only [Act.put]
           refine wpAnyH_ready (rs := [3]) (by kernel_rfl) (by simp) (AllReadyH.cons (o := { dst := none, op := Op.store 62 (Operand.tmp 3) (Operand.tmp 100), type := 0, pos := "ref.go:95", after := #[eDa 1, eCh 2, ePh 0, ePh 1, ePh 2], guard := none }) rfl (fun K hK => ?_) AllReadyH.nil)
           rw [if_pos (by rfl)]
           refine store_rid2 (.tmp 3) (.tmp 100) rfl (w.heap.size + 1) rfl (.int .i64 i.k) (.int .i64 i.n) (.string I) rfl (by simp [Value.oneCell']) t5 (fun Y2 hY2 hg2 _ => ?_)
           have u1 := (hg2.block zi (ltS t1) (fun e => by have := Option.some.inj e; omega)).trans t1
           have u2 := (hg2.block zm (ltS t2) (fun e => by have := Option.some.inj e; omega)).trans t2
           have u3 := (hg2.block zp (ltS t3) (fun e => by have := Option.some.inj e; omega)).trans t3
           have t4 := (hg2.block w.heap.size (ltS hY1) (fun e => by have := Option.some.inj e; omega)).trans hY1
           refine hK.out _ _ ⟨u1, u2, u3, ⟨_, _, _, _, _, _, _, _, _, t4⟩, ⟨_, _, _, hY2⟩⟩ (fun _ => ?_)
           clear hK K
           try simp only [Act.put]
           refine wpAnyH_ready (rs := [4]) (by kernel_rfl) (by simp) (AllReadyH.cons (o := { dst := some 4, op := Op.assign (Operand.const (Value.int IntKind.i64 (-32600))), type := 3, pos := "ref.go:95", after := #[eCh 3, ePh 0, ePh 1, ePh 2, ePh 3], guard := none }) rfl (fun K hK => ?_) AllReadyH.nil)
           rw [if_pos (by rfl)]
           go_simp
           refine hK.out _ _ ⟨u1, u2, u3, ⟨_, _, _, _, _, _, _, _, _, t4⟩, ⟨_, _, _, hY2⟩⟩ (fun _ => ?_)
           clear hK K
           try simp only [Act.put, aSA, aSZ, aSS]
           refine wpAnyH_done (by kernel_rfl) ?_ _
           go_wp2_with fail
           refine bodyPost_ret (ret_rread Tryz.results36 rfl rfl rfl t4 hY2) rfl ?_
           have hbE : Below w.heap.size w Y2 := below_gbz (below_gbz hBz.drew (Nat.le_refl _) hg1) (Nat.le_succ _) hg2
           rw [HRJ.out, hq, if_neg (by simp), if_pos (by rw [hP]; simp)]
           exact RR.zero _ HI.out hbE
          | false =>
           cases bi with
           | false =>
            obtain rfl := HI0Z.out rfl
            go_upto_region 20 with fail
            obtain ⟨hzi, hzm, hzp, _⟩ := HQ8.out wc hb9
            obtain ⟨hBz, hmb, hib⟩ := HB8.out wc hb9
            refine wp_region_held_drew (S := (fun v => v.heap[zi]? = some (.cells #[.int .i64 id0.k, .int .i64 id0.n, .string I] 62 (0, 0)) ∧ v.heap[zm]? = some (.cells #[.int .i64 me.kind, .string MS, .slice p4 me.keys.length q4, .slice r4 me.items.length s4] 25 (0, 0)) ∧ v.heap[zp]? = some (.cells #[.int .i64 pa.kind, .string PS, .slice p8 pa.keys.length q8, .slice r8 pa.items.length s8] 25 (0, 0)) ∧ RMBox v w.heap.size ∧ RIBox v (w.heap.size + 1))) (by kernel_rfl) ⟨hzi, hzm, hzp, hmb, hib⟩ (fun hHeld => ?_)
            refine wpAnyH_take (i := 0) (oi := { dst := some 103, op := Op.fieldAddr 25 (Operand.tmp 10) 1, type := 0, pos := "ref.go:98", after := #[], guard := none }) (v := ?_) rfl (by kernel_rfl) (by kernel_rfl) (by kernel_rfl) (fun _ _ _ h => h) (Or.inl ⟨by rfl, ?_⟩) (by assumption) ?_
            rotate_left
            · intro wx hS; obtain ⟨s1, s2, s3, s4, s5⟩ := hS; obtain ⟨i0, i1, i2, _⟩ := cells3 s1; obtain ⟨k0, k1, k2, k3⟩ := cells4 s2; obtain ⟨y0, y1, y2, y3⟩ := cells4 s3; go_simp; with_reducible rfl
            try simp only [Act.put, aSA, aSZ, aSS]
            refine wpAnyH_take (i := 1) (oi := { dst := some 104, op := Op.load 9 (Operand.tmp 103), type := 9, pos := "ref.go:98", after := #[eDa 0], guard := none }) (v := ?_) rfl (by kernel_rfl) (by kernel_rfl) (by kernel_rfl) (fun _ _ _ h => h) (Or.inl ⟨by rfl, ?_⟩) (by assumption) ?_
            rotate_left
            · intro wx hS; obtain ⟨s1, s2, s3, s4, s5⟩ := hS; obtain ⟨i0, i1, i2, _⟩ := cells3 s1; obtain ⟨k0, k1, k2, k3⟩ := cells4 s2; obtain ⟨y0, y1, y2, y3⟩ := cells4 s3; go_simp; with_reducible rfl
            try simp only [Act.put, aSA, aSZ, aSS]
            refine wpAnyH_take (i := 2) (oi := { dst := some 105, op := Op.load 25 (Operand.tmp 18), type := 25, pos := "ref.go:98", after := #[], guard := none }) (v := ?_) rfl (by kernel_rfl) (by kernel_rfl) (by kernel_rfl) (fun _ _ _ h => h) (Or.inl ⟨by rfl, ?_⟩) (by assumption) ?_
            rotate_left
            · intro wx hS; obtain ⟨s1, s2, s3, s4, s5⟩ := hS; obtain ⟨i0, i1, i2, _⟩ := cells3 s1; obtain ⟨k0, k1, k2, k3⟩ := cells4 s2; obtain ⟨y0, y1, y2, y3⟩ := cells4 s3; go_simp; with_reducible rfl
            try simp only [Act.put, aSA, aSZ, aSS]
            refine wpAnyH_take (i := 3) (oi := { dst := some 106, op := Op.build 64 #[(0, Operand.const (Value.int IntKind.i64 2)), (2, Operand.tmp 104), (3, Operand.tmp 105)], type := 64, pos := "ref.go:98", after := #[eDa 1, eDa 2], guard := none }) (v := ?_) rfl (by kernel_rfl) (by kernel_rfl) (by kernel_rfl) (fun _ _ _ h => h) (Or.inl ⟨by rfl, ?_⟩) (by assumption) ?_
            rotate_left
            · intro wx hS; obtain ⟨s1, s2, s3, s4, s5⟩ := hS; obtain ⟨i0, i1, i2, _⟩ := cells3 s1; obtain ⟨k0, k1, k2, k3⟩ := cells4 s2; obtain ⟨y0, y1, y2, y3⟩ := cells4 s3; go_simp; with_reducible rfl
            try simp only [Act.put, aSA, aSZ, aSS]
            refine wpAnyH_take (i := 4) (oi := { dst := some 107, op := Op.load 62 (Operand.tmp 7), type := 62, pos := "ref.go:98", after := #[{ on := 5, ground := Ground.gcOnly Departure.lateStores }], guard := none }) (v := ?_) rfl (by kernel_rfl) (by kernel_rfl) (by kernel_rfl) (fun _ _ _ h => h) (Or.inl ⟨by rfl, ?_⟩) (by assumption) ?_
            rotate_left
            · intro wx hS; obtain ⟨s1, s2, s3, s4, s5⟩ := hS; obtain ⟨i0, i1, i2, _⟩ := cells3 s1; obtain ⟨k0, k1, k2, k3⟩ := cells4 s2; obtain ⟨y0, y1, y2, y3⟩ := cells4 s3; go_simp; with_reducible rfl
            try simp only [Act.put, aSA, aSZ, aSS]
            have hh := hHeld
            refine wpAnyH_ready (rs := [5]) (by kernel_rfl) (by simp) (AllReadyH.cons (o := { dst := none, op := Op.store 64 (Operand.tmp 2) (Operand.tmp 106), type := 0, pos := "ref.go:98", after := #[eDa 3, ePh 0, ePh 1, ePh 2, ePh 3, { on := 4, ground := Ground.textOnly Departure.lateStores }], guard := none }) rfl (fun K hK => ?_) AllReadyH.nil)
            rw [if_pos (by rfl)]
            refine store_rmsg2 (.tmp 2) (.tmp 106) rfl w.heap.size rfl (.int .i64 2) (.int .i64 0) (.int .i64 0) (.string ⟨#[]⟩) (.string MS) (.int .i64 pa.kind) (.string PS) (.slice p8 pa.keys.length q8) (.slice r8 pa.items.length s8) rfl (by simp [Value.oneCell']) hh.2.2.2.1 (fun Y1 hY1 hg1 _ => ?_)
            have t1 := (hg1.block zi (ltS hh.1) (fun e => by have := Option.some.inj e; omega)).trans hh.1
            have t2 := (hg1.block zm (ltS hh.2.1) (fun e => by have := Option.some.inj e; omega)).trans hh.2.1
            have t3 := (hg1.block zp (ltS hh.2.2.1) (fun e => by have := Option.some.inj e; omega)).trans hh.2.2.1
            have t5 : RIBox Y1 (w.heap.size + 1) := ribox_keep hh.2.2.2.2 (fun e => by have := Option.some.inj e; omega) hg1
            refine hK.out _ _ ⟨t1, t2, t3, ⟨_, _, _, _, _, _, _, _, _, hY1⟩, t5⟩ (fun _ => ?_)
            clear hK K
            try simp only [Act.put]
            refine wpAnyH_ready (rs := [6]) (by kernel_rfl) (by simp) (AllReadyH.cons (o := { dst := none, op := Op.store 62 (Operand.tmp 3) (Operand.tmp 107), type := 0, pos := "ref.go:98", after := #[eDa 4, eCh 5, ePh 0, ePh 1, ePh 2, ePh 3, ePh 4, ePh 5], guard := none }) rfl (fun K hK => ?_) AllReadyH.nil)
            rw [if_pos (by rfl)]
            refine store_rid2 (.tmp 3) (.tmp 107) rfl (w.heap.size + 1) rfl (.int .i64 id0.k) (.int .i64 id0.n) (.string I) rfl (by simp [Value.oneCell']) t5 (fun Y2 hY2 hg2 _ => ?_)
            have u1 := (hg2.block zi (ltS t1) (fun e => by have := Option.some.inj e; omega)).trans t1
            have u2 := (hg2.block zm (ltS t2) (fun e => by have := Option.some.inj e; omega)).trans t2
            have u3 := (hg2.block zp (ltS t3) (fun e => by have := Option.some.inj e; omega)).trans t3
            have t4 := (hg2.block w.heap.size (ltS hY1) (fun e => by have := Option.some.inj e; omega)).trans hY1
            refine hK.out _ _ ⟨u1, u2, u3, ⟨_, _, _, _, _, _, _, _, _, t4⟩, ⟨_, _, _, hY2⟩⟩ (fun _ => ?_)
            clear hK K
            try simp only [Act.put]
            refine wpAnyH_ready (rs := [7]) (by kernel_rfl) (by simp) (AllReadyH.cons (o := { dst := some 4, op := Op.assign (Operand.const (Value.int IntKind.i64 0)), type := 3, pos := "ref.go:98", after := #[eCh 6, ePh 0, ePh 1, ePh 2, ePh 3, ePh 4, ePh 5, ePh 6], guard := none }) rfl (fun K hK => ?_) AllReadyH.nil)
            rw [if_pos (by rfl)]
            go_simp
            refine hK.out _ _ ⟨u1, u2, u3, ⟨_, _, _, _, _, _, _, _, _, t4⟩, ⟨_, _, _, hY2⟩⟩ (fun _ => ?_)
            clear hK K
            try simp only [Act.put, aSA, aSZ, aSS]
            refine wpAnyH_done (by kernel_rfl) ?_ _
            go_wp2_with fail
            refine bodyPost_ret (ret_rread Tryz.results36 rfl rfl rfl t4 hY2) rfl ?_
            have hbE : Below w.heap.size w Y2 := below_gbz (below_gbz hBz.drew (Nat.le_refl _) hg1) (Nat.le_succ _) hg2
            rw [HRJ.out, hq, if_neg (by simp), if_neg (by rw [hP]; simp [HGD.out])]
            exact ⟨p8, q8, r8, s8, by rw [← H8.out.2.2, ← H4.out.2.2, ← HI.out]; rfl, (((kp_on (HKP.out wc hb9) (Below.refl _ _).drew).fr (FrP.of (P := fun b => b = w.heap.size) hg1 rfl) (fun b hb e => by omega)).fr (FrP.of (P := fun b => b = w.heap.size + 1) hg2 rfl) (fun b hb e => by omega)).ki, hbE⟩
           | true =>
            go_upto_region 21 with fail
            obtain ⟨hzi, _, _, _⟩ := HQ8.out wc hb9
            obtain ⟨i0, i1, i2, _⟩ := cells3 hzi
            clear hzi
            by_cases ik : i.k = 0
            · have j1 : (i.k == 0) = true := by simp [ik]
              have IK := Lib.hid ik
              clear ik
              go_upto_region 22 with fail
              clear i0 i1 i2
              obtain ⟨hzi, hzm, hzp, _⟩ := HQ8.out wc hb9
              obtain ⟨hBz, hmb, hib⟩ := HB8.out wc hb9
              refine wp_region_held_drew (S := (fun v => v.heap[zi]? = some (.cells #[.int .i64 i.k, .int .i64 i.n, .string I] 62 (0, 0)) ∧ v.heap[zm]? = some (.cells #[.int .i64 me.kind, .string MS, .slice p4 me.keys.length q4, .slice r4 me.items.length s4] 25 (0, 0)) ∧ v.heap[zp]? = some (.cells #[.int .i64 pa.kind, .string PS, .slice p8 pa.keys.length q8, .slice r8 pa.items.length s8] 25 (0, 0)) ∧ RMBox v w.heap.size ∧ RIBox v (w.heap.size + 1))) (by kernel_rfl) ⟨hzi, hzm, hzp, hmb, hib⟩ (fun hHeld => ?_)
              refine wpAnyH_take (i := 0) (oi := { dst := some 111, op := Op.build 64 #[], type := 64, pos := "ref.go:101", after := #[], guard := none }) (v := ?_) rfl (by kernel_rfl) (by kernel_rfl) (by kernel_rfl) (fun _ _ _ h => h) (Or.inl ⟨by rfl, ?_⟩) (by assumption) ?_
              rotate_left
              · intro wx hS; obtain ⟨s1, s2, s3, s4, s5⟩ := hS; obtain ⟨i0, i1, i2, _⟩ := cells3 s1; obtain ⟨k0, k1, k2, k3⟩ := cells4 s2; obtain ⟨y0, y1, y2, y3⟩ := cells4 s3; go_simp; with_reducible rfl
              try simp only [Act.put, aSA, aSZ, aSS]
              refine wpAnyH_take (i := 1) (oi := { dst := some 112, op := Op.load 62 (Operand.tmp 7), type := 62, pos := "ref.go:101", after := #[{ on := 2, ground := Ground.gcOnly Departure.lateStores }], guard := none }) (v := ?_) rfl (by kernel_rfl) (by kernel_rfl) (by kernel_rfl) (fun _ _ _ h => h) (Or.inl ⟨by rfl, ?_⟩) (by assumption) ?_
              rotate_left
              · intro wx hS; obtain ⟨s1, s2, s3, s4, s5⟩ := hS; obtain ⟨i0, i1, i2, _⟩ := cells3 s1; obtain ⟨k0, k1, k2, k3⟩ := cells4 s2; obtain ⟨y0, y1, y2, y3⟩ := cells4 s3; go_simp; with_reducible rfl
              try simp only [Act.put, aSA, aSZ, aSS]
              have hh := hHeld
              refine wpAnyH_ready (rs := [2]) (by kernel_rfl) (by simp) (AllReadyH.cons (o := { dst := none, op := Op.store 64 (Operand.tmp 2) (Operand.tmp 111), type := 0, pos := "ref.go:101", after := #[eDa 0, ePh 0, { on := 1, ground := Ground.textOnly Departure.lateStores }], guard := none }) rfl (fun K hK => ?_) AllReadyH.nil)
              rw [if_pos (by rfl)]
              refine store_rmsg2 (.tmp 2) (.tmp 111) rfl w.heap.size rfl (.int .i64 0) (.int .i64 0) (.int .i64 0) (.string ⟨#[]⟩) (.string ⟨#[]⟩) (.int .i64 0) (.string ⟨#[]⟩) (.slice none 0 0) (.slice none 0 0) rfl (by simp [Value.oneCell']) hh.2.2.2.1 (fun Y1 hY1 hg1 _ => ?_)
              have t1 := (hg1.block zi (ltS hh.1) (fun e => by have := Option.some.inj e; omega)).trans hh.1
              have t2 := (hg1.block zm (ltS hh.2.1) (fun e => by have := Option.some.inj e; omega)).trans hh.2.1
              have t3 := (hg1.block zp (ltS hh.2.2.1) (fun e => by have := Option.some.inj e; omega)).trans hh.2.2.1
              have t5 : RIBox Y1 (w.heap.size + 1) := ribox_keep hh.2.2.2.2 (fun e => by have := Option.some.inj e; omega) hg1
              refine hK.out _ _ ⟨t1, t2, t3, ⟨_, _, _, _, _, _, _, _, _, hY1⟩, t5⟩ (fun _ => ?_)
              clear hK K
              try simp only [Act.put]
              refine wpAnyH_ready (rs := [3]) (by kernel_rfl) (by simp) (AllReadyH.cons (o := { dst := none, op := Op.store 62 (Operand.tmp 3) (Operand.tmp 112), type := 0, pos := "ref.go:101", after := #[eDa 1, eCh 2, ePh 0, ePh 1, ePh 2], guard := none }) rfl (fun K hK => ?_) AllReadyH.nil)
              rw [if_pos (by rfl)]
              refine store_rid2 (.tmp 3) (.tmp 112) rfl (w.heap.size + 1) rfl (.int .i64 i.k) (.int .i64 i.n) (.string I) rfl (by simp [Value.oneCell']) t5 (fun Y2 hY2 hg2 _ => ?_)
              have u1 := (hg2.block zi (ltS t1) (fun e => by have := Option.some.inj e; omega)).trans t1
              have u2 := (hg2.block zm (ltS t2) (fun e => by have := Option.some.inj e; omega)).trans t2
              have u3 := (hg2.block zp (ltS t3) (fun e => by have := Option.some.inj e; omega)).trans t3
              have t4 := (hg2.block w.heap.size (ltS hY1) (fun e => by have := Option.some.inj e; omega)).trans hY1
              refine hK.out _ _ ⟨u1, u2, u3, ⟨_, _, _, _, _, _, _, _, _, t4⟩, ⟨_, _, _, hY2⟩⟩ (fun _ => ?_)
              clear hK K
              try simp only [Act.put]
              refine wpAnyH_ready (rs := [4]) (by kernel_rfl) (by simp) (AllReadyH.cons (o := { dst := some 4, op := Op.assign (Operand.const (Value.int IntKind.i64 (-32600))), type := 3, pos := "ref.go:101", after := #[eCh 3, ePh 0, ePh 1, ePh 2, ePh 3], guard := none }) rfl (fun K hK => ?_) AllReadyH.nil)
              rw [if_pos (by rfl)]
              go_simp
              refine hK.out _ _ ⟨u1, u2, u3, ⟨_, _, _, _, _, _, _, _, _, t4⟩, ⟨_, _, _, hY2⟩⟩ (fun _ => ?_)
              clear hK K
              try simp only [Act.put, aSA, aSZ, aSS]
              refine wpAnyH_done (by kernel_rfl) ?_ _
              go_wp2_with fail
              refine bodyPost_ret (ret_rread Tryz.results36 rfl rfl rfl t4 hY2) rfl ?_
              have hbE : Below w.heap.size w Y2 := below_gbz (below_gbz hBz.drew (Nat.le_refl _) hg1) (Nat.le_succ _) hg2
              rw [HRJ.out, hq, if_neg (by simp), if_pos (by simp [IK.out])]
              exact RR.zero _ HI.out hbE
            · have j1 : (i.k == 0) = false := beq_eq_false_iff_ne.2 ik
              have IK := Lib.hid ik
              clear ik
              go_upto_region 23 with fail
              clear i0 i1 i2
              obtain ⟨hzi, hzm, hzp, _⟩ := HQ8.out wc hb9
              obtain ⟨hBz, hmb, hib⟩ := HB8.out wc hb9
              refine wp_region_held_drew (S := (fun v => v.heap[zi]? = some (.cells #[.int .i64 i.k, .int .i64 i.n, .string I] 62 (0, 0)) ∧ v.heap[zm]? = some (.cells #[.int .i64 me.kind, .string MS, .slice p4 me.keys.length q4, .slice r4 me.items.length s4] 25 (0, 0)) ∧ v.heap[zp]? = some (.cells #[.int .i64 pa.kind, .string PS, .slice p8 pa.keys.length q8, .slice r8 pa.items.length s8] 25 (0, 0)) ∧ RMBox v w.heap.size ∧ RIBox v (w.heap.size + 1))) (by kernel_rfl) ⟨hzi, hzm, hzp, hmb, hib⟩ (fun hHeld => ?_)
              refine wpAnyH_take (i := 0) (oi := { dst := some 113, op := Op.load 62 (Operand.tmp 7), type := 62, pos := "ref.go:103", after := #[], guard := none }) (v := ?_) rfl (by kernel_rfl) (by kernel_rfl) (by kernel_rfl) (fun _ _ _ h => h) (Or.inl ⟨by rfl, ?_⟩) (by assumption) ?_
              rotate_left
              · intro wx hS; obtain ⟨s1, s2, s3, s4, s5⟩ := hS; obtain ⟨i0, i1, i2, _⟩ := cells3 s1; obtain ⟨k0, k1, k2, k3⟩ := cells4 s2; obtain ⟨y0, y1, y2, y3⟩ := cells4 s3; go_simp; with_reducible rfl
              try simp only [Act.put, aSA, aSZ, aSS]
              refine wpAnyH_take (i := 1) (oi := { dst := some 114, op := Op.fieldAddr 25 (Operand.tmp 10) 1, type := 0, pos := "ref.go:103", after := #[], guard := none }) (v := ?_) rfl (by kernel_rfl) (by kernel_rfl) (by kernel_rfl) (fun _ _ _ h => h) (Or.inl ⟨by rfl, ?_⟩) (by assumption) ?_
              rotate_left
              · intro wx hS; obtain ⟨s1, s2, s3, s4, s5⟩ := hS; obtain ⟨i0, i1, i2, _⟩ := cells3 s1; obtain ⟨k0, k1, k2, k3⟩ := cells4 s2; obtain ⟨y0, y1, y2, y3⟩ := cells4 s3; go_simp; with_reducible rfl
              try simp only [Act.put, aSA, aSZ, aSS]
              refine wpAnyH_take (i := 2) (oi := { dst := some 115, op := Op.load 9 (Operand.tmp 114), type := 9, pos := "ref.go:103", after := #[eDa 1], guard := none }) (v := ?_) rfl (by kernel_rfl) (by kernel_rfl) (by kernel_rfl) (fun _ _ _ h => h) (Or.inl ⟨by rfl, ?_⟩) (by assumption) ?_
              rotate_left
              · intro wx hS; obtain ⟨s1, s2, s3, s4, s5⟩ := hS; obtain ⟨i0, i1, i2, _⟩ := cells3 s1; obtain ⟨k0, k1, k2, k3⟩ := cells4 s2; obtain ⟨y0, y1, y2, y3⟩ := cells4 s3; go_simp; with_reducible rfl
              try simp only [Act.put, aSA, aSZ, aSS]
              refine wpAnyH_take (i := 3) (oi := { dst := some 116, op := Op.load 25 (Operand.tmp 18), type := 25, pos := "ref.go:103", after := #[], guard := none }) (v := ?_) rfl (by kernel_rfl) (by kernel_rfl) (by kernel_rfl) (fun _ _ _ h => h) (Or.inl ⟨by rfl, ?_⟩) (by assumption) ?_
              rotate_left
              · intro wx hS; obtain ⟨s1, s2, s3, s4, s5⟩ := hS; obtain ⟨i0, i1, i2, _⟩ := cells3 s1; obtain ⟨k0, k1, k2, k3⟩ := cells4 s2; obtain ⟨y0, y1, y2, y3⟩ := cells4 s3; go_simp; with_reducible rfl
              try simp only [Act.put, aSA, aSZ, aSS]
              refine wpAnyH_take (i := 4) (oi := { dst := some 117, op := Op.build 64 #[(0, Operand.const (Value.int IntKind.i64 1)), (1, Operand.tmp 113), (2, Operand.tmp 115), (3, Operand.tmp 116)], type := 64, pos := "ref.go:103", after := #[eDa 0, eDa 2, eDa 3], guard := none }) (v := ?_) rfl (by kernel_rfl) (by kernel_rfl) (by kernel_rfl) (fun _ _ _ h => h) (Or.inl ⟨by rfl, ?_⟩) (by assumption) ?_
              rotate_left
              · intro wx hS; obtain ⟨s1, s2, s3, s4, s5⟩ := hS; obtain ⟨i0, i1, i2, _⟩ := cells3 s1; obtain ⟨k0, k1, k2, k3⟩ := cells4 s2; obtain ⟨y0, y1, y2, y3⟩ := cells4 s3; go_simp; with_reducible rfl
              try simp only [Act.put, aSA, aSZ, aSS]
              refine wpAnyH_take (i := 5) (oi := { dst := some 118, op := Op.load 62 (Operand.tmp 7), type := 62, pos := "ref.go:103", after := #[{ on := 6, ground := Ground.gcOnly Departure.lateStores }], guard := none }) (v := ?_) rfl (by kernel_rfl) (by kernel_rfl) (by kernel_rfl) (fun _ _ _ h => h) (Or.inl ⟨by rfl, ?_⟩) (by assumption) ?_
              rotate_left
              · intro wx hS; obtain ⟨s1, s2, s3, s4, s5⟩ := hS; obtain ⟨i0, i1, i2, _⟩ := cells3 s1; obtain ⟨k0, k1, k2, k3⟩ := cells4 s2; obtain ⟨y0, y1, y2, y3⟩ := cells4 s3; go_simp; with_reducible rfl
              try simp only [Act.put, aSA, aSZ, aSS]
              have hh := hHeld
              refine wpAnyH_ready (rs := [6]) (by kernel_rfl) (by simp) (AllReadyH.cons (o := { dst := none, op := Op.store 64 (Operand.tmp 2) (Operand.tmp 117), type := 0, pos := "ref.go:103", after := #[eDa 4, ePh 0, ePh 1, ePh 2, ePh 3, ePh 4, { on := 5, ground := Ground.textOnly Departure.lateStores }], guard := none }) rfl (fun K hK => ?_) AllReadyH.nil)
              rw [if_pos (by rfl)]
              refine store_rmsg2 (.tmp 2) (.tmp 117) rfl w.heap.size rfl (.int .i64 1) (.int .i64 i.k) (.int .i64 i.n) (.string I) (.string MS) (.int .i64 pa.kind) (.string PS) (.slice p8 pa.keys.length q8) (.slice r8 pa.items.length s8) rfl (by simp [Value.oneCell']) hh.2.2.2.1 (fun Y1 hY1 hg1 _ => ?_)
              have t1 := (hg1.block zi (ltS hh.1) (fun e => by have := Option.some.inj e; omega)).trans hh.1
              have t2 := (hg1.block zm (ltS hh.2.1) (fun e => by have := Option.some.inj e; omega)).trans hh.2.1
              have t3 := (hg1.block zp (ltS hh.2.2.1) (fun e => by have := Option.some.inj e; omega)).trans hh.2.2.1
              have t5 : RIBox Y1 (w.heap.size + 1) := ribox_keep hh.2.2.2.2 (fun e => by have := Option.some.inj e; omega) hg1
              refine hK.out _ _ ⟨t1, t2, t3, ⟨_, _, _, _, _, _, _, _, _, hY1⟩, t5⟩ (fun _ => ?_)
              clear hK K
              try simp only [Act.put]
              refine wpAnyH_ready (rs := [7]) (by kernel_rfl) (by simp) (AllReadyH.cons (o := { dst := none, op := Op.store 62 (Operand.tmp 3) (Operand.tmp 118), type := 0, pos := "ref.go:103", after := #[eDa 5, eCh 6, ePh 0, ePh 1, ePh 2, ePh 3, ePh 4, ePh 5, ePh 6], guard := none }) rfl (fun K hK => ?_) AllReadyH.nil)
              rw [if_pos (by rfl)]
              refine store_rid2 (.tmp 3) (.tmp 118) rfl (w.heap.size + 1) rfl (.int .i64 i.k) (.int .i64 i.n) (.string I) rfl (by simp [Value.oneCell']) t5 (fun Y2 hY2 hg2 _ => ?_)
              have u1 := (hg2.block zi (ltS t1) (fun e => by have := Option.some.inj e; omega)).trans t1
              have u2 := (hg2.block zm (ltS t2) (fun e => by have := Option.some.inj e; omega)).trans t2
              have u3 := (hg2.block zp (ltS t3) (fun e => by have := Option.some.inj e; omega)).trans t3
              have t4 := (hg2.block w.heap.size (ltS hY1) (fun e => by have := Option.some.inj e; omega)).trans hY1
              refine hK.out _ _ ⟨u1, u2, u3, ⟨_, _, _, _, _, _, _, _, _, t4⟩, ⟨_, _, _, hY2⟩⟩ (fun _ => ?_)
              clear hK K
              try simp only [Act.put]
              refine wpAnyH_ready (rs := [8]) (by kernel_rfl) (by simp) (AllReadyH.cons (o := { dst := some 4, op := Op.assign (Operand.const (Value.int IntKind.i64 0)), type := 3, pos := "ref.go:103", after := #[eCh 7, ePh 0, ePh 1, ePh 2, ePh 3, ePh 4, ePh 5, ePh 6, ePh 7], guard := none }) rfl (fun K hK => ?_) AllReadyH.nil)
              rw [if_pos (by rfl)]
              go_simp
              refine hK.out _ _ ⟨u1, u2, u3, ⟨_, _, _, _, _, _, _, _, _, t4⟩, ⟨_, _, _, hY2⟩⟩ (fun _ => ?_)
              clear hK K
              try simp only [Act.put, aSA, aSZ, aSS]
              refine wpAnyH_done (by kernel_rfl) ?_ _
              go_wp2_with fail
              refine bodyPost_ret (ret_rread Tryz.results36 rfl rfl rfl t4 hY2) rfl ?_
              have hbE : Below w.heap.size w Y2 := below_gbz (below_gbz hBz.drew (Nat.le_refl _) hg1) (Nat.le_succ _) hg2
              rw [HRJ.out, hq, if_neg (by simp), if_neg (by rw [hP]; simp [HGD.out, IK.out])]
              exact ⟨p8, q8, r8, s8, by rw [← H8.out.2.2, ← H4.out.2.2, ← HI.out]; rfl, (((kp_on (HKP.out wc hb9) (Below.refl _ _).drew).fr (FrP.of (P := fun b => b = w.heap.size) hg1 rfl) (fun b hb e => by omega)).fr (FrP.of (P := fun b => b = w.heap.size + 1) hg2 rfl) (fun b hb e => by omega)).ki, hbE⟩
   · rw [if_pos k6]
     have q6 : (v.kind != 6) = true := by simp [k6]
     have q6b : (v.kind == 6) = false := beq_eq_false_iff_ne.2 k6
     go_wp2_with (first
      | (refine store_rmsg rfl (.tmp 2) (.tmp 32) rfl w.heap.size rfl (.int .i64 0) (.int .i64 0) (.int .i64 0) (.string ⟨#[]⟩) (.string ⟨#[]⟩) (.int .i64 0) (.string ⟨#[]⟩) (.slice none 0 0) (.slice none 0 0) rfl (by simp [Value.oneCell']) (HM.out V1 b1) (fun Y1 hY1 hg1 _ => ?_)
         have t5 := ribox_keep (HI0.out V1 b1) (fun e => (by have := Option.some.inj e; omega)) hg1)
      | (refine store_rid rfl (.tmp 3) (.tmp 33) rfl (w.heap.size + 1) rfl (.int .i64 0) (.int .i64 0) (.string ⟨#[]⟩) rfl rfl t5 (fun Y2 hY2 hg2 _ => ?_)))
     have t4 := (hg2.block w.heap.size (ltS hY1) (fun e => by have := Option.some.inj e; omega)).trans hY1
     refine bodyPost_ret (ret_rread Tryz.results36 rfl rfl rfl t4 hY2) rfl ?_
     have hbE : Below w.heap.size w Y2 := below_gbz (below_gbz (Below.on HBW.out b1) (Nat.le_refl _) hg1) (Nat.le_succ _) hg2
     exact RR.zero (i := id0) _ rfl hbE
 · rw [if_pos hn0]
   have qn : ((n : Int) != 0) = true := by simp; omega
   have qnb : ((n : Int) == 0) = false := beq_eq_false_iff_ne.2 (by omega)
   have hn0i : ¬ (n : Int) = 0 := by omega
   go_wp2_with (first
    | (refine store_rmsg rfl (.tmp 2) (.tmp 27) rfl w.heap.size rfl (.int .i64 0) (.int .i64 0) (.int .i64 0) (.string ⟨#[]⟩) (.string ⟨#[]⟩) (.int .i64 0) (.string ⟨#[]⟩) (.slice none 0 0) (.slice none 0 0) rfl (by simp [Value.oneCell']) (HM.out V1 b1) (fun Y1 hY1 hg1 _ => ?_)
       have t5 := ribox_keep (HI0.out V1 b1) (fun e => (by have := Option.some.inj e; omega)) hg1)
    | (refine store_rid rfl (.tmp 3) (.tmp 28) rfl (w.heap.size + 1) rfl (.int .i64 0) (.int .i64 0) (.string ⟨#[]⟩) rfl rfl t5 (fun Y2 hY2 hg2 _ => ?_)))
   have t4 := (hg2.block w.heap.size (ltS hY1) (fun e => by have := Option.some.inj e; omega)).trans hY1
   refine bodyPost_ret (ret_rread Tryz.results36 rfl rfl rfl t4 hY2) rfl ?_
   have hbE : Below w.heap.size w Y2 := below_gbz (below_gbz (Below.on HBW.out b1) (Nat.le_refl _) hg1) (Nat.le_succ _) hg2
   exact RR.zero (i := id0) _ rfl hbE
end Go.Proofs.Rp
