/- rpc.Read. Printed by gen_p7.py. -/
import Derived.Test.YtaiaiiepbpbmmaaGreatDoorPX
import Derived.Deep.CutBlock
namespace Go.Proofs.Rp
open Go.RowKit Go.Maps Go.Lib Go.Proofs.Utf Go.Proofs.Jt Go.Proofs

/-- a box of a message -/
def MBox (w : World) (z : Nat) : Prop := ∃ a b c d e f g h i, w.heap[z]? = some (.cells #[a, b, c, d, e, f, g, h, i] 59 (0, 0))
theorem cells9 {w : World} {z : Nat} {a b c d e f g h i : Value} {t : TypeId} (hz : w.heap[z]? = some (.cells #[a, b, c, d, e, f, g, h, i] t (0, 0))) : w.cell? ⟨z, 0, none⟩ = some a ∧ w.cell? ⟨z, 1, none⟩ = some b ∧ w.cell? ⟨z, 2, none⟩ = some c ∧ w.cell? ⟨z, 3, none⟩ = some d ∧ w.cell? ⟨z, 4, none⟩ = some e ∧ w.cell? ⟨z, 5, none⟩ = some f ∧ w.cell? ⟨z, 6, none⟩ = some g ∧ w.cell? ⟨z, 7, none⟩ = some h ∧ w.cell? ⟨z, 8, none⟩ = some i := by
 refine ⟨?_, ?_, ?_, ?_, ?_, ?_, ?_, ?_, ?_⟩ <;> simp [World.cell?, hz]
theorem store_msg2 {op : Oper} {a : Act} {w : World} {K : Act → World → Prop} {Q : Exit → Act → World → Prop} (x y : Operand) (ho : op.op = .store 59 x y) (z : Nat) (hx : a.eval x = .pointer (some ⟨z, 0, none⟩))
 (v0 v1 v2 v3 v4 v5 v6 v7 v8 : Value) (hy : a.eval y = .agg #[v0, v1, v2, v3, v4, v5, v6, v7, v8]) (h1 : (#[v0, v1, v2, v3, v4, v5, v6, v7, v8] : Array Value).all (·.oneCell') = true) (hz : MBox w z)
 (h : ∀ W, W.heap[z]? = some (.cells #[v0, v1, v2, v3, v4, v5, v6, v7, v8] 59 (0, 0)) → w.grownBy W (some z) → W.heap.size = w.heap.size → K (a.put op.dst undef) W) : op.wp Tryz.prog a w K Q := by
 obtain ⟨a0, a1, a2, a3, a4, a5, a6, a7, a8, hz⟩ := hz
 refine wp_store_row 59 x y ho z #[v0, v1, v2, v3, v4, v5, v6, v7, v8] hx hy 59 #[a0, a1, a2, a3, a4, a5, a6, a7, a8] hz (by kernel_rfl) rfl h1 ?_
 exact h _ (heap_setRow_self hz) (gb_setRow _ _ _) (by show (w.heap.modify z _).size = _; rw [Array.size_modify])
theorem store_msg {ops : Array Oper} {rest : List Oper} {op : Oper} {a : Act} {w : World} {Q : Exit → Act → World → Prop} (hgd : op.guard = none) (x y : Operand) (ho : op.op = .store 59 x y) (z : Nat) (hx : a.eval x = .pointer (some ⟨z, 0, none⟩))
 (v0 v1 v2 v3 v4 v5 v6 v7 v8 : Value) (hy : a.eval y = .agg #[v0, v1, v2, v3, v4, v5, v6, v7, v8]) (h1 : (#[v0, v1, v2, v3, v4, v5, v6, v7, v8] : Array Value).all (·.oneCell') = true) (hz : MBox w z)
 (h : ∀ W, W.heap[z]? = some (.cells #[v0, v1, v2, v3, v4, v5, v6, v7, v8] 59 (0, 0)) → w.grownBy W (some z) → W.heap.size = w.heap.size → wpList Tryz.prog ops Q rest (a.put op.dst undef) W) : wpList Tryz.prog ops Q (op :: rest) a w :=
 wpList_plain hgd fun _ hK => store_msg2 x y ho z hx v0 v1 v2 v3 v4 v5 v6 v7 v8 hy h1 hz fun W a b c => hK _ _ (h W a b c)
theorem store_id2 {op : Oper} {a : Act} {w : World} {K : Act → World → Prop} {Q : Exit → Act → World → Prop} (x y : Operand) (ho : op.op = .store 57 x y) (z : Nat) (hx : a.eval x = .pointer (some ⟨z, 0, none⟩))
 (v0 v1 v2 : Value) (hy : a.eval y = .agg #[v0, v1, v2]) (h1 : (#[v0, v1, v2] : Array Value).all (·.oneCell') = true) (hz : IBox w z)
 (h : ∀ W, W.heap[z]? = some (.cells #[v0, v1, v2] 57 (0, 0)) → w.grownBy W (some z) → W.heap.size = w.heap.size → K (a.put op.dst undef) W) : op.wp Tryz.prog a w K Q := by
 obtain ⟨a0, a1, a2, hz⟩ := hz
 refine wp_store_row 57 x y ho z #[v0, v1, v2] hx hy 57 #[a0, a1, a2] hz (by kernel_rfl) rfl h1 ?_
 exact h _ (heap_setRow_self hz) (gb_setRow _ _ _) (by show (w.heap.modify z _).size = _; rw [Array.size_modify])
theorem ret_read {fn : Func} {p q u : Tmp} (h : fn.results = #[.cell p 59, .cell q 57, .tmp u]) {tmps : Array Value} {w : World} {g g' : Nat} (hp : tmps.getD p undef = .pointer (some ⟨g, 0, none⟩)) (hq : tmps.getD q undef = .pointer (some ⟨g', 0, none⟩)) {v0 v1 v2 v3 v4 v5 v6 v7 v8 u0 u1 u2 e : Value} (he : tmps.getD u undef = e)
 (hg : w.heap[g]? = some (.cells #[v0, v1, v2, v3, v4, v5, v6, v7, v8] 59 (0, 0))) (hg' : w.heap[g']? = some (.cells #[u0, u1, u2] 57 (0, 0))) :
 (results fn tmps).run Tryz.prog w = .ok (.tuple #[.agg #[v0, v1, v2, v3, v4, v5, v6, v7, v8], .agg #[u0, u1, u2], e]) w := by
 have h1 := run_loadVar_row (P := Tryz.prog) w g 59 59 #[v0, v1, v2, v3, v4, v5, v6, v7, v8] (0, 0) _ hg Tryz.underlying59 rfl (by kernel_rfl)
 have h2 := run_loadVar_row (P := Tryz.prog) w g' 57 57 #[u0, u1, u2] (0, 0) _ hg' Tryz.underlying57 rfl (by kernel_rfl)
 have hp' : tmps[p]?.getD undef = .pointer (some ⟨g, 0, none⟩) := by simpa using hp
 have hq' : tmps[q]?.getD undef = .pointer (some ⟨g', 0, none⟩) := by simpa using hq
 have he' : tmps[u]?.getD undef = e := by simpa using he
 simp [results, h, hp', hq', he', asAddr, h1, h2]
theorem kp_on {w w' : World} {P : Nat → Prop} {x : JV} {kp ip : Option Addr} {kc ic : Nat} (h : KP w P x kp kc ip ic) (hb : Below w.heap.size w w') : KP w' P x kp kc ip ic :=
 h.fr (FrP.of_none (P := fun _ => False) (gb_below' hb)) fun _ _ => id
theorem lit_ne {S : ByteArray} {l : List UInt8} (h : ¬ S.data.toList = l) : ¬ S.toList = l ∧ (S.toList == l) = false ∧ (S.toList != l) = true := by
 have h1 : ¬ S.toList = l := by rw [ByteArray.toList_eq]; exact h
 exact ⟨h1, beq_eq_false_iff_ne.2 h1, bne_iff_ne.2 h1⟩
theorem readJ_eq (v : JV) : readJ v = if (!hasV v kMethod && (hasV v kResult || hasV v kError)) = true then (⟨3, idOfV v, [], jn 0⟩, idOfV v, 0) else if (decide ((getV v kVer).kind ≠ 4) || decide ((getV v kVer).str ≠ v20) || decide ((getV v kMethod).kind ≠ 4) || (hasV v kParams && decide ((getV v kParams).kind ≠ 5) && decide ((getV v kParams).kind ≠ 6)) || (hasV v kId && decide ((idOfV v).k = 0))) = true then (msg0, idOfV v, -32600) else (⟨if hasV v kId = true then 1 else 2, idOfV v, (getV v kMethod).str, getV v kParams⟩, idOfV v, 0) := by
 unfold readJ otherV badV
 rfl
/-- what Read leaves -/
def RR (w : World) (r : MsgV × IdV × Int) (e : Ending) (w' : World) : Prop := ∃ kp kc ip ic, e = .returned (.tuple #[.agg #[.int .i64 r.1.k, .int .i64 r.1.id.k, .int .i64 r.1.id.n, .string ⟨r.1.id.s.toArray⟩, .string ⟨r.1.m.toArray⟩, .int .i64 r.1.p.kind, .string ⟨r.1.p.str.toArray⟩, .slice kp r.1.p.keys.length kc, .slice ip r.1.p.items.length ic], .agg #[.int .i64 r.2.1.k, .int .i64 r.2.1.n, .string ⟨r.2.1.s.toArray⟩], .int .i64 r.2.2]) ∧ KI w' r.1.p kp kc ip ic ∧ Below w.heap.size w w'
theorem RR.zero {w w' : World} {i : IdV} {I : ByteArray} (c : Int) (hI : (⟨i.s.toArray⟩ : ByteArray) = I) (hb : Below w.heap.size w w') : RR w (msg0, i, c) (.returned (.tuple #[.agg #[.int .i64 0, .int .i64 0, .int .i64 0, .string ⟨#[]⟩, .string ⟨#[]⟩, .int .i64 0, .string ⟨#[]⟩, .slice none 0 0, .slice none 0 0], .agg #[.int .i64 i.k, .int .i64 i.n, .string I], .int .i64 c])) w' :=
 ⟨none, 0, none, 0, by rw [← hI]; rfl, ki_leaf rfl rfl, hb⟩
set_option maxRecDepth 100000 in
set_option maxHeartbeats 16000000 in
theorem read_any (s : ByteArray) {w : World} (hT : Tabs w) (hE : ErrV w) (hs : s.size ≤ 400000) : Calls Tryz.prog 35 #[.string s] w (RR w (readV s.data.toList)) := by
 obtain ⟨v, n, hp⟩ : ∃ v n, parV s.data.toList = (v, n) := ⟨_, _, rfl⟩
 have hrv : readV s.data.toList = if n ≠ 0 then (msg0, id0, -32700) else if v.kind ≠ 6 then (msg0, id0, -32600) else readJ v := by
  unfold readV
  rw [hp]
 rw [hrv]
 clear hrv
 obtain ⟨S, hS⟩ : ∃ S : ByteArray, (⟨v.str.toArray⟩ : ByteArray) = S := ⟨_, rfl⟩
 obtain ⟨W1, hW1⟩ : ∃ W, w.alloc (.cells #[.int .i64 0, .int .i64 0, .int .i64 0, .string ⟨#[]⟩, .string ⟨#[]⟩, .int .i64 0, .string ⟨#[]⟩, .slice none 0 0, .slice none 0 0] 59) = W := ⟨_, rfl⟩
 obtain ⟨W, hW⟩ : ∃ W, W1.alloc (.cells #[.int .i64 0, .int .i64 0, .string ⟨#[]⟩] 57) = W := ⟨_, rfl⟩
 have bW1 := alloc_b hW1
 have bW2 := alloc_b hW
 have bW := Below.on bW1 bW2
 have hz1 : W1.heap.size = w.heap.size + 1 := by rw [← hW1]; simp
 have hmb : w.heap.size ≤ w.heap.size := Nat.le_refl _
 have hib : w.heap.size ≤ w.heap.size + 1 := Nat.le_succ _
 have hne : w.heap.size ≠ w.heap.size + 1 := by omega
 have hz2 : W.heap.size = w.heap.size + 2 := by rw [← hW]; simp; omega
 have hm : W.heap[w.heap.size]? = some (.cells #[.int .i64 0, .int .i64 0, .int .i64 0, .string ⟨#[]⟩, .string ⟨#[]⟩, .int .i64 0, .string ⟨#[]⟩, .slice none 0 0, .slice none 0 0] 59 (0, 0)) := by exact (bW2.block _ (by omega)).trans (by rw [← hW1]; exact alloc_at w _)
 have hi : W.heap[w.heap.size + 1]? = some (.cells #[.int .i64 0, .int .i64 0, .string ⟨#[]⟩] 57 (0, 0)) := by rw [← hz1, ← hW]; exact alloc_at W1 _
 have hpar := parse_is (hT.below bW) (by omega) hp hS
 have HM : Hid (∀ V, Below W.heap.size W V → V.heap[w.heap.size]? = some (.cells #[.int .i64 0, .int .i64 0, .int .i64 0, .string ⟨#[]⟩, .string ⟨#[]⟩, .int .i64 0, .string ⟨#[]⟩, .slice none 0 0, .slice none 0 0] 59 (0, 0))) := Lib.hid fun V hV => (hV.block _ (ltS hm)).trans hm
 have HI0 : Hid (∀ V, Below W.heap.size W V → V.heap[w.heap.size + 1]? = some (.cells #[.int .i64 0, .int .i64 0, .string ⟨#[]⟩] 57 (0, 0))) := Lib.hid fun V hV => (hV.block _ (ltS hi)).trans hi
 have HE : Hid (∀ V, Below W.heap.size W V → ErrV V) := Lib.hid fun V hV => hE.below (Below.on bW hV)
 have HS := Lib.hid hS
 have HBW := Lib.hid bW
 have HVW : Hid (n = 0 → v.wt ≤ 1000000) := Lib.hid fun e => by
  subst e
  have := par_wt hp
  rw [Array.length_toList] at this
  have : s.data.size = s.size := rfl
  omega
 subst hW1
 clear hm hi hp hS hT hE bW bW1 bW2
 go_enter Tryz.func35, Tryz.ntmps35
 go_upto_region 2 with (first
  | (go_at_call 52; refine hpar.mono ?_; rintro e w1 ⟨kp, kc, ip, ic, rfl, hkp, hvl, hb1⟩
     obtain ⟨V1, hV1⟩ : ∃ V, w1.alloc (.cells #[.int .i64 v.kind, .string S, .slice kp v.keys.length kc, .slice ip v.items.length ic] 25) = V := ⟨_, rfl⟩
     have hv1 := alloc_b hV1
     have b1 := Below.on hb1 hv1
     have HX := Lib.hid (box_of hV1)
     have hxh : V1.heap[w1.heap.size]? = some (.cells #[.int .i64 v.kind, .string S, .slice kp v.keys.length kc, .slice ip v.items.length ic] 25 (0, 0)) := (by rw [← hV1]; exact alloc_at w1 _)
     have HXH := Lib.hid hxh
     clear hxh
     have HK : Hid (KP V1 (fun b => w.heap.size + 2 ≤ b) v kp kc ip ic) := Lib.hid ((kp_on hkp hv1).keep (Nat.le_refl _) (fun _ _ _ => rfl) (fun b hb _ => Nat.le_trans (Nat.le_of_eq hz2.symm) hb))
     clear hkp hvl hpar))
 by_cases hn0 : n = 0
 · subst hn0
   rw [if_neg (fun h => h rfl)]
   obtain ⟨x0, x1, x2, x3⟩ := HX.out V1 (Below.refl _ _)
   by_cases k6 : v.kind = 6
   · rw [if_neg (fun h => h k6)]
     have q6 : (v.kind != 6) = false := by simp [k6]
     have q6b : (v.kind == 6) = true := by simp [k6]
     have hwt := HVW.out rfl
     obtain ⟨i, hid⟩ : ∃ i, idOfV v = i := ⟨_, rfl⟩
     obtain ⟨bi, hbi⟩ : ∃ b, hasV v kId = b := ⟨_, rfl⟩
     obtain ⟨I, hI⟩ : ∃ B : ByteArray, (⟨i.s.toArray⟩ : ByteArray) = B := ⟨_, rfl⟩
     obtain ⟨me, hme⟩ : ∃ f, getV v kMethod = f := ⟨_, rfl⟩
     obtain ⟨bm, hbm⟩ : ∃ b, hasV v kMethod = b := ⟨_, rfl⟩
     obtain ⟨MS, hMS⟩ : ∃ B : ByteArray, (⟨me.str.toArray⟩ : ByteArray) = B := ⟨_, rfl⟩
     obtain ⟨re, hre⟩ : ∃ f, getV v kResult = f := ⟨_, rfl⟩
     obtain ⟨br, hbr⟩ : ∃ b, hasV v kResult = b := ⟨_, rfl⟩
     obtain ⟨RS, hRS⟩ : ∃ B : ByteArray, (⟨re.str.toArray⟩ : ByteArray) = B := ⟨_, rfl⟩
     obtain ⟨er, her⟩ : ∃ f, getV v kError = f := ⟨_, rfl⟩
     obtain ⟨be, hbe⟩ : ∃ b, hasV v kError = b := ⟨_, rfl⟩
     obtain ⟨ES, hES⟩ : ∃ B : ByteArray, (⟨er.str.toArray⟩ : ByteArray) = B := ⟨_, rfl⟩
     obtain ⟨ve, hve⟩ : ∃ f, getV v kVer = f := ⟨_, rfl⟩
     obtain ⟨bv, hbv⟩ : ∃ b, hasV v kVer = b := ⟨_, rfl⟩
     obtain ⟨VS, hVS⟩ : ∃ B : ByteArray, (⟨ve.str.toArray⟩ : ByteArray) = B := ⟨_, rfl⟩
     obtain ⟨pa, hpa⟩ : ∃ f, getV v kParams = f := ⟨_, rfl⟩
     obtain ⟨bp, hbp⟩ : ∃ b, hasV v kParams = b := ⟨_, rfl⟩
     obtain ⟨PS, hPS⟩ : ∃ B : ByteArray, (⟨pa.str.toArray⟩ : ByteArray) = B := ⟨_, rfl⟩
     obtain ⟨B, hBad⟩ : ∃ B, (decide (ve.kind ≠ 4) || decide (ve.str ≠ v20) || decide (me.kind ≠ 4) || (bp && decide (pa.kind ≠ 5) && decide (pa.kind ≠ 6)) || (bi && decide (i.k = 0))) = B := ⟨_, rfl⟩
     have hrj := readJ_eq v
     rw [hid, hbi, hbm, hbr, hbe, hbp, hme, hve, hpa, hBad] at hrj
     have HRJ := Lib.hid hrj
     have HMethod := Lib.hid (And.intro hme (And.intro hbm hMS))
     have HResult := Lib.hid (And.intro hre (And.intro hbr hRS))
     have HError := Lib.hid (And.intro her (And.intro hbe hES))
     have HVer := Lib.hid (And.intro hve (And.intro hbv hVS))
     have HParams := Lib.hid (And.intro hpa (And.intro hbp hPS))
     have HI := Lib.hid hI
     have HB := Lib.hid hBad
     have HWT := Lib.hid hwt
     have h93 := idOf_any (HE.out V1 b1) HK.out.ki hwt HS.out i hid bi hbi I hI
     rw [k6] at h93
     clear hrj hid hbi hI hBad hwt hme hbm hMS hre hbr hRS her hbe hES hve hbv hVS hpa hbp hPS
     go_upto_region 10 with (first
      | (go_at_call 93; refine h93.mono ?_; rintro e w2 ⟨rfl, hb2⟩; have hmz := HM.out w2 (Below.on b1 hb2); have hiz := HI0.out w2 (Below.on b1 hb2); have hxz := (hb2.block _ (ltS HXH.out)).trans HXH.out)
      | (with_reducible (show Calls _ _ _ V2 _); go_at_call 27; refine hMethod.mono ?_; rintro e w3 ⟨p3, q3, r3, s3, rfl, hk3, _, hb3⟩
         obtain ⟨V3, hV3⟩ : ∃ V, w3.alloc (.cells #[.int .i64 me.kind, .string MS, .slice p3 me.keys.length q3, .slice r3 me.items.length s3] 25) = V := ⟨_, rfl⟩
         have hv3 := alloc_b hV3
         have b3 := Below.on hb3 hv3
         have HX3 := Lib.hid (box_of hV3)
         have HK3 := Lib.hid hk3
         clear hk3 hMethod
         clear x0 x1 x2 x3
         obtain ⟨x0, x1, x2, x3⟩ := HX2.out V3 b3
         have hResult := fieldA_is (K := ⟨#[114, 101, 115, 117, 108, 116]⟩) (HK2.out.ki.stay b3) HWT.out HS.out HResult.out.1 HResult.out.2.1 HResult.out.2.2 V3 (Below.refl _ _)
         rw [k6] at hResult)
      | (with_reducible (show Calls _ _ _ V3 _); go_at_call 27; refine hResult.mono ?_; rintro e w4 ⟨p4, q4, r4, s4, rfl, hk4, _, hb4⟩
         obtain ⟨V4, hV4⟩ : ∃ V, w4.alloc (.cells #[.int .i64 re.kind, .string RS, .slice p4 re.keys.length q4, .slice r4 re.items.length s4] 25) = V := ⟨_, rfl⟩
         have hv4 := alloc_b hV4
         have b4 := Below.on hb4 hv4
         have HX4 := Lib.hid (box_of hV4)
         have HK4 := Lib.hid hk4
         clear hk4 hResult
         have b24 := Below.on b3 b4
         clear x0 x1 x2 x3
         obtain ⟨x0, x1, x2, x3⟩ := HX2.out V4 b24
         have hError := fieldA_is (K := ⟨#[101, 114, 114, 111, 114]⟩) (HK2.out.ki.stay b24) HWT.out HS.out HError.out.1 HError.out.2.1 HError.out.2.2 V4 (Below.refl _ _)
         rw [k6] at hError)
      | (with_reducible (show Calls _ _ _ V4 _); go_at_call 27; refine hError.mono ?_; rintro e w5 ⟨p5, q5, r5, s5, rfl, hk5, _, hb5⟩
         obtain ⟨V5, hV5⟩ : ∃ V, w5.alloc (.cells #[.int .i64 er.kind, .string ES, .slice p5 er.keys.length q5, .slice r5 er.items.length s5] 25) = V := ⟨_, rfl⟩
         have hv5 := alloc_b hV5
         have b5 := Below.on hb5 hv5
         have HX5 := Lib.hid (box_of hV5)
         have HK5 := Lib.hid hk5
         clear hk5 hError
         have b25 := Below.on b24 b5)
      | (refine store_id rfl (.tmp 3) (.tmp 37) rfl (w.heap.size + 1) rfl (.int .i64 i.k) (.int .i64 i.n) (.string I) rfl rfl ⟨_, _, _, hiz⟩ (fun V2 hV2 hgV2 _ => ?_)
         have hbw : Below w.heap.size w V2 := below_gbz (Below.on HBW.out (Below.on b1 hb2)) (by omega) hgV2
         have hw1z : w.heap.size + 2 ≤ w1.heap.size := (by have := hb1.size; omega)
         have hz22 : w.heap.size + 2 ≤ V2.heap.size := (by have := hv1.size; have := hb2.size; have := hgV2.size; omega)
         have hm2 := (hgV2.block w.heap.size (ltS hmz) (fun e => by have := Option.some.inj e; omega)).trans hmz
         have hx2 := (hgV2.block w1.heap.size (ltS hxz) (fun e => by have := Option.some.inj e; omega)).trans hxz
         have hk2 := (kp_on HK.out hb2).fr (FrP.of (P := fun b => b = w.heap.size + 1) hgV2 rfl) (fun b hb e => by omega)
         have HM2 := Lib.hid (And.intro hm2 hV2)
         have HX2 : Hid (∀ V, Below V2.heap.size V2 V → _) := Lib.hid fun V hV => cells4 ((hV.block _ (ltS hx2)).trans hx2)
         have HK2 := Lib.hid hk2
         have HBV2 := Lib.hid hbw
         have hE2 := (HE.out w2 (Below.on b1 hb2))
         clear hmz hiz hxz hm2 hx2 hk2 hbw x0 x1 x2 x3
         obtain ⟨x0, x1, x2, x3⟩ := HX2.out V2 (Below.refl _ _)
         have hMethod := fieldA_is (K := ⟨#[109, 101, 116, 104, 111, 100]⟩) HK2.out.ki HWT.out HS.out HMethod.out.1 HMethod.out.2.1 HMethod.out.2.2 V2 (Below.refl _ _)
         rw [k6] at hMethod))
     clear x0 x1 x2 x3
     go_cut [61] (fun x wx => x = .bool (!bm && (br || be)) ∧ Below V5.heap.size V5 wx)
     case first =>
      cases bm with
      | true =>
       go_wp2_with fail
       go_meet
       exact ⟨rfl, Below.refl _ _⟩
      | false =>
       cases br with
       | true =>
        go_wp2_with fail
        go_meet
        exact ⟨rfl, Below.refl _ _⟩
       | false =>
        go_wp2_with fail
        go_meet
        exact ⟨rfl, Below.refl _ _⟩
     case rest =>
      obtain ⟨rfl, hbc⟩ := hcut
      have b2c := Below.on b25 hbc
      have hmc := (b2c.block _ (ltS HM2.out.1)).trans HM2.out.1
      have hic := (b2c.block _ (ltS HM2.out.2)).trans HM2.out.2
      cases hq : (!bm && (br || be)) with
      | true =>
       have hB1 := Below.on HBV2.out b2c
       clear HX HX2 HK HK2 HE HVW HM HI0 HX3 HX4 HX5 HK3 HK4 HK5
       go_upto_region 11 with fail
       refine wp_region_held_drew (S := (fun v => v.heap[w.heap.size + 1]? = some (.cells #[.int .i64 i.k, .int .i64 i.n, .string I] 57 (0, 0)) ∧ MBox v w.heap.size)) (by kernel_rfl) ⟨hic, _, _, _, _, _, _, _, _, _, hmc⟩ (fun hHeld => ?_)
       refine wpAnyH_take (i := 0) (oi := { dst := some 62, op := Op.load 57 (Operand.tmp 3), type := 57, pos := "rpc.go:120", after := #[], guard := none }) (v := ?_) rfl (by kernel_rfl) (by kernel_rfl) (by kernel_rfl) (fun _ _ _ h => h) (Or.inl ⟨by rfl, ?_⟩) (by assumption) ?_
       rotate_left
       · intro wx hS; obtain ⟨s1, s2⟩ := hS; obtain ⟨i0, i1, i2, _⟩ := cells3 s1; go_simp; with_reducible rfl
       try simp only [Act.put, aSA, aSZ, aSS]
       refine wpAnyH_take (i := 1) (oi := { dst := some 63, op := Op.build 59 #[(0, Operand.const (Value.int IntKind.i64 3)), (1, Operand.tmp 62)], type := 59, pos := "rpc.go:120", after := #[eDa 0], guard := none }) (v := ?_) rfl (by kernel_rfl) (by kernel_rfl) (by kernel_rfl) (fun _ _ _ h => h) (Or.inl ⟨by rfl, ?_⟩) (by assumption) ?_
       rotate_left
       · intro wx hS; obtain ⟨s1, s2⟩ := hS; obtain ⟨i0, i1, i2, _⟩ := cells3 s1; go_simp; with_reducible rfl
       try simp only [Act.put, aSA, aSZ, aSS]
       refine wpAnyH_take (i := 2) (oi := { dst := some 64, op := Op.load 57 (Operand.tmp 3), type := 57, pos := "rpc.go:120", after := #[{ on := 3, ground := Ground.gcOnly Departure.lateStores }], guard := none }) (v := ?_) rfl (by kernel_rfl) (by kernel_rfl) (by kernel_rfl) (fun _ _ _ h => h) (Or.inl ⟨by rfl, ?_⟩) (by assumption) ?_
       rotate_left
       · intro wx hS; obtain ⟨s1, s2⟩ := hS; obtain ⟨i0, i1, i2, _⟩ := cells3 s1; go_simp; with_reducible rfl
       try simp only [Act.put, aSA, aSZ, aSS]
       have hh := hHeld
       refine wpAnyH_ready (rs := [3]) (by kernel_rfl) (by simp) (AllReadyH.cons (o := { dst := none, op := Op.store 59 (Operand.tmp 2) (Operand.tmp 63), type := 0, pos := "rpc.go:120", after := #[eDa 1, ePh 0, ePh 1, { on := 2, ground := Ground.textOnly Departure.lateStores }], guard := none }) rfl (fun K hK => ?_) AllReadyH.nil)
       rw [if_pos (by rfl)]
       refine store_msg2 (.tmp 2) (.tmp 63) rfl w.heap.size rfl (.int .i64 3) (.int .i64 i.k) (.int .i64 i.n) (.string I) (.string ⟨#[]⟩) (.int .i64 0) (.string ⟨#[]⟩) (.slice none 0 0) (.slice none 0 0) rfl (by simp [Value.oneCell']) hh.2 (fun V1 hV1 hg1 _ => ?_)
       have t1 := (hg1.block (w.heap.size + 1) (ltS hh.1) (fun e => hne (Option.some.inj e).symm)).trans hh.1
       refine hK.out _ _ ⟨t1, _, _, _, _, _, _, _, _, _, hV1⟩ (fun _ => ?_)
       clear hK K
       try simp only [Act.put]
       refine wpAnyH_ready (rs := [4]) (by kernel_rfl) (by simp) (AllReadyH.cons (o := { dst := none, op := Op.store 57 (Operand.tmp 3) (Operand.tmp 64), type := 0, pos := "rpc.go:120", after := #[eDa 2, eCh 3, ePh 0, ePh 1, ePh 2, ePh 3], guard := none }) rfl (fun K hK => ?_) AllReadyH.nil)
       rw [if_pos (by rfl)]
       refine store_id2 (.tmp 3) (.tmp 64) rfl (w.heap.size + 1) rfl (.int .i64 i.k) (.int .i64 i.n) (.string I) rfl (by simp [Value.oneCell']) ⟨_, _, _, t1⟩ (fun V2 hV2 hg2 _ => ?_)
       have t2 := (hg2.block w.heap.size (ltS hV1) (fun e => hne (Option.some.inj e))).trans hV1
       refine hK.out _ _ ⟨hV2, _, _, _, _, _, _, _, _, _, t2⟩ (fun _ => ?_)
       clear hK K
       try simp only [Act.put]
       refine wpAnyH_ready (rs := [5]) (by kernel_rfl) (by simp) (AllReadyH.cons (o := { dst := some 4, op := Op.assign (Operand.const (Value.int IntKind.i64 0)), type := 3, pos := "rpc.go:120", after := #[eCh 4, ePh 0, ePh 1, ePh 2, ePh 3, ePh 4], guard := none }) rfl (fun K hK => ?_) AllReadyH.nil)
       rw [if_pos (by rfl)]
       go_simp
       refine hK.out _ _ ⟨hV2, _, _, _, _, _, _, _, _, _, t2⟩ (fun _ => ?_)
       clear hK K
       try simp only [Act.put, aSA, aSZ, aSS]
       refine wpAnyH_done (by kernel_rfl) ?_ _
       go_wp2_with fail
       refine bodyPost_ret (ret_read Tryz.results35 rfl rfl rfl t2 hV2) rfl ?_
       have hbE : Below w.heap.size w V2 := below_gbz (below_gbz (hB1).drew hmb hg1) hib hg2
       rw [HRJ.out, hq, if_pos rfl]
       exact ⟨none, 0, none, 0, by rw [← HI.out]; rfl, ki_leaf rfl rfl, hbE⟩
      | false =>
       obtain ⟨x0, x1, x2, x3⟩ := HX2.out wc b2c
       have hVer := fieldA_is (K := ⟨#[106, 115, 111, 110, 114, 112, 99]⟩) (HK2.out.ki.stay b2c) HWT.out HS.out HVer.out.1 HVer.out.2.1 HVer.out.2.2 wc (Below.refl _ _)
       rw [k6] at hVer
       go_upto_region 14 with (first
        | (with_reducible (show Calls _ _ _ wc _); go_at_call 27; refine hVer.mono ?_; rintro e w6 ⟨p6, q6, r6, s6, rfl, hk6, _, hb6⟩
           obtain ⟨V6, hV6⟩ : ∃ V, w6.alloc (.cells #[.int .i64 ve.kind, .string VS, .slice p6 ve.keys.length q6, .slice r6 ve.items.length s6] 25) = V := ⟨_, rfl⟩
           have hv6 := alloc_b hV6
           have b6 := Below.on hb6 hv6
           have HX6 := Lib.hid (box_of hV6)
           have HK6 := Lib.hid hk6
           clear hk6 hVer
           have b26 := Below.on b2c b6
           clear x0 x1 x2 x3
           obtain ⟨x0, x1, x2, x3⟩ := HX2.out V6 b26
           have hParams := fieldA_is (K := ⟨#[112, 97, 114, 97, 109, 115]⟩) (HK2.out.ki.stay b26) HWT.out HS.out HParams.out.1 HParams.out.2.1 HParams.out.2.2 V6 (Below.refl _ _)
           rw [k6] at hParams)
        | (with_reducible (show Calls _ _ _ V6 _); go_at_call 27; refine hParams.mono ?_; rintro e w7 ⟨p7, q7, r7, s7, rfl, hk7, _, hb7⟩
           obtain ⟨V7, hV7⟩ : ∃ V, w7.alloc (.cells #[.int .i64 pa.kind, .string PS, .slice p7 pa.keys.length q7, .slice r7 pa.items.length s7] 25) = V := ⟨_, rfl⟩
           have hv7 := alloc_b hV7
           have b7 := Below.on hb7 hv7
           have HX7 := Lib.hid (box_of hV7)
           have HK7 := Lib.hid hk7
           clear hk7 hParams
           have b27 := Below.on b26 b7))
       clear x0 x1 x2 x3
       have b37 := Below.on b4 (Below.on b5 (Below.on hbc (Below.on b6 b7)))
       obtain ⟨m0, m1, m2, m3⟩ := HX3.out V7 b37
       obtain ⟨y0, y1, y2, y3⟩ := HX6.out V7 b7
       obtain ⟨z0, z1, z2, z3⟩ := HX7.out V7 (Below.refl _ _)
       have hm7 := (b27.block _ (ltS HM2.out.1)).trans HM2.out.1
       have hi7 := (b27.block _ (ltS HM2.out.2)).trans HM2.out.2
       obtain ⟨i0, i1, i2, _⟩ := cells3 hi7
       have h94 := params_any pa.kind PS p7 r7 pa.keys.length q7 pa.items.length s7 V7
       go_cut [108] (fun x wx => x = .bool B ∧ Below V7.heap.size V7 wx)
       case first =>
        have hvs : ve.str = VS.data.toList := by rw [← HVer.out.2.2]
        by_cases kv : ve.kind = 4
        · have v1 : (ve.kind == 4) = true := by rw [kv]; rfl
          have v2 : (ve.kind != 4) = false := by rw [kv]; rfl
          by_cases sv : VS.data.toList = [50, 46, 48]
          · have hvs2 : ve.str = v20 := hvs.trans sv
            obtain rfl : VS = ⟨#[50, 46, 48]⟩ := ByteArray.ext (Array.toList_inj.1 sv)
            by_cases km : me.kind = 4
            · have k1 : (me.kind == 4) = true := by rw [km]; rfl
              have k2 : (me.kind != 4) = false := by rw [km]; rfl
              cases bp with
              | false =>
               cases bi with
               | false =>
                obtain rfl : B = false := by rw [← HB.out]; simp [kv, hvs2, km]
                go_wp2_with fail
                go_meet
                exact ⟨rfl, Below.refl _ _⟩
               | true =>
                by_cases ik : i.k = 0
                · have j1 : (i.k == 0) = true := by rw [ik]; rfl
                  obtain rfl : B = true := by rw [← HB.out]; simp [ik]
                  go_wp2_with fail
                  go_meet
                  exact ⟨rfl, Below.refl _ _⟩
                · have j1 : (i.k == 0) = false := beq_eq_false_iff_ne.2 ik
                  obtain rfl : B = false := by rw [← HB.out]; simp [kv, hvs2, km, ik]
                  go_wp2_with fail
                  go_meet
                  exact ⟨rfl, Below.refl _ _⟩
              | true =>
               by_cases p0 : pa.kind = 0
               · have o1 : (pa.kind == 0) = true := by rw [p0]; rfl
                 obtain rfl : B = true := by rw [← HB.out]; simp [p0]
                 go_wp2_with fail
                 go_meet
                 exact ⟨rfl, Below.refl _ _⟩
               · have o1 : (pa.kind == 0) = false := beq_eq_false_iff_ne.2 p0
                 by_cases p56 : pa.kind = 5 ∨ pa.kind = 6
                 · rw [show (decide (pa.kind = 0) || decide (pa.kind = 5) || decide (pa.kind = 6)) = true by rcases p56 with h | h <;> simp [h]] at h94
                   have np : (decide (pa.kind ≠ 5) && decide (pa.kind ≠ 6)) = false := by rcases p56 with h | h <;> simp [h]
                   cases bi with
                   | false =>
                    obtain rfl : B = false := by rw [← HB.out]; rw [Bool.and_assoc, np]; simp [kv, hvs2, km]
                    go_wp2_with (first | (go_at_call 94; refine h94.mono ?_; rintro e w94 ⟨rfl, hb94⟩; obtain ⟨i0, i1, i2, _⟩ := cells3 ((hb94.block _ (ltS hi7)).trans hi7)))
                    go_meet
                    exact ⟨rfl, hb94⟩
                   | true =>
                    by_cases ik : i.k = 0
                    · have j1 : (i.k == 0) = true := by rw [ik]; rfl
                      obtain rfl : B = true := by rw [← HB.out]; simp [ik]
                      go_wp2_with (first | (go_at_call 94; refine h94.mono ?_; rintro e w94 ⟨rfl, hb94⟩; obtain ⟨i0, i1, i2, _⟩ := cells3 ((hb94.block _ (ltS hi7)).trans hi7)))
                      go_meet
                      exact ⟨rfl, hb94⟩
                    · have j1 : (i.k == 0) = false := beq_eq_false_iff_ne.2 ik
                      obtain rfl : B = false := by rw [← HB.out]; rw [Bool.and_assoc true, np]; simp [kv, hvs2, km, ik]
                      go_wp2_with (first | (go_at_call 94; refine h94.mono ?_; rintro e w94 ⟨rfl, hb94⟩; obtain ⟨i0, i1, i2, _⟩ := cells3 ((hb94.block _ (ltS hi7)).trans hi7)))
                      go_meet
                      exact ⟨rfl, hb94⟩
                 · rw [show (decide (pa.kind = 0) || decide (pa.kind = 5) || decide (pa.kind = 6)) = false by simp only [not_or] at p56; simp [p0, p56]] at h94
                   simp only [not_or] at p56
                   obtain rfl : B = true := by rw [← HB.out]; simp [p56]
                   go_wp2_with (first | (go_at_call 94; refine h94.mono ?_; rintro e w94 ⟨rfl, hb94⟩; obtain ⟨i0, i1, i2, _⟩ := cells3 ((hb94.block _ (ltS hi7)).trans hi7)))
                   go_meet
                   exact ⟨rfl, hb94⟩
            · have k1 : (me.kind == 4) = false := beq_eq_false_iff_ne.2 km
              have k2 : (me.kind != 4) = true := by simp [km]
              obtain rfl : B = true := by rw [← HB.out]; simp [km]
              go_wp2_with fail
              go_meet
              exact ⟨rfl, Below.refl _ _⟩
          · have hvs2 : ¬ ve.str = v20 := fun e => sv (hvs.symm.trans e)
            obtain ⟨u1, u2, u3⟩ := lit_ne sv
            obtain rfl : B = true := by rw [← HB.out]; simp [hvs2]
            go_wp2_with fail
            go_meet
            exact ⟨rfl, Below.refl _ _⟩
        · have v1 : (ve.kind == 4) = false := beq_eq_false_iff_ne.2 kv
          have v2 : (ve.kind != 4) = true := by simp [kv]
          obtain rfl : B = true := by rw [← HB.out]; simp [kv]
          go_wp2_with fail
          go_meet
          exact ⟨rfl, Below.refl _ _⟩
       case rest =>
        obtain ⟨rfl, hbd⟩ := hcut
        have b2d := Below.on b27 hbd
        have hmd := (b2d.block _ (ltS HM2.out.1)).trans HM2.out.1
        have hid := (b2d.block _ (ltS HM2.out.2)).trans HM2.out.2
        have hB1 := Below.on HBV2.out b2d
        cases B with
        | true =>
         clear HX HX2 HK HK2 HE HVW HM HI0 HX3 HX4 HX5 HX6 HX7 HK3 HK4 HK5 HK6 HK7 h94
         go_upto_region 15 with fail
         refine wp_region_held_drew (S := (fun v => v.heap[w.heap.size + 1]? = some (.cells #[.int .i64 i.k, .int .i64 i.n, .string I] 57 (0, 0)) ∧ v.heap[w.heap.size]? = some (.cells #[.int .i64 0, .int .i64 0, .int .i64 0, .string ⟨#[]⟩, .string ⟨#[]⟩, .int .i64 0, .string ⟨#[]⟩, .slice none 0 0, .slice none 0 0] 59 (0, 0)))) (by kernel_rfl) ⟨hid, hmd⟩ (fun hHeld => ?_)
         refine wpAnyH_take (i := 0) (oi := { dst := some 109, op := Op.load 59 (Operand.tmp 2), type := 59, pos := "rpc.go:125", after := #[], guard := none }) (v := ?_) rfl (by kernel_rfl) (by kernel_rfl) (by kernel_rfl) (fun _ _ _ h => h) (Or.inl ⟨by rfl, ?_⟩) (by assumption) ?_
         rotate_left
         · intro wx hS; obtain ⟨s1, s2⟩ := hS; obtain ⟨i0, i1, i2, _⟩ := cells3 s1; obtain ⟨m0, m1, m2, m3, m4, m5, m6, m7, m8⟩ := cells9 s2; go_simp; with_reducible rfl
         try simp only [Act.put, aSA, aSZ, aSS]
         refine wpAnyH_take (i := 1) (oi := { dst := some 110, op := Op.load 57 (Operand.tmp 3), type := 57, pos := "rpc.go:125", after := #[{ on := 2, ground := Ground.gcOnly Departure.lateStores }], guard := none }) (v := ?_) rfl (by kernel_rfl) (by kernel_rfl) (by kernel_rfl) (fun _ _ _ h => h) (Or.inl ⟨by rfl, ?_⟩) (by assumption) ?_
         rotate_left
         · intro wx hS; obtain ⟨s1, s2⟩ := hS; obtain ⟨i0, i1, i2, _⟩ := cells3 s1; obtain ⟨m0, m1, m2, m3, m4, m5, m6, m7, m8⟩ := cells9 s2; go_simp; with_reducible rfl
         try simp only [Act.put, aSA, aSZ, aSS]
         have hh := hHeld
         refine wpAnyH_ready (rs := [2]) (by kernel_rfl) (by simp) (AllReadyH.cons (o := { dst := none, op := Op.store 59 (Operand.tmp 2) (Operand.tmp 109), type := 0, pos := "rpc.go:125", after := #[eDa 0, ePh 0, { on := 1, ground := Ground.textOnly Departure.lateStores }], guard := none }) rfl (fun K hK => ?_) AllReadyH.nil)
         rw [if_pos (by rfl)]
         refine store_msg2 (.tmp 2) (.tmp 109) rfl w.heap.size rfl (.int .i64 0) (.int .i64 0) (.int .i64 0) (.string ⟨#[]⟩) (.string ⟨#[]⟩) (.int .i64 0) (.string ⟨#[]⟩) (.slice none 0 0) (.slice none 0 0) rfl (by simp [Value.oneCell']) ⟨_, _, _, _, _, _, _, _, _, hh.2⟩ (fun V1 hV1 hg1 _ => ?_)
         have t1 := (hg1.block (w.heap.size + 1) (ltS hh.1) (fun e => hne (Option.some.inj e).symm)).trans hh.1
         refine hK.out _ _ ⟨t1, hV1⟩ (fun _ => ?_)
         clear hK K
         try simp only [Act.put]
         refine wpAnyH_ready (rs := [3]) (by kernel_rfl) (by simp) (AllReadyH.cons (o := { dst := none, op := Op.store 57 (Operand.tmp 3) (Operand.tmp 110), type := 0, pos := "rpc.go:125", after := #[eDa 1, eCh 2, ePh 0, ePh 1, ePh 2], guard := none }) rfl (fun K hK => ?_) AllReadyH.nil)
         rw [if_pos (by rfl)]
         refine store_id2 (.tmp 3) (.tmp 110) rfl (w.heap.size + 1) rfl (.int .i64 i.k) (.int .i64 i.n) (.string I) rfl (by simp [Value.oneCell']) ⟨_, _, _, t1⟩ (fun V2 hV2 hg2 _ => ?_)
         have t2 := (hg2.block w.heap.size (ltS hV1) (fun e => hne (Option.some.inj e))).trans hV1
         refine hK.out _ _ ⟨hV2, t2⟩ (fun _ => ?_)
         clear hK K
         try simp only [Act.put]
         refine wpAnyH_ready (rs := [4]) (by kernel_rfl) (by simp) (AllReadyH.cons (o := { dst := some 4, op := Op.assign (Operand.const (Value.int IntKind.i64 (-32600))), type := 3, pos := "rpc.go:125", after := #[eCh 3, ePh 0, ePh 1, ePh 2, ePh 3], guard := none }) rfl (fun K hK => ?_) AllReadyH.nil)
         rw [if_pos (by rfl)]
         go_simp
         refine hK.out _ _ ⟨hV2, t2⟩ (fun _ => ?_)
         clear hK K
         try simp only [Act.put, aSA, aSZ, aSS]
         refine wpAnyH_done (by kernel_rfl) ?_ _
         go_wp2_with fail
         refine bodyPost_ret (ret_read Tryz.results35 rfl rfl rfl t2 hV2) rfl ?_
         have hbE : Below w.heap.size w V2 := below_gbz (below_gbz (hB1).drew hmb hg1) hib hg2
         rw [HRJ.out, hq, if_neg (by simp), if_pos (by simp)]
         exact RR.zero _ HI.out hbE
        | false =>
         have b3d := Below.on b37 hbd
         obtain ⟨m0, m1, m2, m3⟩ := HX3.out wc b3d
         obtain ⟨z0, z1, z2, z3⟩ := HX7.out wc hbd
         obtain ⟨i0, i1, i2, _⟩ := cells3 hid
         have HK7d : Hid (KP wc (fun b => w.heap.size + 2 ≤ b) pa p7 q7 r7 s7) := Lib.hid (kp_on ((HK7.out.keep (Nat.le_refl _) (fun _ _ _ => rfl) (fun b hb _ => by have := b26.size; omega))) (Below.on hv7 hbd))
         cases bi with
         | true =>
          have h1m : (#[Value.int .i64 2, .int .i64 i.k, .int .i64 i.n, .string I, .string MS, .int .i64 pa.kind, .string PS, .slice p7 pa.keys.length q7, .slice r7 pa.items.length s7] : Array Value).all (·.oneCell') = true := by simp [Value.oneCell']
          go_upto_region 19 with (first
           | (refine store_msg rfl (.tmp 2) (.tmp 115) rfl w.heap.size rfl (.int .i64 2) (.int .i64 i.k) (.int .i64 i.n) (.string I) (.string MS) (.int .i64 pa.kind) (.string PS) (.slice p7 pa.keys.length q7) (.slice r7 pa.items.length s7) rfl h1m ⟨_, _, _, _, _, _, _, _, _, hmd⟩ (fun V8 hV8 hgV8 _ => ?_)
              have fz8 : V8.frozen? ⟨w.heap.size, 0, none⟩ = false := (by simp [World.frozen?, hV8])
              have fy8 := (cells9 hV8).1))
          have hb8 := below_gbz hB1 hmb hgV8
          have hid8 := (hgV8.block (w.heap.size + 1) (ltS hid) (fun e => hne (Option.some.inj e).symm)).trans hid
          have hk8 := HK7d.out.fr (FrP.of (P := fun b => b = w.heap.size) hgV8 rfl) (fun b hb e => by omega)
          have hm9 := heap_setCell_self hV8 0 (.int .i64 1)
          have hg9 := gb_set V8 w.heap.size 0 (.int .i64 1)
          have hb9 := below_gbz hb8 hmb hg9
          have hid9 := (hg9.block (w.heap.size + 1) (ltS hid8) (fun e => hne (Option.some.inj e).symm)).trans hid8
          have hk9 := hk8.fr (FrP.of (P := fun b => b = w.heap.size) hg9 rfl) (fun b hb e => by omega)
          clear HX HX2 HK HK2 HE HVW HM HI0 HX3 HX4 HX5 HX6 HX7 HK3 HK4 HK5 HK6 HK7 h94
          refine wp_region_held_drew (S := (fun v => v.heap[w.heap.size + 1]? = some (.cells #[.int .i64 i.k, .int .i64 i.n, .string I] 57 (0, 0)) ∧ v.heap[w.heap.size]? = some (.cells #[.int .i64 1, .int .i64 i.k, .int .i64 i.n, .string I, .string MS, .int .i64 pa.kind, .string PS, .slice p7 pa.keys.length q7, .slice r7 pa.items.length s7] 59 (0, 0)))) (by kernel_rfl) ⟨hid9, hm9⟩ (fun hHeld => ?_)
          refine wpAnyH_take (i := 0) (oi := { dst := some 118, op := Op.load 59 (Operand.tmp 2), type := 59, pos := "rpc.go:131", after := #[], guard := none }) (v := ?_) rfl (by kernel_rfl) (by kernel_rfl) (by kernel_rfl) (fun _ _ _ h => h) (Or.inl ⟨by rfl, ?_⟩) (by assumption) ?_
          rotate_left
          · intro wx hS; obtain ⟨s1, s2⟩ := hS; obtain ⟨i0, i1, i2, _⟩ := cells3 s1; obtain ⟨m0, m1, m2, m3, m4, m5, m6, m7, m8⟩ := cells9 s2; go_simp; with_reducible rfl
          try simp only [Act.put, aSA, aSZ, aSS]
          refine wpAnyH_take (i := 1) (oi := { dst := some 119, op := Op.load 57 (Operand.tmp 3), type := 57, pos := "rpc.go:131", after := #[{ on := 2, ground := Ground.gcOnly Departure.lateStores }], guard := none }) (v := ?_) rfl (by kernel_rfl) (by kernel_rfl) (by kernel_rfl) (fun _ _ _ h => h) (Or.inl ⟨by rfl, ?_⟩) (by assumption) ?_
          rotate_left
          · intro wx hS; obtain ⟨s1, s2⟩ := hS; obtain ⟨i0, i1, i2, _⟩ := cells3 s1; obtain ⟨m0, m1, m2, m3, m4, m5, m6, m7, m8⟩ := cells9 s2; go_simp; with_reducible rfl
          try simp only [Act.put, aSA, aSZ, aSS]
          have hh := hHeld
          refine wpAnyH_ready (rs := [2]) (by kernel_rfl) (by simp) (AllReadyH.cons (o := { dst := none, op := Op.store 59 (Operand.tmp 2) (Operand.tmp 118), type := 0, pos := "rpc.go:131", after := #[eDa 0, ePh 0, { on := 1, ground := Ground.textOnly Departure.lateStores }], guard := none }) rfl (fun K hK => ?_) AllReadyH.nil)
          rw [if_pos (by rfl)]
          refine store_msg2 (.tmp 2) (.tmp 118) rfl w.heap.size rfl (.int .i64 1) (.int .i64 i.k) (.int .i64 i.n) (.string I) (.string MS) (.int .i64 pa.kind) (.string PS) (.slice p7 pa.keys.length q7) (.slice r7 pa.items.length s7) rfl (by simp [Value.oneCell']) ⟨_, _, _, _, _, _, _, _, _, hh.2⟩ (fun V1 hV1 hg1 _ => ?_)
          have t1 := (hg1.block (w.heap.size + 1) (ltS hh.1) (fun e => hne (Option.some.inj e).symm)).trans hh.1
          refine hK.out _ _ ⟨t1, hV1⟩ (fun _ => ?_)
          clear hK K
          try simp only [Act.put]
          refine wpAnyH_ready (rs := [3]) (by kernel_rfl) (by simp) (AllReadyH.cons (o := { dst := none, op := Op.store 57 (Operand.tmp 3) (Operand.tmp 119), type := 0, pos := "rpc.go:131", after := #[eDa 1, eCh 2, ePh 0, ePh 1, ePh 2], guard := none }) rfl (fun K hK => ?_) AllReadyH.nil)
          rw [if_pos (by rfl)]
          refine store_id2 (.tmp 3) (.tmp 119) rfl (w.heap.size + 1) rfl (.int .i64 i.k) (.int .i64 i.n) (.string I) rfl (by simp [Value.oneCell']) ⟨_, _, _, t1⟩ (fun V2 hV2 hg2 _ => ?_)
          have t2 := (hg2.block w.heap.size (ltS hV1) (fun e => hne (Option.some.inj e))).trans hV1
          refine hK.out _ _ ⟨hV2, t2⟩ (fun _ => ?_)
          clear hK K
          try simp only [Act.put]
          refine wpAnyH_ready (rs := [4]) (by kernel_rfl) (by simp) (AllReadyH.cons (o := { dst := some 4, op := Op.assign (Operand.const (Value.int IntKind.i64 0)), type := 3, pos := "rpc.go:131", after := #[eCh 3, ePh 0, ePh 1, ePh 2, ePh 3], guard := none }) rfl (fun K hK => ?_) AllReadyH.nil)
          rw [if_pos (by rfl)]
          go_simp
          refine hK.out _ _ ⟨hV2, t2⟩ (fun _ => ?_)
          clear hK K
          try simp only [Act.put, aSA, aSZ, aSS]
          refine wpAnyH_done (by kernel_rfl) ?_ _
          go_wp2_with fail
          refine bodyPost_ret (ret_read Tryz.results35 rfl rfl rfl t2 hV2) rfl ?_
          have hbE : Below w.heap.size w V2 := below_gbz (below_gbz (hb9).drew hmb hg1) hib hg2
          have hkE := ((kp_on hk9 (Below.refl _ _).drew).fr (FrP.of (P := fun b => b = w.heap.size) hg1 rfl) (fun b hb e => by omega)).fr (FrP.of (P := fun b => b = w.heap.size + 1) hg2 rfl) (fun b hb e => by omega)
          rw [HRJ.out, hq, if_neg (by simp), if_neg (by simp)]
          exact ⟨p7, q7, r7, s7, by rw [← HParams.out.2.2, ← HMethod.out.2.2, ← HI.out]; rfl, hkE.ki, hbE⟩
         | false =>
          have h1m : (#[Value.int .i64 2, .int .i64 i.k, .int .i64 i.n, .string I, .string MS, .int .i64 pa.kind, .string PS, .slice p7 pa.keys.length q7, .slice r7 pa.items.length s7] : Array Value).all (·.oneCell') = true := by simp [Value.oneCell']
          go_upto_region 19 with (first
           | (refine store_msg rfl (.tmp 2) (.tmp 115) rfl w.heap.size rfl (.int .i64 2) (.int .i64 i.k) (.int .i64 i.n) (.string I) (.string MS) (.int .i64 pa.kind) (.string PS) (.slice p7 pa.keys.length q7) (.slice r7 pa.items.length s7) rfl h1m ⟨_, _, _, _, _, _, _, _, _, hmd⟩ (fun V8 hV8 hgV8 _ => ?_)
              have fz8 : V8.frozen? ⟨w.heap.size, 0, none⟩ = false := (by simp [World.frozen?, hV8])
              have fy8 := (cells9 hV8).1))
          have hb8 := below_gbz hB1 hmb hgV8
          have hid8 := (hgV8.block (w.heap.size + 1) (ltS hid) (fun e => hne (Option.some.inj e).symm)).trans hid
          have hk8 := HK7d.out.fr (FrP.of (P := fun b => b = w.heap.size) hgV8 rfl) (fun b hb e => by omega)
          clear HX HX2 HK HK2 HE HVW HM HI0 HX3 HX4 HX5 HX6 HX7 HK3 HK4 HK5 HK6 HK7 h94
          have hm8x := hV8
          refine wp_region_held_drew (S := (fun v => v.heap[w.heap.size + 1]? = some (.cells #[.int .i64 i.k, .int .i64 i.n, .string I] 57 (0, 0)) ∧ v.heap[w.heap.size]? = some (.cells #[.int .i64 2, .int .i64 i.k, .int .i64 i.n, .string I, .string MS, .int .i64 pa.kind, .string PS, .slice p7 pa.keys.length q7, .slice r7 pa.items.length s7] 59 (0, 0)))) (by kernel_rfl) ⟨hid8, hm8x⟩ (fun hHeld => ?_)
          refine wpAnyH_take (i := 0) (oi := { dst := some 118, op := Op.load 59 (Operand.tmp 2), type := 59, pos := "rpc.go:131", after := #[], guard := none }) (v := ?_) rfl (by kernel_rfl) (by kernel_rfl) (by kernel_rfl) (fun _ _ _ h => h) (Or.inl ⟨by rfl, ?_⟩) (by assumption) ?_
          rotate_left
          · intro wx hS; obtain ⟨s1, s2⟩ := hS; obtain ⟨i0, i1, i2, _⟩ := cells3 s1; obtain ⟨m0, m1, m2, m3, m4, m5, m6, m7, m8⟩ := cells9 s2; go_simp; with_reducible rfl
          try simp only [Act.put, aSA, aSZ, aSS]
          refine wpAnyH_take (i := 1) (oi := { dst := some 119, op := Op.load 57 (Operand.tmp 3), type := 57, pos := "rpc.go:131", after := #[{ on := 2, ground := Ground.gcOnly Departure.lateStores }], guard := none }) (v := ?_) rfl (by kernel_rfl) (by kernel_rfl) (by kernel_rfl) (fun _ _ _ h => h) (Or.inl ⟨by rfl, ?_⟩) (by assumption) ?_
          rotate_left
          · intro wx hS; obtain ⟨s1, s2⟩ := hS; obtain ⟨i0, i1, i2, _⟩ := cells3 s1; obtain ⟨m0, m1, m2, m3, m4, m5, m6, m7, m8⟩ := cells9 s2; go_simp; with_reducible rfl
          try simp only [Act.put, aSA, aSZ, aSS]
          have hh := hHeld
          refine wpAnyH_ready (rs := [2]) (by kernel_rfl) (by simp) (AllReadyH.cons (o := { dst := none, op := Op.store 59 (Operand.tmp 2) (Operand.tmp 118), type := 0, pos := "rpc.go:131", after := #[eDa 0, ePh 0, { on := 1, ground := Ground.textOnly Departure.lateStores }], guard := none }) rfl (fun K hK => ?_) AllReadyH.nil)
          rw [if_pos (by rfl)]
          refine store_msg2 (.tmp 2) (.tmp 118) rfl w.heap.size rfl (.int .i64 2) (.int .i64 i.k) (.int .i64 i.n) (.string I) (.string MS) (.int .i64 pa.kind) (.string PS) (.slice p7 pa.keys.length q7) (.slice r7 pa.items.length s7) rfl (by simp [Value.oneCell']) ⟨_, _, _, _, _, _, _, _, _, hh.2⟩ (fun V1 hV1 hg1 _ => ?_)
          have t1 := (hg1.block (w.heap.size + 1) (ltS hh.1) (fun e => hne (Option.some.inj e).symm)).trans hh.1
          refine hK.out _ _ ⟨t1, hV1⟩ (fun _ => ?_)
          clear hK K
          try simp only [Act.put]
          refine wpAnyH_ready (rs := [3]) (by kernel_rfl) (by simp) (AllReadyH.cons (o := { dst := none, op := Op.store 57 (Operand.tmp 3) (Operand.tmp 119), type := 0, pos := "rpc.go:131", after := #[eDa 1, eCh 2, ePh 0, ePh 1, ePh 2], guard := none }) rfl (fun K hK => ?_) AllReadyH.nil)
          rw [if_pos (by rfl)]
          refine store_id2 (.tmp 3) (.tmp 119) rfl (w.heap.size + 1) rfl (.int .i64 i.k) (.int .i64 i.n) (.string I) rfl (by simp [Value.oneCell']) ⟨_, _, _, t1⟩ (fun V2 hV2 hg2 _ => ?_)
          have t2 := (hg2.block w.heap.size (ltS hV1) (fun e => hne (Option.some.inj e))).trans hV1
          refine hK.out _ _ ⟨hV2, t2⟩ (fun _ => ?_)
          clear hK K
          try simp only [Act.put]
          refine wpAnyH_ready (rs := [4]) (by kernel_rfl) (by simp) (AllReadyH.cons (o := { dst := some 4, op := Op.assign (Operand.const (Value.int IntKind.i64 0)), type := 3, pos := "rpc.go:131", after := #[eCh 3, ePh 0, ePh 1, ePh 2, ePh 3], guard := none }) rfl (fun K hK => ?_) AllReadyH.nil)
          rw [if_pos (by rfl)]
          go_simp
          refine hK.out _ _ ⟨hV2, t2⟩ (fun _ => ?_)
          clear hK K
          try simp only [Act.put, aSA, aSZ, aSS]
          refine wpAnyH_done (by kernel_rfl) ?_ _
          go_wp2_with fail
          refine bodyPost_ret (ret_read Tryz.results35 rfl rfl rfl t2 hV2) rfl ?_
          have hbE : Below w.heap.size w V2 := below_gbz (below_gbz (hb8).drew hmb hg1) hib hg2
          have hkE := ((kp_on hk8 (Below.refl _ _).drew).fr (FrP.of (P := fun b => b = w.heap.size) hg1 rfl) (fun b hb e => by omega)).fr (FrP.of (P := fun b => b = w.heap.size + 1) hg2 rfl) (fun b hb e => by omega)
          rw [HRJ.out, hq, if_neg (by simp), if_neg (by simp)]
          exact ⟨p7, q7, r7, s7, by rw [← HParams.out.2.2, ← HMethod.out.2.2, ← HI.out]; rfl, hkE.ki, hbE⟩
   · rw [if_pos k6]
     have q6 : (v.kind != 6) = true := by simp [k6]
     have q6b : (v.kind == 6) = false := beq_eq_false_iff_ne.2 k6
     have hm1 := HM.out V1 b1
     have hi1 := HI0.out V1 b1
     have hB1 := Below.on HBW.out b1
     clear HX HK HE HVW HM HI0
     go_upto_region 5 with fail
     refine wp_region_held_drew (S := (fun v => v.heap[w.heap.size + 1]? = some (.cells #[.int .i64 0, .int .i64 0, .string ⟨#[]⟩] 57 (0, 0)) ∧ v.heap[w.heap.size]? = some (.cells #[.int .i64 0, .int .i64 0, .int .i64 0, .string ⟨#[]⟩, .string ⟨#[]⟩, .int .i64 0, .string ⟨#[]⟩, .slice none 0 0, .slice none 0 0] 59 (0, 0)))) (by kernel_rfl) ⟨hi1, hm1⟩ (fun hHeld => ?_)
     refine wpAnyH_take (i := 0) (oi := { dst := some 32, op := Op.load 59 (Operand.tmp 2), type := 59, pos := "rpc.go:113", after := #[], guard := none }) (v := ?_) rfl (by kernel_rfl) (by kernel_rfl) (by kernel_rfl) (fun _ _ _ h => h) (Or.inl ⟨by rfl, ?_⟩) (by assumption) ?_
     rotate_left
     · intro wx hS; obtain ⟨s1, s2⟩ := hS; obtain ⟨i0, i1, i2, _⟩ := cells3 s1; obtain ⟨m0, m1, m2, m3, m4, m5, m6, m7, m8⟩ := cells9 s2; go_simp; with_reducible rfl
     try simp only [Act.put, aSA, aSZ, aSS]
     refine wpAnyH_take (i := 1) (oi := { dst := some 33, op := Op.load 57 (Operand.tmp 3), type := 57, pos := "rpc.go:113", after := #[{ on := 2, ground := Ground.gcOnly Departure.lateStores }], guard := none }) (v := ?_) rfl (by kernel_rfl) (by kernel_rfl) (by kernel_rfl) (fun _ _ _ h => h) (Or.inl ⟨by rfl, ?_⟩) (by assumption) ?_
     rotate_left
     · intro wx hS; obtain ⟨s1, s2⟩ := hS; obtain ⟨i0, i1, i2, _⟩ := cells3 s1; obtain ⟨m0, m1, m2, m3, m4, m5, m6, m7, m8⟩ := cells9 s2; go_simp; with_reducible rfl
     try simp only [Act.put, aSA, aSZ, aSS]
     have hh := hHeld
     refine wpAnyH_ready (rs := [2]) (by kernel_rfl) (by simp) (AllReadyH.cons (o := { dst := none, op := Op.store 59 (Operand.tmp 2) (Operand.tmp 32), type := 0, pos := "rpc.go:113", after := #[eDa 0, ePh 0, { on := 1, ground := Ground.textOnly Departure.lateStores }], guard := none }) rfl (fun K hK => ?_) AllReadyH.nil)
     rw [if_pos (by rfl)]
     refine store_msg2 (.tmp 2) (.tmp 32) rfl w.heap.size rfl (.int .i64 0) (.int .i64 0) (.int .i64 0) (.string ⟨#[]⟩) (.string ⟨#[]⟩) (.int .i64 0) (.string ⟨#[]⟩) (.slice none 0 0) (.slice none 0 0) rfl (by simp [Value.oneCell']) ⟨_, _, _, _, _, _, _, _, _, hh.2⟩ (fun V1 hV1 hg1 _ => ?_)
     have t1 := (hg1.block (w.heap.size + 1) (ltS hh.1) (fun e => hne (Option.some.inj e).symm)).trans hh.1
     refine hK.out _ _ ⟨t1, hV1⟩ (fun _ => ?_)
     clear hK K
     try simp only [Act.put]
     refine wpAnyH_ready (rs := [3]) (by kernel_rfl) (by simp) (AllReadyH.cons (o := { dst := none, op := Op.store 57 (Operand.tmp 3) (Operand.tmp 33), type := 0, pos := "rpc.go:113", after := #[eDa 1, eCh 2, ePh 0, ePh 1, ePh 2], guard := none }) rfl (fun K hK => ?_) AllReadyH.nil)
     rw [if_pos (by rfl)]
     refine store_id2 (.tmp 3) (.tmp 33) rfl (w.heap.size + 1) rfl (.int .i64 0) (.int .i64 0) (.string ⟨#[]⟩) rfl (by simp [Value.oneCell']) ⟨_, _, _, t1⟩ (fun V2 hV2 hg2 _ => ?_)
     have t2 := (hg2.block w.heap.size (ltS hV1) (fun e => hne (Option.some.inj e))).trans hV1
     refine hK.out _ _ ⟨hV2, t2⟩ (fun _ => ?_)
     clear hK K
     try simp only [Act.put]
     refine wpAnyH_ready (rs := [4]) (by kernel_rfl) (by simp) (AllReadyH.cons (o := { dst := some 4, op := Op.assign (Operand.const (Value.int IntKind.i64 (-32600))), type := 3, pos := "rpc.go:113", after := #[eCh 3, ePh 0, ePh 1, ePh 2, ePh 3], guard := none }) rfl (fun K hK => ?_) AllReadyH.nil)
     rw [if_pos (by rfl)]
     go_simp
     refine hK.out _ _ ⟨hV2, t2⟩ (fun _ => ?_)
     clear hK K
     try simp only [Act.put, aSA, aSZ, aSS]
     refine wpAnyH_done (by kernel_rfl) ?_ _
     go_wp2_with fail
     refine bodyPost_ret (ret_read Tryz.results35 rfl rfl rfl t2 hV2) rfl ?_
     have hbE : Below w.heap.size w V2 := below_gbz (below_gbz (hB1).drew hmb hg1) hib hg2
     exact RR.zero (i := id0) _ rfl hbE
 · rw [if_pos hn0]
   have qn : ((n : Int) != 0) = true := by simp; omega
   have qnb : ((n : Int) == 0) = false := beq_eq_false_iff_ne.2 (by omega)
   have hm1 := HM.out V1 b1
   have hi1 := HI0.out V1 b1
   have hB1 := Below.on HBW.out b1
   have hn0i : ¬ (n : Int) = 0 := by omega
   clear HX HK HE HVW HM HI0
   go_upto_region 3 with fail
   refine wp_region_held_drew (S := (fun v => v.heap[w.heap.size + 1]? = some (.cells #[.int .i64 0, .int .i64 0, .string ⟨#[]⟩] 57 (0, 0)) ∧ v.heap[w.heap.size]? = some (.cells #[.int .i64 0, .int .i64 0, .int .i64 0, .string ⟨#[]⟩, .string ⟨#[]⟩, .int .i64 0, .string ⟨#[]⟩, .slice none 0 0, .slice none 0 0] 59 (0, 0)))) (by kernel_rfl) ⟨hi1, hm1⟩ (fun hHeld => ?_)
   refine wpAnyH_take (i := 0) (oi := { dst := some 26, op := Op.load 59 (Operand.tmp 2), type := 59, pos := "rpc.go:111", after := #[], guard := none }) (v := ?_) rfl (by kernel_rfl) (by kernel_rfl) (by kernel_rfl) (fun _ _ _ h => h) (Or.inl ⟨by rfl, ?_⟩) (by assumption) ?_
   rotate_left
   · intro wx hS; obtain ⟨s1, s2⟩ := hS; obtain ⟨i0, i1, i2, _⟩ := cells3 s1; obtain ⟨m0, m1, m2, m3, m4, m5, m6, m7, m8⟩ := cells9 s2; go_simp; with_reducible rfl
   try simp only [Act.put, aSA, aSZ, aSS]
   refine wpAnyH_take (i := 1) (oi := { dst := some 27, op := Op.load 57 (Operand.tmp 3), type := 57, pos := "rpc.go:111", after := #[{ on := 2, ground := Ground.gcOnly Departure.lateStores }], guard := none }) (v := ?_) rfl (by kernel_rfl) (by kernel_rfl) (by kernel_rfl) (fun _ _ _ h => h) (Or.inl ⟨by rfl, ?_⟩) (by assumption) ?_
   rotate_left
   · intro wx hS; obtain ⟨s1, s2⟩ := hS; obtain ⟨i0, i1, i2, _⟩ := cells3 s1; obtain ⟨m0, m1, m2, m3, m4, m5, m6, m7, m8⟩ := cells9 s2; go_simp; with_reducible rfl
   try simp only [Act.put, aSA, aSZ, aSS]
   have hh := hHeld
   refine wpAnyH_ready (rs := [2]) (by kernel_rfl) (by simp) (AllReadyH.cons (o := { dst := none, op := Op.store 59 (Operand.tmp 2) (Operand.tmp 26), type := 0, pos := "rpc.go:111", after := #[eDa 0, ePh 0, { on := 1, ground := Ground.textOnly Departure.lateStores }], guard := none }) rfl (fun K hK => ?_) AllReadyH.nil)
   rw [if_pos (by rfl)]
   refine store_msg2 (.tmp 2) (.tmp 26) rfl w.heap.size rfl (.int .i64 0) (.int .i64 0) (.int .i64 0) (.string ⟨#[]⟩) (.string ⟨#[]⟩) (.int .i64 0) (.string ⟨#[]⟩) (.slice none 0 0) (.slice none 0 0) rfl (by simp [Value.oneCell']) ⟨_, _, _, _, _, _, _, _, _, hh.2⟩ (fun V1 hV1 hg1 _ => ?_)
   have t1 := (hg1.block (w.heap.size + 1) (ltS hh.1) (fun e => hne (Option.some.inj e).symm)).trans hh.1
   refine hK.out _ _ ⟨t1, hV1⟩ (fun _ => ?_)
   clear hK K
   try simp only [Act.put]
   refine wpAnyH_ready (rs := [3]) (by kernel_rfl) (by simp) (AllReadyH.cons (o := { dst := none, op := Op.store 57 (Operand.tmp 3) (Operand.tmp 27), type := 0, pos := "rpc.go:111", after := #[eDa 1, eCh 2, ePh 0, ePh 1, ePh 2], guard := none }) rfl (fun K hK => ?_) AllReadyH.nil)
   rw [if_pos (by rfl)]
   refine store_id2 (.tmp 3) (.tmp 27) rfl (w.heap.size + 1) rfl (.int .i64 0) (.int .i64 0) (.string ⟨#[]⟩) rfl (by simp [Value.oneCell']) ⟨_, _, _, t1⟩ (fun V2 hV2 hg2 _ => ?_)
   have t2 := (hg2.block w.heap.size (ltS hV1) (fun e => hne (Option.some.inj e))).trans hV1
   refine hK.out _ _ ⟨hV2, t2⟩ (fun _ => ?_)
   clear hK K
   try simp only [Act.put]
   refine wpAnyH_ready (rs := [4]) (by kernel_rfl) (by simp) (AllReadyH.cons (o := { dst := some 4, op := Op.assign (Operand.const (Value.int IntKind.i64 (-32700))), type := 3, pos := "rpc.go:111", after := #[eCh 3, ePh 0, ePh 1, ePh 2, ePh 3], guard := none }) rfl (fun K hK => ?_) AllReadyH.nil)
   rw [if_pos (by rfl)]
   go_simp
   refine hK.out _ _ ⟨hV2, t2⟩ (fun _ => ?_)
   clear hK K
   try simp only [Act.put, aSA, aSZ, aSS]
   refine wpAnyH_done (by kernel_rfl) ?_ _
   go_wp2_with fail
   refine bodyPost_ret (ret_read Tryz.results35 rfl rfl rfl t2 hV2) rfl ?_
   have hbE : Below w.heap.size w V2 := below_gbz (below_gbz (hB1).drew hmb hg1) hib hg2
   exact RR.zero (i := id0) _ rfl hbE
end Go.Proofs.Rp
