/- RpcReads: the walk. Printed by gen_q11.py. -/
import Derived.Test.YtaiaiiepbpbmmaaGreatDoorQ10
import Derived.Test.YtaiaiiepbpbmmaaGreatDoorP8
namespace Go.Proofs.Rp
open Go.RowKit Go.Maps Go.Lib Go.Proofs.Utf Go.Proofs.Jt Go.Proofs

set_option maxRecDepth 100000 in
set_option maxHeartbeats 16000000 in
theorem reads_walk24 {w : World} (s : ByteArray) (hT : Tabs w) (hE : ErrV w) (hTen : TenV w) : Calls Tryz.prog 5 #[.string s] w fun e w' => e = .returned (.bool true) ∧ Below w.heap.size w w' := by
 have HT : Hid (∀ V, Below w.heap.size w V → Tabs V ∧ ErrV V ∧ TenV V) := Lib.hid fun V hV => ⟨hT.below hV, hE.below hV, hTen.below hV⟩
 clear hT hE hTen
 by_cases hs : 5000 < s.size
 · go_enter Tryz.func5, Tryz.ntmps5
   go_wp2_with (first
    | (go_at_call 34; refine (works_any _ (HT.out _ (Below.refl _ _)).1 (HT.out _ (Below.refl _ _)).2.1 (HT.out _ (Below.refl _ _)).2.2).mono ?_; rintro e w9 ⟨rfl, hb9⟩))
   go_ret
   exact ⟨rfl, hb9⟩
 · obtain ⟨m, i, c, hr⟩ : ∃ m i c, readV s.data.toList = (m, i, c) := ⟨_, _, _, rfl⟩
   obtain ⟨I, hI⟩ : ∃ B : ByteArray, (⟨i.s.toArray⟩ : ByteArray) = B := ⟨_, rfl⟩
   obtain ⟨MI, hMI⟩ : ∃ B : ByteArray, (⟨m.id.s.toArray⟩ : ByteArray) = B := ⟨_, rfl⟩
   obtain ⟨MM, hMM⟩ : ∃ B : ByteArray, (⟨m.m.toArray⟩ : ByteArray) = B := ⟨_, rfl⟩
   obtain ⟨MP, hMP⟩ : ∃ B : ByteArray, (⟨m.p.str.toArray⟩ : ByteArray) = B := ⟨_, rfl⟩
   have HR := Lib.hid (And.intro hr (And.intro hI (And.intro hMI (And.intro hMM hMP))))
   have hagg : ∀ (kp : Option Addr) (kc : Nat) (ip : Option Addr) (ic : Nat), (#[Value.int .i64 m.k, .int .i64 m.id.k, .int .i64 m.id.n, .string MI, .string MM, .int .i64 m.p.kind, .string MP, .slice kp m.p.keys.length kc, .slice ip m.p.items.length ic] : Array Value).all (·.oneCell') = true := fun _ _ _ _ => by simp [Value.oneCell']
   clear hr hI hMI hMM hMP
   have h35 : Calls Tryz.prog 35 #[.string s] w fun e w' => ∃ kq kd iq id, e = .returned (.tuple #[.agg #[.int .i64 m.k, .int .i64 m.id.k, .int .i64 m.id.n, .string MI, .string MM, .int .i64 m.p.kind, .string MP, .slice kq m.p.keys.length kd, .slice iq m.p.items.length id], .agg #[.int .i64 i.k, .int .i64 i.n, .string I], .int .i64 c]) ∧ KI w' m.p kq kd iq id ∧ Below w.heap.size w w' := by
    have h := read_any s (HT.out w (Below.refl _ _)).1 (HT.out w (Below.refl _ _)).2.1 (by omega)
    rw [HR.out.1] at h
    refine h.mono ?_
    rintro e w' ⟨kq, kd, iq, id, rfl, h2, h3⟩
    exact ⟨kq, kd, iq, id, by rw [← HR.out.2.1, ← HR.out.2.2.1, ← HR.out.2.2.2.1, ← HR.out.2.2.2.2], h2, h3⟩
   go_enter Tryz.func5, Tryz.ntmps5
   go_upto_region 4 with (first
    | (go_at_call 35; refine h35.mono ?_; rintro e rA ⟨kpA, kcA, ipA, icA, rfl, hkA, hbA⟩
       obtain ⟨UA, hUA⟩ : ∃ V, rA.alloc (.cells #[.int .i64 0, .int .i64 0, .int .i64 0, .string ⟨#[]⟩, .string ⟨#[]⟩, .int .i64 0, .string ⟨#[]⟩, .slice none 0 0, .slice none 0 0] 59) = V := ⟨_, rfl⟩
       have hzA : UA.heap.size = rA.heap.size + 1 := (by rw [← hUA]; simp)
       obtain ⟨ZA, hZA⟩ : ∃ V, UA.alloc (.cells #[.int .i64 0, .int .i64 0, .string ⟨#[]⟩] 57) = V := ⟨_, rfl⟩
       have uA := alloc_b hUA
       have vA := alloc_b hZA
       have hneA : rA.heap.size ≠ rA.heap.size + 1 := (by omega)
       have hmzA := row_of hUA ZA vA
       have hizA := row_of hZA ZA (Below.refl _ _)
       rw [hzA] at hizA
       have bzA : Below rA.heap.size rA ZA := Below.on uA vA
       clear h35)
    | (refine store_msg rfl (.tmp 3) (.tmp 16) rfl rA.heap.size rfl (.int .i64 m.k) (.int .i64 m.id.k) (.int .i64 m.id.n) (.string MI) (.string MM) (.int .i64 m.p.kind) (.string MP) (.slice kpA m.p.keys.length kcA) (.slice ipA m.p.items.length icA) rfl (hagg kpA kcA ipA icA) ⟨_, _, _, _, _, _, _, _, _, hmzA⟩ (fun PA hPA hgPA _ => ?_)
       have hiyA := (hgPA.block (rA.heap.size + 1) (ltS hizA) (fun e => hneA (Option.some.inj e).symm)).trans hizA
       have byA := below_gbz bzA (Nat.le_refl _) hgPA)
    | (refine store_id rfl (.tmp 4) (.tmp 17) rfl (rA.heap.size + 1) rfl (.int .i64 i.k) (.int .i64 i.n) (.string I) rfl rfl ⟨_, _, _, hiyA⟩ (fun QA hQA hgQA _ => ?_)
       have hmA := (hgQA.block rA.heap.size (ltS hPA) (fun e => hneA (Option.some.inj e))).trans hPA
       have bxA := below_gbz byA (Nat.le_succ _) hgQA))
   have bqA : Below w.heap.size w QA := Below.on hbA bxA
   have HMA : Hid (∀ V, Below QA.heap.size QA V → _) := Lib.hid fun V hV => And.intro (cells9 ((hV.block _ (ltS hmA)).trans hmA)) (cells3 ((hV.block _ (ltS hQA)).trans hQA))
   have HKA : Hid (∀ V, Below QA.heap.size QA V → KI V m.p kpA kcA ipA icA) := Lib.hid fun V hV => (hkA.stay bxA).stay hV
   clear hmzA hizA hiyA hPA bzA byA hmA hQA hkA hbA bxA hgPA hgQA hUA hZA uA vA hneA
   have h36 : Calls Tryz.prog 36 #[.string s] QA fun e w' => ∃ kq kd iq id, e = .returned (.tuple #[.agg #[.int .i64 m.k, .int .i64 m.id.k, .int .i64 m.id.n, .string MI, .string MM, .int .i64 m.p.kind, .string MP, .slice kq m.p.keys.length kd, .slice iq m.p.items.length id], .agg #[.int .i64 i.k, .int .i64 i.n, .string I], .int .i64 c]) ∧ KI w' m.p kq kd iq id ∧ Below QA.heap.size QA w' := by
    have h := rread_any (w := QA) s (by omega)
    rw [HR.out.1] at h
    refine h.mono ?_
    rintro e w' ⟨kq, kd, iq, id, rfl, h2, h3⟩
    exact ⟨kq, kd, iq, id, by rw [← HR.out.2.1, ← HR.out.2.2.1, ← HR.out.2.2.2.1, ← HR.out.2.2.2.2], h2, h3⟩
   go_upto_region 5 with (first
    | (go_at_call 36; refine h36.mono ?_; rintro e rB ⟨kpB, kcB, ipB, icB, rfl, hkB, hbB⟩
       obtain ⟨UB, hUB⟩ : ∃ V, rB.alloc (.cells #[.int .i64 0, .int .i64 0, .int .i64 0, .string ⟨#[]⟩, .string ⟨#[]⟩, .int .i64 0, .string ⟨#[]⟩, .slice none 0 0, .slice none 0 0] 64) = V := ⟨_, rfl⟩
       have hzB : UB.heap.size = rB.heap.size + 1 := (by rw [← hUB]; simp)
       obtain ⟨ZB, hZB⟩ : ∃ V, UB.alloc (.cells #[.int .i64 0, .int .i64 0, .string ⟨#[]⟩] 62) = V := ⟨_, rfl⟩
       have uB := alloc_b hUB
       have vB := alloc_b hZB
       have hneB : rB.heap.size ≠ rB.heap.size + 1 := (by omega)
       have hmzB := row_of hUB ZB vB
       have hizB := row_of hZB ZB (Below.refl _ _)
       rw [hzB] at hizB
       have bzB : Below rB.heap.size rB ZB := Below.on uB vB
       clear h36)
    | (refine store_rmsg rfl (.tmp 6) (.tmp 22) rfl rB.heap.size rfl (.int .i64 m.k) (.int .i64 m.id.k) (.int .i64 m.id.n) (.string MI) (.string MM) (.int .i64 m.p.kind) (.string MP) (.slice kpB m.p.keys.length kcB) (.slice ipB m.p.items.length icB) rfl (hagg kpB kcB ipB icB) ⟨_, _, _, _, _, _, _, _, _, hmzB⟩ (fun PB hPB hgPB _ => ?_)
       have hiyB := (hgPB.block (rB.heap.size + 1) (ltS hizB) (fun e => hneB (Option.some.inj e).symm)).trans hizB
       have byB := below_gbz bzB (Nat.le_refl _) hgPB)
    | (refine store_rid rfl (.tmp 7) (.tmp 23) rfl (rB.heap.size + 1) rfl (.int .i64 i.k) (.int .i64 i.n) (.string I) rfl rfl ⟨_, _, _, hiyB⟩ (fun QB hQB hgQB _ => ?_)
       have hmB := (hgQB.block rB.heap.size (ltS hPB) (fun e => hneB (Option.some.inj e))).trans hPB
       have bxB := below_gbz byB (Nat.le_succ _) hgQB))
   have bqB : Below QA.heap.size QA QB := Below.on hbB bxB
   have HMB : Hid (∀ V, Below QB.heap.size QB V → _) := Lib.hid fun V hV => And.intro (cells9 ((hV.block _ (ltS hmB)).trans hmB)) (cells3 ((hV.block _ (ltS hQB)).trans hQB))
   have HKB : Hid (∀ V, Below QB.heap.size QB V → KI V m.p kpB kcB ipB icB) := Lib.hid fun V hV => (hkB.stay bxB).stay hV
   clear hmzB hizB hiyB hPB bzB byB hmB hQB hkB hbB bxB hgPB hgQB hUB hZB uB vB hneB
   have bqB2 := Below.on bqA bqB
   obtain ⟨s1, s2⟩ := str_same MM
   obtain ⟨⟨m0, m1, m2, m3, m4, m5, m6, m7, m8⟩, i0, i1, i2, _⟩ := HMA.out QB (bqB); obtain ⟨⟨n0, n1, n2, n3, n4, n5, n6, n7, n8⟩, j0, j1, j2, _⟩ := HMB.out QB (Below.refl _ _)
   go_wp2_with (first
    | (with_reducible (show Calls _ _ _ QB _); go_at_call 37; refine (same_any37 _ _ _ _).mono ?_; rintro e wa ⟨rfl, hba⟩; clear m0 m1 m2 m3 m4 m5 m6 m7 m8 n0 n1 n2 n3 n4 n5 n6 n7 n8 i0 i1 i2 j0 j1 j2; obtain ⟨⟨m0, m1, m2, m3, m4, m5, m6, m7, m8⟩, i0, i1, i2, _⟩ := HMA.out wa (Below.on bqB hba); obtain ⟨⟨n0, n1, n2, n3, n4, n5, n6, n7, n8⟩, j0, j1, j2, _⟩ := HMB.out wa (hba))
    | (with_reducible (show Calls _ _ _ wa _); go_at_call 37; refine (same_any37 _ _ _ _).mono ?_; rintro e wb ⟨rfl, hbb⟩; have hbab := Below.on hba hbb; clear m0 m1 m2 m3 m4 m5 m6 m7 m8 n0 n1 n2 n3 n4 n5 n6 n7 n8 i0 i1 i2 j0 j1 j2; obtain ⟨⟨m0, m1, m2, m3, m4, m5, m6, m7, m8⟩, i0, i1, i2, _⟩ := HMA.out wb (Below.on bqB hbab); obtain ⟨⟨n0, n1, n2, n3, n4, n5, n6, n7, n8⟩, j0, j1, j2, _⟩ := HMB.out wb (hbab)
       have heq := equal_is (HKA.out wb (Below.on bqB hbab)) (HKB.out wb hbab) HR.out.2.2.2.2 HR.out.2.2.2.2 wb (Below.refl _ _)
       rw [(eqV_iff m.p m.p).2 rfl] at heq)
    | (go_at_call 24; refine heq.mono ?_; rintro e wc ⟨rfl, hbc⟩; have bc := Below.on bqB2 (Below.on hbab hbc))
    | (go_at_call 34; refine (works_any _ (HT.out _ bc).1 (HT.out _ bc).2.1 (HT.out _ bc).2.2).mono ?_; rintro e wd ⟨rfl, hbd⟩))
   go_ret
   exact ⟨rfl, Below.on bc hbd⟩
end Go.Proofs.Rp
