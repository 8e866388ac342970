/- rpc: the law's 'is'. -/
import Derived.Test.YtaiaiiepbpbmmaaGreatDoorP8
namespace Go.Proofs.Rp
open Go.RowKit Go.Maps Go.Lib Go.Proofs.Utf Go.Proofs.Jt Go.Proofs

set_option maxRecDepth 100000 in
set_option maxHeartbeats 4000000 in
theorem is_any49 {w : World} (s : ByteArray) (hT : Tabs w) (hE : ErrV w) (hs : s.size ≤ 400000) (m : MsgV) (i : IdV) (I : ByteArray) (hI : (⟨i.s.toArray⟩ : ByteArray) = I) (c : Int) (hr : readV s.data.toList = (m, i, c)) :
    Calls Tryz.prog 49 #[.string s, .int .i64 m.k, .agg #[.int .i64 i.k, .int .i64 i.n, .string I], .int .i64 c] w fun e w' => e = .returned (.bool true) ∧ Below w.heap.size w w' := by
  obtain ⟨W, hW⟩ : ∃ W, w.alloc (.cells #[.int .i64 i.k, .int .i64 i.n, .string I] 57) = W := ⟨_, rfl⟩
  have bW := alloc_b hW
  have HB := Lib.hid (box3_of hW)
  have HBW := Lib.hid bW
  obtain ⟨MI, hMI⟩ : ∃ B : ByteArray, (⟨m.id.s.toArray⟩ : ByteArray) = B := ⟨_, rfl⟩
  obtain ⟨MM, hMM⟩ : ∃ B : ByteArray, (⟨m.m.toArray⟩ : ByteArray) = B := ⟨_, rfl⟩
  obtain ⟨MP, hMP⟩ : ∃ B : ByteArray, (⟨m.p.str.toArray⟩ : ByteArray) = B := ⟨_, rfl⟩
  have h35 : Calls Tryz.prog 35 #[.string s] W fun e w' => (∃ kq kd iq id, e = .returned (.tuple #[.agg #[.int .i64 m.k, .int .i64 m.id.k, .int .i64 m.id.n, .string MI, .string MM, .int .i64 m.p.kind, .string MP, .slice kq m.p.keys.length kd, .slice iq m.p.items.length id], .agg #[.int .i64 i.k, .int .i64 i.n, .string I], .int .i64 c])) ∧ Below W.heap.size W w' := by
    have h := read_any s (hT.below bW) (hE.below bW) hs
    rw [hr] at h
    refine h.mono ?_
    rintro e w' ⟨kq, kd, iq, id, rfl, _, h3⟩
    exact ⟨⟨kq, kd, iq, id, by rw [← hI, ← hMI, ← hMM, ← hMP]⟩, h3⟩
  have hagg : ∀ (kp : Option Addr) (kc : Nat) (ip : Option Addr) (ic : Nat), (#[Value.int .i64 m.k, .int .i64 m.id.k, .int .i64 m.id.n, .string MI, .string MM, .int .i64 m.p.kind, .string MP, .slice kp m.p.keys.length kc, .slice ip m.p.items.length ic] : Array Value).all (·.oneCell') = true := fun _ _ _ _ => by simp [Value.oneCell']
  obtain ⟨c0, c1, c2⟩ := HB.out W (Below.refl _ _)
  obtain ⟨s1, s2⟩ := str_same I
  clear hT hE hs hr hI hMI hMM hMP bW
  go_enter Tryz.func49, Tryz.ntmps49
  go_upto_region 2 with (first
    | (go_at_call 35; refine h35.mono ?_; rintro e w3 ⟨⟨kq, kd, iq, id, rfl⟩, hb3⟩
       obtain ⟨U1, hU1⟩ : ∃ V, w3.alloc (.cells #[.int .i64 0, .int .i64 0, .int .i64 0, .string ⟨#[]⟩, .string ⟨#[]⟩, .int .i64 0, .string ⟨#[]⟩, .slice none 0 0, .slice none 0 0] 59) = V := ⟨_, rfl⟩
       have hz1 : U1.heap.size = w3.heap.size + 1 := (by rw [← hU1]; simp)
       obtain ⟨V0, hV0⟩ : ∃ V, U1.alloc (.cells #[.int .i64 0, .int .i64 0, .string ⟨#[]⟩] 57) = V := ⟨_, rfl⟩
       have u1 := alloc_b hU1
       have v0 := alloc_b hV0
       have hne : w3.heap.size ≠ w3.heap.size + 1 := (by omega)
       have hmz := row_of hU1 V0 v0
       have hiz := row_of hV0 V0 (Below.refl _ _)
       rw [hz1] at hiz
       have b30 : Below w3.heap.size w3 V0 := Below.on u1 v0
       clear h35 c0 c1 c2)
    | (refine store_msg rfl (.tmp 9) (.tmp 15) rfl w3.heap.size rfl (.int .i64 m.k) (.int .i64 m.id.k) (.int .i64 m.id.n) (.string MI) (.string MM) (.int .i64 m.p.kind) (.string MP) (.slice kq m.p.keys.length kd) (.slice iq m.p.items.length id) rfl (hagg kq kd iq id) ⟨_, _, _, _, _, _, _, _, _, hmz⟩ (fun V1 hV1 hgV1 _ => ?_)
       have hiz1 := (hgV1.block (w3.heap.size + 1) (Array.getElem?_eq_some_iff.1 hiz).1 (fun e => hne (Option.some.inj e).symm)).trans hiz
       have b31 := below_gbz b30 (Nat.le_refl _) hgV1)
    | (refine store_id rfl (.tmp 10) (.tmp 16) rfl (w3.heap.size + 1) rfl (.int .i64 i.k) (.int .i64 i.n) (.string I) rfl rfl ⟨_, _, _, hiz1⟩ (fun V2 hV2 hgV2 _ => ?_)
       have hm2 := (hgV2.block w3.heap.size (Array.getElem?_eq_some_iff.1 hV1).1 (fun e => hne (Option.some.inj e))).trans hV1
       have b32 := below_gbz b31 (Nat.le_succ _) hgV2))
  have b02 := Below.on hb3 b32
  obtain ⟨c0, c1, c2⟩ := HB.out V2 b02
  obtain ⟨n0, n1, n2, n3, n4, n5, n6, n7, n8⟩ := cells9 hm2
  obtain ⟨i0, i1, i2, _⟩ := cells3 hV2
  clear hm2 hV2 hmz hiz hiz1 hV1
  go_wp2_with fail
  go_ret
  exact ⟨rfl, Below.on HBW.out b02⟩
end Go.Proofs.Rp
