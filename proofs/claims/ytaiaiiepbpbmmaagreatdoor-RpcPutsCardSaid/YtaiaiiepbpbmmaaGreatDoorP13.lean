/- rpc.Words; how long replies are. Printed by gen_p13.py. -/
import Derived.Test.YtaiaiiepbpbmmaaGreatDoorPX
namespace Go.Proofs.Rp
open Go.RowKit Go.Maps Go.Lib Go.Proofs.Utf Go.Proofs.Jt Go.Proofs

def codesL : List Int := [-32700, -32600, -32601, -32602, -32002, -32800, -32801, -32803, -32050]
def codesA : Array Value := #[.int .i64 (-32700), .int .i64 (-32600), .int .i64 (-32601), .int .i64 (-32602), .int .i64 (-32002), .int .i64 (-32800), .int .i64 (-32801), .int .i64 (-32803), .int .i64 (-32050)]
def wordsA : Array Value := #[.string ⟨#[112, 97, 114, 115, 101, 32, 101, 114, 114, 111, 114]⟩, .string ⟨#[105, 110, 118, 97, 108, 105, 100, 32, 114, 101, 113, 117, 101, 115, 116]⟩, .string ⟨#[109, 101, 116, 104, 111, 100, 32, 110, 111, 116, 32, 102, 111, 117, 110, 100]⟩, .string ⟨#[105, 110, 118, 97, 108, 105, 100, 32, 112, 97, 114, 97, 109, 115]⟩, .string ⟨#[115, 101, 114, 118, 101, 114, 32, 110, 111, 116, 32, 105, 110, 105, 116, 105, 97, 108, 105, 122, 101, 100]⟩, .string ⟨#[114, 101, 113, 117, 101, 115, 116, 32, 99, 97, 110, 99, 101, 108, 108, 101, 100]⟩, .string ⟨#[99, 111, 110, 116, 101, 110, 116, 32, 109, 111, 100, 105, 102, 105, 101, 100]⟩, .string ⟨#[114, 101, 113, 117, 101, 115, 116, 32, 102, 97, 105, 108, 101, 100]⟩, .string ⟨#[115, 101, 114, 118, 101, 114, 32, 98, 117, 115, 121]⟩]
/-- what the two variables hold -/
structure WordV (w : World) : Prop where
 codes : w.var? Tryz.prog "emend/rpc.codes" = some codesA
 words : w.var? Tryz.prog "emend/rpc.words" = some wordsA
theorem glob0 : Tryz.prog.globalNamed "emend/rpc.codes" = some 0 := by kernel_rfl
theorem glob1 : Tryz.prog.globalNamed "emend/rpc.words" = some 1 := by kernel_rfl
theorem WordV.below {w w' : World} (h : WordV w) (hb : Below w.heap.size w w') : WordV w' :=
 ⟨var?_below hb glob0 (World.block_lt_of_cell? w ⟨0, 0, none⟩ ((World.var?_cell glob0 h.codes 0).trans rfl)) h.codes, var?_below hb glob1 (World.block_lt_of_cell? w ⟨1, 0, none⟩ ((World.var?_cell glob1 h.words 0).trans rfl)) h.words⟩
theorem wordsV_none {c : Int} (h : c ∉ codesL) : wordsV c = [] := by
 unfold codesL at h
 simp only [List.mem_cons, List.not_mem_nil, or_false, not_or] at h
 unfold wordsV
 rw [if_neg h.1, if_neg h.2.1, if_neg h.2.2.1, if_neg h.2.2.2.1, if_neg h.2.2.2.2.1, if_neg h.2.2.2.2.2.1, if_neg h.2.2.2.2.2.2.1, if_neg h.2.2.2.2.2.2.2.1, if_neg h.2.2.2.2.2.2.2.2]
set_option maxRecDepth 100000 in
set_option maxHeartbeats 4000000 in
theorem words_any (c : Int) (WB : ByteArray) (hWB : (⟨(wordsV c).toArray⟩ : ByteArray) = WB) (w : World) (hV : WordV w) : Calls Tryz.prog 47 #[.int .i64 c] w fun e w' => e = .returned (.string WB) ∧ Below w.heap.size w w' := by
 have c0 : w.cell? ⟨0, 0, none⟩ = some (.int .i64 (-32700)) := World.var?_cell glob0 hV.codes 0
 have c1 : w.cell? ⟨0, 1, none⟩ = some (.int .i64 (-32600)) := World.var?_cell glob0 hV.codes 1
 have c2 : w.cell? ⟨0, 2, none⟩ = some (.int .i64 (-32601)) := World.var?_cell glob0 hV.codes 2
 have c3 : w.cell? ⟨0, 3, none⟩ = some (.int .i64 (-32602)) := World.var?_cell glob0 hV.codes 3
 have c4 : w.cell? ⟨0, 4, none⟩ = some (.int .i64 (-32002)) := World.var?_cell glob0 hV.codes 4
 have c5 : w.cell? ⟨0, 5, none⟩ = some (.int .i64 (-32800)) := World.var?_cell glob0 hV.codes 5
 have c6 : w.cell? ⟨0, 6, none⟩ = some (.int .i64 (-32801)) := World.var?_cell glob0 hV.codes 6
 have c7 : w.cell? ⟨0, 7, none⟩ = some (.int .i64 (-32803)) := World.var?_cell glob0 hV.codes 7
 have c8 : w.cell? ⟨0, 8, none⟩ = some (.int .i64 (-32050)) := World.var?_cell glob0 hV.codes 8
 have HV := Lib.hid hV
 have HW := Lib.hid hWB
 clear hV hWB
 go_enter Tryz.func47, Tryz.ntmps47
 go_wp2_with fail
 go_loopw [6] (fun iv wr => ∃ n : Int, iv = .int .i64 n ∧ 0 ≤ n ∧ n ≤ 9 ∧ c ∉ codesL.take n.toNat ∧ Below w.heap.size w wr) (fun iv _ => 9 - (RowKit.intOf iv).toNat)
 case atStart => exact ⟨0, rfl, by omega, by omega, by simp, Below.refl _ _⟩
 case round =>
  obtain ⟨n, rfl, hn0, hn, hnot, hB⟩ := hrel
  clear c0 c1 c2 c3 c4 c5 c6 c7 c8
  have hVr := HV.out.below hB
  have HN := Lib.hid hnot
  have HB := Lib.hid hB
  clear hnot hB
  have hc : n = 0 ∨ n = 1 ∨ n = 2 ∨ n = 3 ∨ n = 4 ∨ n = 5 ∨ n = 6 ∨ n = 7 ∨ n = 8 ∨ n = 9 := by omega
  clear hn0 hn
  rcases hc with rfl | rfl | rfl | rfl | rfl | rfl | rfl | rfl | rfl | rfl
  · have ix : ∀ V, (Instr.index 162 (.agg #[.int .i64 (-32700), .int .i64 (-32600), .int .i64 (-32601), .int .i64 (-32602), .int .i64 (-32002), .int .i64 (-32800), .int .i64 (-32801), .int .i64 (-32803), .int .i64 (-32050)]) (.int .i64 0)).run Tryz.prog V = .ok (.int .i64 (-32700)) V := fun _ => by kernel_rfl
    have g0 : wr.cell? ⟨1, 0, none⟩ = some (.string ⟨#[112, 97, 114, 115, 101, 32, 101, 114, 114, 111, 114]⟩) := World.var?_cell glob1 hVr.words 0
    clear hVr
    by_cases e : (-32700 : Int) = c
    · subst e
      obtain rfl : (⟨#[112, 97, 114, 115, 101, 32, 101, 114, 114, 111, 114]⟩ : ByteArray) = WB := HW.out.symm.trans rfl |>.symm
      go_wp2_with fail
      go_ret
      exact ⟨rfl, HB.out⟩
    · have q : ((-32700 : Int) == c) = false := beq_eq_false_iff_ne.2 e
      have hnext : Hid (c ∉ codesL.take 1) := Lib.hid (by
       have := HN.out
       rw [show codesL.take 1 = codesL.take 0 ++ [-32700] from rfl, List.mem_append, not_or]
       exact ⟨this, fun h => e (List.mem_singleton.1 h).symm⟩)
      clear HN e
      go_wp2_with fail
      go_roundw
      · exact ⟨1, rfl, by omega, by omega, hnext.out, HB.out⟩
      · show (9 : Nat) - Int.toNat _ < 9 - Int.toNat _
        decide
  · have ix : ∀ V, (Instr.index 162 (.agg #[.int .i64 (-32700), .int .i64 (-32600), .int .i64 (-32601), .int .i64 (-32602), .int .i64 (-32002), .int .i64 (-32800), .int .i64 (-32801), .int .i64 (-32803), .int .i64 (-32050)]) (.int .i64 1)).run Tryz.prog V = .ok (.int .i64 (-32600)) V := fun _ => by kernel_rfl
    have g0 : wr.cell? ⟨1, 1, none⟩ = some (.string ⟨#[105, 110, 118, 97, 108, 105, 100, 32, 114, 101, 113, 117, 101, 115, 116]⟩) := World.var?_cell glob1 hVr.words 1
    clear hVr
    by_cases e : (-32600 : Int) = c
    · subst e
      obtain rfl : (⟨#[105, 110, 118, 97, 108, 105, 100, 32, 114, 101, 113, 117, 101, 115, 116]⟩ : ByteArray) = WB := HW.out.symm.trans rfl |>.symm
      go_wp2_with fail
      go_ret
      exact ⟨rfl, HB.out⟩
    · have q : ((-32600 : Int) == c) = false := beq_eq_false_iff_ne.2 e
      have hnext : Hid (c ∉ codesL.take 2) := Lib.hid (by
       have := HN.out
       rw [show codesL.take 2 = codesL.take 1 ++ [-32600] from rfl, List.mem_append, not_or]
       exact ⟨this, fun h => e (List.mem_singleton.1 h).symm⟩)
      clear HN e
      go_wp2_with fail
      go_roundw
      · exact ⟨2, rfl, by omega, by omega, hnext.out, HB.out⟩
      · show (9 : Nat) - Int.toNat _ < 9 - Int.toNat _
        decide
  · have ix : ∀ V, (Instr.index 162 (.agg #[.int .i64 (-32700), .int .i64 (-32600), .int .i64 (-32601), .int .i64 (-32602), .int .i64 (-32002), .int .i64 (-32800), .int .i64 (-32801), .int .i64 (-32803), .int .i64 (-32050)]) (.int .i64 2)).run Tryz.prog V = .ok (.int .i64 (-32601)) V := fun _ => by kernel_rfl
    have g0 : wr.cell? ⟨1, 2, none⟩ = some (.string ⟨#[109, 101, 116, 104, 111, 100, 32, 110, 111, 116, 32, 102, 111, 117, 110, 100]⟩) := World.var?_cell glob1 hVr.words 2
    clear hVr
    by_cases e : (-32601 : Int) = c
    · subst e
      obtain rfl : (⟨#[109, 101, 116, 104, 111, 100, 32, 110, 111, 116, 32, 102, 111, 117, 110, 100]⟩ : ByteArray) = WB := HW.out.symm.trans rfl |>.symm
      go_wp2_with fail
      go_ret
      exact ⟨rfl, HB.out⟩
    · have q : ((-32601 : Int) == c) = false := beq_eq_false_iff_ne.2 e
      have hnext : Hid (c ∉ codesL.take 3) := Lib.hid (by
       have := HN.out
       rw [show codesL.take 3 = codesL.take 2 ++ [-32601] from rfl, List.mem_append, not_or]
       exact ⟨this, fun h => e (List.mem_singleton.1 h).symm⟩)
      clear HN e
      go_wp2_with fail
      go_roundw
      · exact ⟨3, rfl, by omega, by omega, hnext.out, HB.out⟩
      · show (9 : Nat) - Int.toNat _ < 9 - Int.toNat _
        decide
  · have ix : ∀ V, (Instr.index 162 (.agg #[.int .i64 (-32700), .int .i64 (-32600), .int .i64 (-32601), .int .i64 (-32602), .int .i64 (-32002), .int .i64 (-32800), .int .i64 (-32801), .int .i64 (-32803), .int .i64 (-32050)]) (.int .i64 3)).run Tryz.prog V = .ok (.int .i64 (-32602)) V := fun _ => by kernel_rfl
    have g0 : wr.cell? ⟨1, 3, none⟩ = some (.string ⟨#[105, 110, 118, 97, 108, 105, 100, 32, 112, 97, 114, 97, 109, 115]⟩) := World.var?_cell glob1 hVr.words 3
    clear hVr
    by_cases e : (-32602 : Int) = c
    · subst e
      obtain rfl : (⟨#[105, 110, 118, 97, 108, 105, 100, 32, 112, 97, 114, 97, 109, 115]⟩ : ByteArray) = WB := HW.out.symm.trans rfl |>.symm
      go_wp2_with fail
      go_ret
      exact ⟨rfl, HB.out⟩
    · have q : ((-32602 : Int) == c) = false := beq_eq_false_iff_ne.2 e
      have hnext : Hid (c ∉ codesL.take 4) := Lib.hid (by
       have := HN.out
       rw [show codesL.take 4 = codesL.take 3 ++ [-32602] from rfl, List.mem_append, not_or]
       exact ⟨this, fun h => e (List.mem_singleton.1 h).symm⟩)
      clear HN e
      go_wp2_with fail
      go_roundw
      · exact ⟨4, rfl, by omega, by omega, hnext.out, HB.out⟩
      · show (9 : Nat) - Int.toNat _ < 9 - Int.toNat _
        decide
  · have ix : ∀ V, (Instr.index 162 (.agg #[.int .i64 (-32700), .int .i64 (-32600), .int .i64 (-32601), .int .i64 (-32602), .int .i64 (-32002), .int .i64 (-32800), .int .i64 (-32801), .int .i64 (-32803), .int .i64 (-32050)]) (.int .i64 4)).run Tryz.prog V = .ok (.int .i64 (-32002)) V := fun _ => by kernel_rfl
    have g0 : wr.cell? ⟨1, 4, none⟩ = some (.string ⟨#[115, 101, 114, 118, 101, 114, 32, 110, 111, 116, 32, 105, 110, 105, 116, 105, 97, 108, 105, 122, 101, 100]⟩) := World.var?_cell glob1 hVr.words 4
    clear hVr
    by_cases e : (-32002 : Int) = c
    · subst e
      obtain rfl : (⟨#[115, 101, 114, 118, 101, 114, 32, 110, 111, 116, 32, 105, 110, 105, 116, 105, 97, 108, 105, 122, 101, 100]⟩ : ByteArray) = WB := HW.out.symm.trans rfl |>.symm
      go_wp2_with fail
      go_ret
      exact ⟨rfl, HB.out⟩
    · have q : ((-32002 : Int) == c) = false := beq_eq_false_iff_ne.2 e
      have hnext : Hid (c ∉ codesL.take 5) := Lib.hid (by
       have := HN.out
       rw [show codesL.take 5 = codesL.take 4 ++ [-32002] from rfl, List.mem_append, not_or]
       exact ⟨this, fun h => e (List.mem_singleton.1 h).symm⟩)
      clear HN e
      go_wp2_with fail
      go_roundw
      · exact ⟨5, rfl, by omega, by omega, hnext.out, HB.out⟩
      · show (9 : Nat) - Int.toNat _ < 9 - Int.toNat _
        decide
  · have ix : ∀ V, (Instr.index 162 (.agg #[.int .i64 (-32700), .int .i64 (-32600), .int .i64 (-32601), .int .i64 (-32602), .int .i64 (-32002), .int .i64 (-32800), .int .i64 (-32801), .int .i64 (-32803), .int .i64 (-32050)]) (.int .i64 5)).run Tryz.prog V = .ok (.int .i64 (-32800)) V := fun _ => by kernel_rfl
    have g0 : wr.cell? ⟨1, 5, none⟩ = some (.string ⟨#[114, 101, 113, 117, 101, 115, 116, 32, 99, 97, 110, 99, 101, 108, 108, 101, 100]⟩) := World.var?_cell glob1 hVr.words 5
    clear hVr
    by_cases e : (-32800 : Int) = c
    · subst e
      obtain rfl : (⟨#[114, 101, 113, 117, 101, 115, 116, 32, 99, 97, 110, 99, 101, 108, 108, 101, 100]⟩ : ByteArray) = WB := HW.out.symm.trans rfl |>.symm
      go_wp2_with fail
      go_ret
      exact ⟨rfl, HB.out⟩
    · have q : ((-32800 : Int) == c) = false := beq_eq_false_iff_ne.2 e
      have hnext : Hid (c ∉ codesL.take 6) := Lib.hid (by
       have := HN.out
       rw [show codesL.take 6 = codesL.take 5 ++ [-32800] from rfl, List.mem_append, not_or]
       exact ⟨this, fun h => e (List.mem_singleton.1 h).symm⟩)
      clear HN e
      go_wp2_with fail
      go_roundw
      · exact ⟨6, rfl, by omega, by omega, hnext.out, HB.out⟩
      · show (9 : Nat) - Int.toNat _ < 9 - Int.toNat _
        decide
  · have ix : ∀ V, (Instr.index 162 (.agg #[.int .i64 (-32700), .int .i64 (-32600), .int .i64 (-32601), .int .i64 (-32602), .int .i64 (-32002), .int .i64 (-32800), .int .i64 (-32801), .int .i64 (-32803), .int .i64 (-32050)]) (.int .i64 6)).run Tryz.prog V = .ok (.int .i64 (-32801)) V := fun _ => by kernel_rfl
    have g0 : wr.cell? ⟨1, 6, none⟩ = some (.string ⟨#[99, 111, 110, 116, 101, 110, 116, 32, 109, 111, 100, 105, 102, 105, 101, 100]⟩) := World.var?_cell glob1 hVr.words 6
    clear hVr
    by_cases e : (-32801 : Int) = c
    · subst e
      obtain rfl : (⟨#[99, 111, 110, 116, 101, 110, 116, 32, 109, 111, 100, 105, 102, 105, 101, 100]⟩ : ByteArray) = WB := HW.out.symm.trans rfl |>.symm
      go_wp2_with fail
      go_ret
      exact ⟨rfl, HB.out⟩
    · have q : ((-32801 : Int) == c) = false := beq_eq_false_iff_ne.2 e
      have hnext : Hid (c ∉ codesL.take 7) := Lib.hid (by
       have := HN.out
       rw [show codesL.take 7 = codesL.take 6 ++ [-32801] from rfl, List.mem_append, not_or]
       exact ⟨this, fun h => e (List.mem_singleton.1 h).symm⟩)
      clear HN e
      go_wp2_with fail
      go_roundw
      · exact ⟨7, rfl, by omega, by omega, hnext.out, HB.out⟩
      · show (9 : Nat) - Int.toNat _ < 9 - Int.toNat _
        decide
  · have ix : ∀ V, (Instr.index 162 (.agg #[.int .i64 (-32700), .int .i64 (-32600), .int .i64 (-32601), .int .i64 (-32602), .int .i64 (-32002), .int .i64 (-32800), .int .i64 (-32801), .int .i64 (-32803), .int .i64 (-32050)]) (.int .i64 7)).run Tryz.prog V = .ok (.int .i64 (-32803)) V := fun _ => by kernel_rfl
    have g0 : wr.cell? ⟨1, 7, none⟩ = some (.string ⟨#[114, 101, 113, 117, 101, 115, 116, 32, 102, 97, 105, 108, 101, 100]⟩) := World.var?_cell glob1 hVr.words 7
    clear hVr
    by_cases e : (-32803 : Int) = c
    · subst e
      obtain rfl : (⟨#[114, 101, 113, 117, 101, 115, 116, 32, 102, 97, 105, 108, 101, 100]⟩ : ByteArray) = WB := HW.out.symm.trans rfl |>.symm
      go_wp2_with fail
      go_ret
      exact ⟨rfl, HB.out⟩
    · have q : ((-32803 : Int) == c) = false := beq_eq_false_iff_ne.2 e
      have hnext : Hid (c ∉ codesL.take 8) := Lib.hid (by
       have := HN.out
       rw [show codesL.take 8 = codesL.take 7 ++ [-32803] from rfl, List.mem_append, not_or]
       exact ⟨this, fun h => e (List.mem_singleton.1 h).symm⟩)
      clear HN e
      go_wp2_with fail
      go_roundw
      · exact ⟨8, rfl, by omega, by omega, hnext.out, HB.out⟩
      · show (9 : Nat) - Int.toNat _ < 9 - Int.toNat _
        decide
  · have ix : ∀ V, (Instr.index 162 (.agg #[.int .i64 (-32700), .int .i64 (-32600), .int .i64 (-32601), .int .i64 (-32602), .int .i64 (-32002), .int .i64 (-32800), .int .i64 (-32801), .int .i64 (-32803), .int .i64 (-32050)]) (.int .i64 8)).run Tryz.prog V = .ok (.int .i64 (-32050)) V := fun _ => by kernel_rfl
    have g0 : wr.cell? ⟨1, 8, none⟩ = some (.string ⟨#[115, 101, 114, 118, 101, 114, 32, 98, 117, 115, 121]⟩) := World.var?_cell glob1 hVr.words 8
    clear hVr
    by_cases e : (-32050 : Int) = c
    · subst e
      obtain rfl : (⟨#[115, 101, 114, 118, 101, 114, 32, 98, 117, 115, 121]⟩ : ByteArray) = WB := HW.out.symm.trans rfl |>.symm
      go_wp2_with fail
      go_ret
      exact ⟨rfl, HB.out⟩
    · have q : ((-32050 : Int) == c) = false := beq_eq_false_iff_ne.2 e
      have hnext : Hid (c ∉ codesL.take 9) := Lib.hid (by
       have := HN.out
       rw [show codesL.take 9 = codesL.take 8 ++ [-32050] from rfl, List.mem_append, not_or]
       exact ⟨this, fun h => e (List.mem_singleton.1 h).symm⟩)
      clear HN e
      go_wp2_with fail
      go_roundw
      · exact ⟨9, rfl, by omega, by omega, hnext.out, HB.out⟩
      · show (9 : Nat) - Int.toNat _ < 9 - Int.toNat _
        decide
  · obtain rfl : (⟨#[]⟩ : ByteArray) = WB := by rw [← HW.out, wordsV_none (show c ∉ codesL from HN.out)]
    clear hVr HN
    go_wp2_with fail
    go_ret
    exact ⟨rfl, HB.out⟩
theorem wordsV_len (c : Int) : (wordsV c).length ≤ 100 := by
 unfold wordsV
 repeat' split
 all_goals decide
end Go.Proofs.Rp
