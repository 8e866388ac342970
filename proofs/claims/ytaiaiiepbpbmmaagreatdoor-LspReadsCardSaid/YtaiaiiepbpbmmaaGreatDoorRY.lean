/- Merged texts: RC, RD. -/
import Derived.Test.YtaiaiiepbpbmmaaGreatDoorRX
import Derived.Test.YtaiaiiepbpbmmaaGreatDoorJZ
import Derived.Deep.RegionHeld3
import Derived.Deep.AppendLies
/- RC: Merged texts: R7, R8, R9. -/
/- R7: The walk of the reference's escape. Printed by gen_r7.py. -/
namespace Go.Proofs.Jt
open Go.RowKit Go.Proofs Go.Lib Go.Proofs.Utf

end Go.Proofs.Jt
/- R8: The walk of the reference's escape, whole. Printed by gen_r8e.py. -/
namespace Go.Proofs.Jt
open Go.RowKit Go.Proofs Go.Lib Go.Proofs.Utf

end Go.Proofs.Jt
/- R9: The walk of the reference's quoted. -/
namespace Go.Proofs.Jt
open Go.RowKit Go.Proofs Go.Lib Go.Proofs.Utf

end Go.Proofs.Jt
/- RD: Merged texts: R10, R10b, R11, R12. -/
/- R10: The walk of the reference's Next. Printed by gen_r10.py. -/
namespace Go.Proofs.Jt
open Go.RowKit Go.Proofs Go.Lib Go.Proofs.Utf

end Go.Proofs.Jt
/- R10b: The walk of the reference's Next at words and numbers. Printed by gen_r10.py. -/
namespace Go.Proofs.Jt
open Go.RowKit Go.Proofs Go.Lib Go.Proofs.Utf

end Go.Proofs.Jt
/- R11: The walk of the reference's Tokens. -/
namespace Go.Proofs.Jt
open Go.RowKit Go.Proofs Go.Lib Go.Proofs.Utf

end Go.Proofs.Jt
/- R12: The walk of the reference's Quote. Printed by gen_r12.py. -/
namespace Go.Proofs.Jt
open Go.RowKit Go.Proofs Go.Lib Go.Proofs.Utf

theorem info5 : (Tryz.prog.info? 5).map (fun i => (i.zero, i.size, i.bytes)) = some (some (.int .u8 0), 1, 1) := by kernel_rfl
theorem byte_ones (l : List UInt8) : ∀ u ∈ Lib.byteCells l, u.oneCell' = true := by
 intro u hu
 obtain ⟨b, _, rfl⟩ := List.mem_map.1 hu
 rfl
theorem own_bytes {w : World} {B n : Nat} {v : Value} {a l : List UInt8} {c : List Value} (h : w.ownsRow B 5 1 v n (Lib.byteCells a ++ c)) (hc : c = Lib.byteCells l) (hn : n = a.length + l.length) : w.ownsRow B 5 1 v (a ++ l).length (Lib.byteCells (a ++ l)) := by
 rw [Lib.byteCells_append, List.length_append, ← hc, ← hn]
 exact h
theorem quote_snoc {l : List UInt8} {i : Nat} {c : UInt8} (h : l[i]? = some c) : (l.take (i + 1)).flatMap qByte = (l.take i).flatMap qByte ++ qByte c := by
 rw [List.take_add_one, h]
 simp
theorem back_row (w : World) (B : Nat) (v : Value) (a : List UInt8) (ho : w.ownsRow B 5 1 v a.length (Lib.byteCells a)) (ha : 0 < a.length) : (convert 189 9 v).run Tryz.prog w = .ok (.string ⟨a.toArray⟩) w := by
 rcases ho.2 with ⟨_, h2⟩ | ⟨g, cap, cur, rfl, h2, h3, h4, h5, h6⟩
 · omega
 · refine run_convert_bytes_back _ 189 9 5 ⟨g, 0, none⟩ cap a (by kernel_rfl) (by kernel_rfl) (by kernel_rfl) fun j hj => ?_
   have e : (⟨g, 0, none⟩ : Addr).add j = ⟨g, j, none⟩ := by simp [Addr.add]; omega
   rw [e, ho.cellAt j (by omega)]
   simp [Lib.byteCells, hj]
def quoteRV (l : List UInt8) : Value := if validD l then .tuple #[.string ⟨(quoteL l).toArray⟩, .int .i64 0] else .tuple #[.string ⟨#[]⟩, .int .i64 8]
set_option maxRecDepth 100000 in
set_option maxHeartbeats 4000000 in
theorem quote_ref (s : ByteArray) (w : World) (hs : s.size ≤ 16777216) : Calls Tryz.prog 130 #[.string s] w fun e w' => e = .returned (quoteRV s.data.toList) ∧ Below w.heap.size w w' := by
 have hbr := broken_ref s w hs
 unfold brokenI at hbr
 unfold quoteRV
 cases hv : validD s.data.toList with
 | false =>
  rw [hv, if_neg (by decide)] at hbr
  rw [if_neg (by decide)]
  clear hv
  go_enter Tryz.func130, Tryz.ntmps130
  go_wp2_with (first
   | (go_at_call 184; refine hbr.mono ?_; rintro e w1 ⟨rfl, hw⟩; subst hw))
  go_ret2
  exact ⟨rfl, Below.refl _ _⟩
 | true =>
  rw [hv, if_pos rfl] at hbr
  rw [if_pos rfl]
  clear hv
  obtain ⟨Q, hQ⟩ : ∃ Q, quoteL s.data.toList = Q := ⟨_, rfl⟩
  rw [hQ]
  unfold quoteL at hQ
  have HQ := Lib.hid hQ
  clear hQ
  obtain ⟨i5_, hi5, hz0, hz1, hz2⟩ := info_parts info5
  go_enter Tryz.func130, Tryz.ntmps130
  go_wp2_with (first
   | (go_at_call 184; refine hbr.mono ?_; rintro e w1 ⟨rfl, hw⟩; subst hw))
  have o0 : (w1.alloc (.cells #[.int .u8 34] 5)).ownsRow w1.heap.size 5 1 (.slice (some ⟨w1.heap.size, 0, none⟩) 1 1) 1 (Lib.byteCells [34]) := World.ownsRow_lit w1 #[.int .u8 34] 1 (Nat.le_refl _) (by unfold maxLen; omega) rfl
  go_loopw [5, 6] (fun v a wr => ∃ (i : Nat) (acc : List UInt8), a = .int .i64 i ∧ i ≤ s.size ∧ acc = 34 :: (s.data.toList.take i).flatMap qByte ∧ acc.length ≤ 1 + 6 * i ∧ wr.ownsRow w1.heap.size 5 1 v acc.length (Lib.byteCells acc) ∧ Below w1.heap.size w1 wr) (fun _ a _ => s.size - (RowKit.intOf a).toNat)
  case atStart => exact ⟨0, [34], rfl, Nat.zero_le _, by simp, by simp, o0, (Below.refl _ _).alloc (Nat.le_refl _) _⟩
  case round =>
   obtain ⟨i, acc, rfl, hi, hacc, hal, hown, hB⟩ := hrel
   have HA := Lib.hid hacc
   clear hacc
   have hBz := hB.size
   by_cases hlt : (i : Int) < (s.size : Int)
   · have hi' : i < s.size := by omega
     have hsn := quote_snoc (list_get s i hi')
     have HSN := Lib.hid hsn
     clear hsn o0
     by_cases h34 : s[i] = 34
     · as_aux_lemma =>
        have u34 : ((s[i].toNat : Int) == 34) = true := by rw [h34]; rfl
        have hl : qByte s[i] = [92, s[i]] := by unfold qByte; rw [if_pos (by rw [h34]; decide)]
        clear h34
        have HL := Lib.hid hl
        clear hl
        go_wp2_with (first
         | (at_builtin; refine wpList_append_own _ rfl (.tmp 32) (.tmp 34) 189 rfl w1.heap.size 5 i5_ _ 1 1 Tryz.underlying189 hi5 hz0 hz1 hz2 rfl (by decide) _ _ _ rfl (hown.alloc _) ⟨wr.heap.size, 0, none⟩ 2 2 (Lib.byteCells [92, s[i]]) rfl rfl (cells_at_new wr (Lib.byteCells [92, s[i]]) 5 _ rfl) (byte_ones _) (by unfold maxLen; omega) (by omega) (by simp; omega) ?_; intro v' w' hown' hg' hnil'
            have HD := (hB.alloc hBz _).grown hg' (by simp; omega) (fun q hq => (hown.lt q hq).1)
            clear hg' hnil'))
        go_roundw
        case rel => exact ⟨i + 1, acc ++ [92, s[i]], by go_num, by omega, by rw [HSN.out, HL.out, HA.out]; simp, by simp; omega, own_bytes hown' rfl rfl, HD⟩
        case measure => simp [RowKit.intOf]; omega
     · skip
       by_cases h92 : s[i] = 92
       · as_aux_lemma =>
          have u34 : ((s[i].toNat : Int) == 34) = false := byte_not h34
          have u92 : ((s[i].toNat : Int) == 92) = true := by rw [h92]; rfl
          have hl : qByte s[i] = [92, s[i]] := by unfold qByte; rw [if_pos (by rw [h92]; decide)]
          clear h34 h92
          have HL := Lib.hid hl
          clear hl
          go_wp2_with (first
           | (at_builtin; refine wpList_append_own _ rfl (.tmp 32) (.tmp 34) 189 rfl w1.heap.size 5 i5_ _ 1 1 Tryz.underlying189 hi5 hz0 hz1 hz2 rfl (by decide) _ _ _ rfl (hown.alloc _) ⟨wr.heap.size, 0, none⟩ 2 2 (Lib.byteCells [92, s[i]]) rfl rfl (cells_at_new wr (Lib.byteCells [92, s[i]]) 5 _ rfl) (byte_ones _) (by unfold maxLen; omega) (by omega) (by simp; omega) ?_; intro v' w' hown' hg' hnil'
              have HD := (hB.alloc hBz _).grown hg' (by simp; omega) (fun q hq => (hown.lt q hq).1)
              clear hg' hnil'))
          go_roundw
          case rel => exact ⟨i + 1, acc ++ [92, s[i]], by go_num, by omega, by rw [HSN.out, HL.out, HA.out]; simp, by simp; omega, own_bytes hown' rfl rfl, HD⟩
          case measure => simp [RowKit.intOf]; omega
       · skip
         by_cases h8 : s[i] = 8
         · as_aux_lemma =>
            have u34 : ((s[i].toNat : Int) == 34) = false := byte_not h34
            have u92 : ((s[i].toNat : Int) == 92) = false := byte_not h92
            have u8 : ((s[i].toNat : Int) == 8) = true := by rw [h8]; rfl
            have hl : qByte s[i] = [92, 98] := by rw [h8]; decide
            clear h34 h92 h8
            have HL := Lib.hid hl
            clear hl
            go_wp2_with (first
             | (at_builtin; refine wpList_append_own _ rfl (.tmp 39) (.tmp 40) 189 rfl w1.heap.size 5 i5_ _ 1 1 Tryz.underlying189 hi5 hz0 hz1 hz2 rfl (by decide) _ _ _ rfl (hown.alloc _) ⟨wr.heap.size, 0, none⟩ 2 2 (Lib.byteCells [92, 98]) rfl rfl (cells_at_new wr (Lib.byteCells [92, 98]) 5 _ rfl) (byte_ones _) (by unfold maxLen; omega) (by omega) (by simp; omega) ?_; intro v' w' hown' hg' hnil'
                have HD := (hB.alloc hBz _).grown hg' (by simp; omega) (fun q hq => (hown.lt q hq).1)
                clear hg' hnil'))
            go_roundw
            case rel => exact ⟨i + 1, acc ++ [92, 98], by go_num, by omega, by rw [HSN.out, HL.out, HA.out]; simp, by simp; omega, own_bytes hown' rfl rfl, HD⟩
            case measure => simp [RowKit.intOf]; omega
         · skip
           by_cases h9 : s[i] = 9
           · as_aux_lemma =>
              have u34 : ((s[i].toNat : Int) == 34) = false := byte_not h34
              have u92 : ((s[i].toNat : Int) == 92) = false := byte_not h92
              have u8 : ((s[i].toNat : Int) == 8) = false := byte_not h8
              have u9 : ((s[i].toNat : Int) == 9) = true := by rw [h9]; rfl
              have hl : qByte s[i] = [92, 116] := by rw [h9]; decide
              clear h34 h92 h8 h9
              have HL := Lib.hid hl
              clear hl
              go_wp2_with (first
               | (at_builtin; refine wpList_append_own _ rfl (.tmp 45) (.tmp 46) 189 rfl w1.heap.size 5 i5_ _ 1 1 Tryz.underlying189 hi5 hz0 hz1 hz2 rfl (by decide) _ _ _ rfl (hown.alloc _) ⟨wr.heap.size, 0, none⟩ 2 2 (Lib.byteCells [92, 116]) rfl rfl (cells_at_new wr (Lib.byteCells [92, 116]) 5 _ rfl) (byte_ones _) (by unfold maxLen; omega) (by omega) (by simp; omega) ?_; intro v' w' hown' hg' hnil'
                  have HD := (hB.alloc hBz _).grown hg' (by simp; omega) (fun q hq => (hown.lt q hq).1)
                  clear hg' hnil'))
              go_roundw
              case rel => exact ⟨i + 1, acc ++ [92, 116], by go_num, by omega, by rw [HSN.out, HL.out, HA.out]; simp, by simp; omega, own_bytes hown' rfl rfl, HD⟩
              case measure => simp [RowKit.intOf]; omega
           · skip
             by_cases h10 : s[i] = 10
             · as_aux_lemma =>
                have u34 : ((s[i].toNat : Int) == 34) = false := byte_not h34
                have u92 : ((s[i].toNat : Int) == 92) = false := byte_not h92
                have u8 : ((s[i].toNat : Int) == 8) = false := byte_not h8
                have u9 : ((s[i].toNat : Int) == 9) = false := byte_not h9
                have u10 : ((s[i].toNat : Int) == 10) = true := by rw [h10]; rfl
                have hl : qByte s[i] = [92, 110] := by rw [h10]; decide
                clear h34 h92 h8 h9 h10
                have HL := Lib.hid hl
                clear hl
                go_wp2_with (first
                 | (at_builtin; refine wpList_append_own _ rfl (.tmp 51) (.tmp 52) 189 rfl w1.heap.size 5 i5_ _ 1 1 Tryz.underlying189 hi5 hz0 hz1 hz2 rfl (by decide) _ _ _ rfl (hown.alloc _) ⟨wr.heap.size, 0, none⟩ 2 2 (Lib.byteCells [92, 110]) rfl rfl (cells_at_new wr (Lib.byteCells [92, 110]) 5 _ rfl) (byte_ones _) (by unfold maxLen; omega) (by omega) (by simp; omega) ?_; intro v' w' hown' hg' hnil'
                    have HD := (hB.alloc hBz _).grown hg' (by simp; omega) (fun q hq => (hown.lt q hq).1)
                    clear hg' hnil'))
                go_roundw
                case rel => exact ⟨i + 1, acc ++ [92, 110], by go_num, by omega, by rw [HSN.out, HL.out, HA.out]; simp, by simp; omega, own_bytes hown' rfl rfl, HD⟩
                case measure => simp [RowKit.intOf]; omega
             · skip
               by_cases h12 : s[i] = 12
               · as_aux_lemma =>
                  have u34 : ((s[i].toNat : Int) == 34) = false := byte_not h34
                  have u92 : ((s[i].toNat : Int) == 92) = false := byte_not h92
                  have u8 : ((s[i].toNat : Int) == 8) = false := byte_not h8
                  have u9 : ((s[i].toNat : Int) == 9) = false := byte_not h9
                  have u10 : ((s[i].toNat : Int) == 10) = false := byte_not h10
                  have u12 : ((s[i].toNat : Int) == 12) = true := by rw [h12]; rfl
                  have hl : qByte s[i] = [92, 102] := by rw [h12]; decide
                  clear h34 h92 h8 h9 h10 h12
                  have HL := Lib.hid hl
                  clear hl
                  go_wp2_with (first
                   | (at_builtin; refine wpList_append_own _ rfl (.tmp 57) (.tmp 58) 189 rfl w1.heap.size 5 i5_ _ 1 1 Tryz.underlying189 hi5 hz0 hz1 hz2 rfl (by decide) _ _ _ rfl (hown.alloc _) ⟨wr.heap.size, 0, none⟩ 2 2 (Lib.byteCells [92, 102]) rfl rfl (cells_at_new wr (Lib.byteCells [92, 102]) 5 _ rfl) (byte_ones _) (by unfold maxLen; omega) (by omega) (by simp; omega) ?_; intro v' w' hown' hg' hnil'
                      have HD := (hB.alloc hBz _).grown hg' (by simp; omega) (fun q hq => (hown.lt q hq).1)
                      clear hg' hnil'))
                  go_roundw
                  case rel => exact ⟨i + 1, acc ++ [92, 102], by go_num, by omega, by rw [HSN.out, HL.out, HA.out]; simp, by simp; omega, own_bytes hown' rfl rfl, HD⟩
                  case measure => simp [RowKit.intOf]; omega
               · skip
                 by_cases h13 : s[i] = 13
                 · as_aux_lemma =>
                    have u34 : ((s[i].toNat : Int) == 34) = false := byte_not h34
                    have u92 : ((s[i].toNat : Int) == 92) = false := byte_not h92
                    have u8 : ((s[i].toNat : Int) == 8) = false := byte_not h8
                    have u9 : ((s[i].toNat : Int) == 9) = false := byte_not h9
                    have u10 : ((s[i].toNat : Int) == 10) = false := byte_not h10
                    have u12 : ((s[i].toNat : Int) == 12) = false := byte_not h12
                    have u13 : ((s[i].toNat : Int) == 13) = true := by rw [h13]; rfl
                    have hl : qByte s[i] = [92, 114] := by rw [h13]; decide
                    clear h34 h92 h8 h9 h10 h12 h13
                    have HL := Lib.hid hl
                    clear hl
                    go_wp2_with (first
                     | (at_builtin; refine wpList_append_own _ rfl (.tmp 63) (.tmp 64) 189 rfl w1.heap.size 5 i5_ _ 1 1 Tryz.underlying189 hi5 hz0 hz1 hz2 rfl (by decide) _ _ _ rfl (hown.alloc _) ⟨wr.heap.size, 0, none⟩ 2 2 (Lib.byteCells [92, 114]) rfl rfl (cells_at_new wr (Lib.byteCells [92, 114]) 5 _ rfl) (byte_ones _) (by unfold maxLen; omega) (by omega) (by simp; omega) ?_; intro v' w' hown' hg' hnil'
                        have HD := (hB.alloc hBz _).grown hg' (by simp; omega) (fun q hq => (hown.lt q hq).1)
                        clear hg' hnil'))
                    go_roundw
                    case rel => exact ⟨i + 1, acc ++ [92, 114], by go_num, by omega, by rw [HSN.out, HL.out, HA.out]; simp, by simp; omega, own_bytes hown' rfl rfl, HD⟩
                    case measure => simp [RowKit.intOf]; omega
                 · skip
                   have u34 : ((s[i].toNat : Int) == 34) = false := byte_not h34
                   have u92 : ((s[i].toNat : Int) == 92) = false := byte_not h92
                   have u8 : ((s[i].toNat : Int) == 8) = false := byte_not h8
                   have u9 : ((s[i].toNat : Int) == 9) = false := byte_not h9
                   have u10 : ((s[i].toNat : Int) == 10) = false := byte_not h10
                   have u12 : ((s[i].toNat : Int) == 12) = false := byte_not h12
                   have u13 : ((s[i].toNat : Int) == 13) = false := byte_not h13
                   have hne : ¬ (s[i] = 34 ∨ s[i] = 92) := fun h => h.elim h34 h92
                   by_cases h32 : s[i].toNat < 32
                   · skip
                     have v1 : decide ((s[i].toNat : Int) < 32) = true := by simp; omega
                     have hl : qByte s[i] = [92, 117, 48, 48, hexD (s[i].toNat / 16), hexD (s[i].toNat % 16)] := by unfold qByte; rw [if_neg hne, if_neg h8, if_neg h9, if_neg h10, if_neg h12, if_neg h13, if_pos h32]
                     clear hne h34 h92 h8 h9 h10 h12 h13
                     have HL := Lib.hid hl
                     clear hl
                     go_wp2
                     have b256 := s[i].toNat_lt
                     clear b256
                     have hwA : IntKind.u8.wrap ((s[i].toNat : Int) / 16) = ((s[i].toNat / 16 : Nat) : Int) := by rw [IntWalk.u8_in _ (by have := s[i].toNat_lt; omega)]; omega
                     have hwB : ((s[i].toNat : Int)).tmod 16 = ((s[i].toNat % 16 : Nat) : Int) := by rw [Int.tmod_eq_emod_of_nonneg (by omega)]; omega
                     have hl1 : s[i].toNat / 16 < 16 := by have := s[i].toNat_lt; omega
                     have hl2 : s[i].toNat % 16 < 16 := by omega
                     have hxA : ∀ (h : ((s[i].toNat : Int) / 16).toNat < (⟨#[48, 49, 50, 51, 52, 53, 54, 55, 56, 57, 97, 98, 99, 100, 101, 102]⟩ : ByteArray).size), ((⟨#[48, 49, 50, 51, 52, 53, 54, 55, 56, 57, 97, 98, 99, 100, 101, 102]⟩ : ByteArray)[((s[i].toNat : Int) / 16).toNat]'h).toNat = (hexD (s[i].toNat / 16)).toNat := fun h => by
                      have e : ((s[i].toNat : Int) / 16).toNat = s[i].toNat / 16 := by omega
                      simp only [e]
                      exact hex_at _ hl1
                     have hxB : ∀ (h : ((s[i].toNat : Int) % 16).toNat < (⟨#[48, 49, 50, 51, 52, 53, 54, 55, 56, 57, 97, 98, 99, 100, 101, 102]⟩ : ByteArray).size), ((⟨#[48, 49, 50, 51, 52, 53, 54, 55, 56, 57, 97, 98, 99, 100, 101, 102]⟩ : ByteArray)[((s[i].toNat : Int) % 16).toNat]'h).toNat = (hexD (s[i].toNat % 16)).toNat := fun h => by
                      have e : ((s[i].toNat : Int) % 16).toNat = s[i].toNat % 16 := by omega
                      simp only [e]
                      exact hex_at _ hl2
                     have HXA := Lib.hid hxA
                     have HXB := Lib.hid hxB
                     clear hxA hxB
                     go_region_held3 (fun _ => True) (exact trivial) ((refine step_append_lies _ (by rfl) _ _ _ (by rfl) w1.heap.size 5 i5_ _ 1 1 Tryz.underlying189 hi5 hz0 hz1 hz2 rfl (by omega) _ _ _ (by rfl) ((hown.alloc _).drew) ⟨wr.heap.size, 0, none⟩ 6 6 (Lib.byteCells [92, 117, 48, 48, hexD (s[i].toNat / 16), hexD (s[i].toNat % 16)]) (by rfl) (by rfl) (World.news_of_block (cs := (Lib.byteCells [92, 117, 48, 48, hexD (s[i].toNat / 16), hexD (s[i].toNat % 16)]).toArray) (t := 5) (fr := (0, 0)) (Eq.trans (heap_alloc_new wr _) (by rw [HXA.out, HXB.out]; rfl))) (byte_ones _) (by omega) (by unfold maxLen; omega) (by omega) (by simp; omega) (wr.heap.size + 1) (by simp) ?_; intro gg cap w2 hown2 hgrow hat hlt))
                     all_goals
                      have HD := ((hB.alloc hBz _).drew).grown hgrow (by simp; omega) (fun q hq => (hown.lt q hq).1)
                      go_wp2
                      refine ⟨⟨i + 1, acc ++ [92, 117, 48, 48, hexD (s[i].toNat / 16), hexD (s[i].toNat % 16)], by go_num, by omega, by rw [HSN.out, HL.out, HA.out]; simp, by simp; omega, own_bytes hown2 rfl rfl, HD⟩, by simp [RowKit.intOf]; omega⟩
                   · as_aux_lemma =>
                     have v1 : decide ((s[i].toNat : Int) < 32) = false := by simp; omega
                     have hl : qByte s[i] = [s[i]] := by unfold qByte; rw [if_neg hne, if_neg h8, if_neg h9, if_neg h10, if_neg h12, if_neg h13, if_neg h32]
                     clear hne h32 h34 h92 h8 h9 h10 h12 h13
                     have HL := Lib.hid hl
                     clear hl
                     go_wp2_with (first
                      | (at_builtin; refine wpList_append_own _ rfl (.tmp 21) (.tmp 23) 189 rfl w1.heap.size 5 i5_ _ 1 1 Tryz.underlying189 hi5 hz0 hz1 hz2 rfl (by decide) _ _ _ rfl (hown.alloc _) ⟨wr.heap.size, 0, none⟩ 1 1 (Lib.byteCells [s[i]]) rfl rfl (cells_at_new wr (Lib.byteCells [s[i]]) 5 _ rfl) (byte_ones _) (by unfold maxLen; omega) (by omega) (by simp; omega) ?_; intro v' w' hown' hg' hnil'
                         have HD := (hB.alloc hBz _).grown hg' (by simp; omega) (fun q hq => (hown.lt q hq).1)
                         clear hg' hnil'))
                     go_roundw
                     case rel => exact ⟨i + 1, acc ++ [s[i]], by go_num, by omega, by rw [HSN.out, HL.out, HA.out]; simp, by simp; omega, own_bytes hown' rfl rfl, HD⟩
                     case measure => simp [RowKit.intOf]; omega
   · have hta : s.data.toList.take i = s.data.toList := List.take_of_length_le (by rw [← Lib.size_eq]; omega)
     have hq : acc ++ [34] = Q := by rw [HA.out, hta, ← HQ.out]; rfl
     have HQ2 := Lib.hid hq
     clear hta hq o0
     go_wp2_with (first
      | (at_builtin; refine wpList_append_own _ rfl (.tmp 80) (.tmp 81) 189 rfl w1.heap.size 5 i5_ _ 1 1 Tryz.underlying189 hi5 hz0 hz1 hz2 rfl (by decide) _ _ _ rfl (hown.alloc _) ⟨wr.heap.size, 0, none⟩ 1 1 (Lib.byteCells [34]) rfl rfl (cells_at_new wr (Lib.byteCells [34]) 5 _ rfl) (byte_ones _) (by unfold maxLen; omega) (by omega) (by simp; omega) ?_; intro v' w' hown' hg' hnil'
         have HD := (hB.alloc hBz _).grown hg' (by simp; omega) (fun q hq => (hown.lt q hq).1)
         have hback := back_row w' _ v' (acc ++ [34]) (own_bytes hown' rfl rfl) (by simp)
         rw [HQ2.out] at hback
         obtain ⟨p, cap, rfl⟩ := row_shape hown'
         clear hg' hnil'))
     go_ret2
     exact ⟨rfl, HD⟩
end Go.Proofs.Jt
