/- strings.IndexAny at the two bytes 13, 10: the first place of either, in any text. -/
import Derived.Test.YtcenfckjkboabaaDoorX1
import Derived.Lib.IndexAny
import Derived.RangeFuncRecord
import Derived.RangeFuncKeeps
namespace Go.Proofs.YtcenfckjkboabaaDoor
open Go.RowKit Go.Proofs.Utf Go.Lib

theorem next_in {P : Program} (W : World) (b : Nat) (s : ByteArray) (pos : Nat) (ty : TypeId) (hb : W.heap[b]? = some (.stringIter s pos)) (h : pos < s.size) :
    (Instr.next (.pointer (some ⟨b, 0, none⟩)) true ty).run P W = .ok (.tuple #[.bool true, .int .i64 pos, .int .i32 (Utf8.decode s pos).1]) (W.putObj b (.stringIter s (pos + (Utf8.decode s pos).2))) := by
  simp only [Instr.next, getObj, setObj, Sem.run_bind, Sem.run, hb, Result.andThen, h, if_true]
  simp [goInt]
  rfl
theorem next_out {P : Program} (W : World) (b : Nat) (s : ByteArray) (pos : Nat) (ty : TypeId) (hb : W.heap[b]? = some (.stringIter s pos)) (h : ¬ pos < s.size) :
    (Instr.next (.pointer (some ⟨b, 0, none⟩)) true ty).run P W = .ok (.tuple #[.bool false]) W := by
  simp [Instr.next, getObj, Sem.run, hb, h]
theorem below_put {n : Nat} {a W : World} {b : Nat} {o o' : Obj} (h : Below n a W) (hb : W.heap[b]? = some o) (hn : n ≤ b) : Below n a (W.putObj b o') :=
  h.grown (grownBy_putObj' W b o') (Nat.le_trans hn (by have := (Array.getElem?_eq_some_iff.1 hb).1; omega)) (fun k e => by cases e; exact hn)
theorem rune_any (r : Int) (w : World) (h : 128 ≤ r) (hp : IsPoint r) : Calls Tryd.prog 98 #[.string crlf, .int .i32 r] w fun e w' => e = .returned (.int .i64 (-1)) ∧ Below w.heap.size w w' := by
  by_cases e : r = 65533
  · subst e; exact rune_bad w
  · exact rune_big r w h hp e
theorem iter_new (w : World) (s : ByteArray) (pos : Nat) : (w.iter s pos).heap[w.heap.size]? = some (.stringIter s pos) := World.iter_heap w s pos
theorem heap_kept {wr w1 : World} {b : Nat} {o : Obj} (h : wr.heap[b]? = some o) (hb : Below wr.heap.size wr w1) : w1.heap[b]? = some o := by
  rw [hb.block b (Array.getElem?_eq_some_iff.1 h).1, h]
theorem iterPos_of {w : World} {k : Nat} {s : ByteArray} {p : Nat} (h : w.heap[k]? = some (.stringIter s p)) : w.iterPos k = p := by simp [World.iterPos, h]

set_option maxHeartbeats 8000000 in
set_option maxRecDepth 1000000 in
theorem indexAny_short (s : ByteArray) (w : World) (h8 : s.size ≤ 8) : Calls Tryd.prog 95 #[.string s, .string crlf] w fun e w' => e = .returned (.int .i64 (indexAny s.data.toList [13, 10])) ∧ Below w.heap.size w w' := by
  have h8z : decide ((8 : Int) < (s.size : Int)) = false := decide_eq_false (by omega)
  unfold crlf
  go_enter Tryd.func95, Tryd.ntmps95
  go_wp2_with (go_at_call 99; refine (Tryd.strings_shouldUseASCIISet _ _).mono ?_; rintro e w' ⟨rfl, hw⟩; rw [hw, h8z])
  go_loopw [9, 10] (fun _ _ wx => ∃ i : Nat, wx.heap[w.heap.size]? = some (.stringIter s i) ∧ i ≤ s.size ∧ NoAny s.data.toList [13, 10] i ∧ Below w.heap.size w wx) (fun _ _ wx => s.size - wx.iterPos w.heap.size)
  case atStart => exact ⟨0, iter_new _ _ _, Nat.zero_le _, NoAny.zero _ _, below_iter _ _ _⟩
  case round =>
    obtain ⟨i, hit, hi, hno, hB⟩ := hrel
    have HN := Lib.hid hno
    clear hno
    by_cases hp : i < s.size
    · have hnx : ∀ ty, (Instr.next (.pointer (some ⟨w.heap.size, 0, none⟩)) true ty).run Tryd.prog wr = _ := fun ty => next_in wr _ s i ty hit hp
      obtain ⟨x, hx⟩ : ∃ x : UInt8, s[i]'hp = x := ⟨_, rfl⟩
      have hxl : s.data.toList[i]? = some x := by rw [← hx]; exact data_getElem? s i hp
      have hxd : (s.data.toList.drop i).getD 0 0 = x := by simp [hxl]
      have hle := dec_le s i hp
      have hpos := dec_pos s i
      have hBp := fun p => below_put (o' := .stringIter s p) hB hit (Nat.le_refl _)
      have hip : ∀ p, (wr.putObj w.heap.size (.stringIter s p)).heap[w.heap.size]? = some (.stringIter s p) := fun p => World.putObj_heap_same (Array.getElem?_eq_some_iff.1 hit).1
      by_cases hs : x.toNat < 128
      · have hdec : Utf8.decode s i = (x.toNat, 1) := by rw [decode_ascii s i hp (by rw [hx]; exact hs), hx]
        rw [hdec] at hnx
        have hcon := contains_iff_indexByte [13, 10] x
        have hback : ((x.toNat : Int)).toNat.toUInt8 = x := by simp
        cases hin : ([13, 10] : List UInt8).contains x
        · rw [hin] at hcon
          have hlt : ¬ ((0 : Int) ≤ indexByte [13, 10] x) := of_decide_eq_false hcon.symm
          clear hcon
          go_wp2_with (go_at_call 98; refine (Tryd.strings_IndexRune_ascii _ _ _ (by omega) (by omega)).mono ?_; rintro e w' ⟨rfl, hw⟩; rw [hw, hback])
          go_roundw
          case rel => exact ⟨i + 1, hip _, by omega, HN.out.succ hxl hin, hBp _⟩
          case measure => rw [iterPos_of hit, iterPos_of (hip _)]; omega
        · rw [hin] at hcon
          have hge : (0 : Int) ≤ indexByte [13, 10] x := of_decide_eq_true hcon.symm
          clear hcon
          go_wp2_with (go_at_call 98; refine (Tryd.strings_IndexRune_ascii _ _ _ (by omega) (by omega)).mono ?_; rintro e w' ⟨rfl, hw⟩; rw [hw, hback])
          go_ret
          exact ⟨by rw [indexAny_hit HN.out hxl hin]; rfl, hBp _⟩
      · have hbig := dec_big (s.data.toList.drop i) (by rw [List.length_drop, ← size_eq]; omega) (by rw [hxd]; omega)
        rw [decodeL_drop] at hbig
        obtain ⟨hb1, hb2, hb3⟩ := hbig
        have HB3 := Lib.hid hb3
        clear hb3
        go_wp2_with (go_at_call 98; refine (rune_any _ _ (by omega) hb2).mono ?_; rintro e w' ⟨rfl, hw⟩)
        go_roundw
        case rel =>
          refine ⟨i + (Utf8.decode s i).2, heap_kept (hip _) hw, hle, ?_, (hBp (i + (Utf8.decode s i).2)).trans (hw.mono (hBp (i + (Utf8.decode s i).2)).size)⟩
          intro j b hj hb
          by_cases hji : j < i
          · exact HN.out j b hji hb
          · have := HB3.out (j - i) (by omega)
            rw [List.getD_eq_getElem?_getD, List.getElem?_drop, show i + (j - i) = j by omega, hb] at this
            simp at this
            cases hc : ([13, 10] : List UInt8).contains b with
            | false => rfl
            | true => exfalso; simp at hc; rcases hc with rfl | rfl <;> simp at this
        case measure => rw [iterPos_of hit, iterPos_of (heap_kept (hip _) hw)]; omega
    · have hnx : ∀ ty, (Instr.next (.pointer (some ⟨w.heap.size, 0, none⟩)) true ty).run Tryd.prog wr = _ := fun ty => next_out wr _ s i ty hit hp
      go_wp2
      go_ret
      have he : i = s.size := by omega
      subst he
      exact ⟨by rw [indexAny_none (by rw [← size_eq]; exact HN.out)]; rfl, hB⟩
theorem zero71 : ∀ w, (zeroValue 152).run Tryd.prog w = .ok (.agg (Array.replicate 256 (.bool false))) w := (zero_of_info (by kernel_rfl : (Tryd.prog.info? 152).map (fun i => (i.zero, i.size)) = some (some (.agg (Array.replicate 256 (.bool false))), 256))).1
theorem indexAny_any (s : ByteArray) (w : World) (hs : s.size < 4294967281) : Calls Tryd.prog 95 #[.string s, .string crlf] w fun e w' => e = .returned (.int .i64 (indexAny s.data.toList [13, 10])) ∧ Below w.heap.size w w' := by
  by_cases h8 : s.size ≤ 8
  · exact indexAny_short s w h8
  · refine (Tryd.strings_IndexAny_long zero71 s crlf w (by decide) (by omega) hs (by decide) ?_).mono ?_
    · intro j b hb
      match j, hb with
      | 0, hb => cases hb; decide
      | 1, hb => cases hb; decide
      | j + 2, hb => simp [crlf] at hb
    · rintro e w' ⟨rfl, rfl⟩
      exact ⟨rfl, ((Below.refl _ w).alloc (Nat.le_refl _) _).alloc (by simp) _⟩
end Go.Proofs.YtcenfckjkboabaaDoor
