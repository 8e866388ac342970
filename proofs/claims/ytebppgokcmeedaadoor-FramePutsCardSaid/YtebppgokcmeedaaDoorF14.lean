/- The reference's Put; FramePuts. -/
import Derived.Test.YtebppgokcmeedaaDoorF10
import Derived.Laws.MakeOwn
import Derived.Laws.OwnMore
namespace Go.Proofs.Fr
open Go.RowKit Go.Maps Go.Proofs Go.Lib

theorem dec_small {m : Nat} (h : m < 10) : decDigits m = [UInt8.ofNat (48 + m)] := by rw [decDigits, dif_pos h]
theorem dec_big {m : Nat} (h : ¬ m < 10) : decDigits m = decDigits (m / 10) ++ [UInt8.ofNat (48 + m % 10)] := by rw [decDigits, dif_neg h]
theorem one_back (w : World) (g : Nat) (k : Nat) (hk : k < 10) (h : w.cell? ⟨g, 0, none⟩ = some (.int .u8 (48 + (k : Int)))) : (convert 48 9 (.slice (some ⟨g, 0, none⟩) 1 1)).run Tryd.prog w = .ok (.string ⟨#[UInt8.ofNat (48 + k)]⟩) w := by
  refine run_convert_bytes_back _ 48 9 5 ⟨g, 0, none⟩ 1 [UInt8.ofNat (48 + k)] (by kernel_rfl) (by kernel_rfl) (by kernel_rfl) fun j hj => ?_
  have e : j = 0 := by simp at hj; exact hj
  subst e
  rw [show (⟨g, 0, none⟩ : Addr).add 0 = ⟨g, 0, none⟩ from rfl, h]
  simp
  omega
set_option maxRecDepth 100000 in
set_option maxHeartbeats 1000000 in
theorem put_ref (b : ByteArray) (w : World) (hb : b.size ≤ 1000000) : Calls Tryd.prog 21 #[.string b] w fun e w' => e = .returned (.string ⟨(putL b.data.toList).toArray⟩) ∧ Below w.heap.size w w' := by
  go_enter Tryd.func21, Tryd.ntmps21
  go_wp2
  go_loopw [3, 4] (fun n d wr => ∃ (m : Nat) (D : ByteArray), n = .int .i64 m ∧ m ≤ b.size ∧ d = .string D ∧ decDigits m ++ D.data.toList = decDigits b.size ∧ Below w.heap.size w wr) (fun n _ _ => (RowKit.intOf n).toNat)
  case atStart => exact ⟨b.size, ⟨#[]⟩, rfl, Nat.le_refl _, rfl, by simp, Below.refl _ _⟩
  case round =>
    obtain ⟨m, D, rfl, hm, rfl, hdd, hB⟩ := hrel
    have hD : D.size ≤ 20 := by
      have h1 := congrArg List.length hdd
      rw [List.length_append, decDigits_length, decDigits_length, ← Lib.size_eq] at h1
      have h2 : nDigits b.size ≤ 7 := by
        by_cases h : b.size < 1000000
        · have := nDigits_le h; omega
        · have e : b.size = 1000000 := by omega
          rw [e]; decide +kernel
      omega
    obtain ⟨k, hk, hkm⟩ : ∃ k : Nat, k < 10 ∧ m % 10 = k := ⟨m % 10, by omega, rfl⟩
    have hkz : (m : Int) % 10 = (k : Int) := by omega
    obtain ⟨V, hV⟩ : ∃ V, wr.alloc (.cells #[.int .u8 (48 + (k : Int))] 5) = V := ⟨_, rfl⟩
    have hback : (convert 48 9 (.slice (some ⟨wr.heap.size, 0, none⟩) 1 1)).run Tryd.prog V = .ok (.string ⟨#[UInt8.ofNat (48 + k)]⟩) V := by
      refine one_back V wr.heap.size k hk ?_
      rw [← hV]
      simp
    have bV : Below w.heap.size w V := by rw [← hV]; exact hB.trans ((Below.refl wr.heap.size wr).alloc (Nat.le_refl _) _ |>.mono hB.size)
    have hs1 : ((⟨#[UInt8.ofNat (48 + k)]⟩ : ByteArray)).size = 1 := rfl
    obtain ⟨E, hE⟩ : ∃ E : ByteArray, (⟨#[UInt8.ofNat (48 + k)]⟩ : ByteArray) = E := ⟨_, rfl⟩
    have hEl : E.data.toList = [UInt8.ofNat (48 + k)] := by rw [← hE]
    rw [hE] at hback hs1
    have hED : (E.size : Int) + (D.size : Int) ≤ 281474976710656 := by omega
    by_cases h10 : m < 10
    · have hq : (m : Int) / 10 = 0 := by omega
      have hnew : decDigits b.size = (E ++ D).data.toList := by
        rw [ByteArray.data_append, Array.toList_append, hEl, ← hdd, dec_small h10]
        rw [show m = k by omega]
      have hfin : (⟨#[67, 111, 110, 116, 101, 110, 116, 45, 76, 101, 110, 103, 116, 104, 58, 32]⟩ : ByteArray) ++ (E ++ D) ++ ⟨#[13, 10, 13, 10]⟩ ++ b = ⟨(putL b.data.toList).toArray⟩ := by
        apply ByteArray.ext
        apply Array.toList_inj.1
        rw [putL_eq]
        unfold headPut
        rw [← Lib.size_eq, hnew]
        simp only [ByteArray.data_append, Array.toList_append, end4, List.append_assoc]
      have hs2 : (E ++ D).size ≤ 21 := by rw [ByteArray.size_append]; omega
      have HF := Lib.hid hfin
      obtain ⟨X, hX⟩ : ∃ X, E ++ D = X := ⟨_, rfl⟩
      rw [hX] at HF hs2
      clear hfin hnew hdd hE hEl hs1
      go_wp2
      go_ret
      exact ⟨by rw [HF.out]; rfl, bV⟩
    · have hq : ¬ (m : Int) / 10 = 0 := by omega
      have hnew : decDigits (m / 10) ++ (E ++ D).data.toList = decDigits b.size := by
        rw [ByteArray.data_append, Array.toList_append, hEl, ← hdd, dec_big h10, hkm, List.append_assoc]
      have HN := Lib.hid hnew
      clear hnew hdd hE hEl hs1 hkm
      go_wp2
      go_roundw
      case rel => exact ⟨m / 10, E ++ D, by go_num, by omega, rfl, HN.out, bV⟩
      case measure => simp [RowKit.intOf]; omega
theorem info5 : (Tryd.prog.info? 5).map (fun i => (i.zero, i.size, i.bytes)) = some (some (.int .u8 0), 1, 1) := by kernel_rfl
/-- so many bytes 0 as a text -/
theorem zeros_run (w : World) (m : Nat) (hm : m ≤ 1000000) : ∃ V, (Instr.makeSlice 48 (.int .u32 (m : Int)) (.int .u32 (m : Int))).run Tryd.prog w = .ok (.slice (some ⟨w.heap.size, 0, none⟩) m m) V ∧ Below w.heap.size w V ∧
    (convert 48 9 (.slice (some ⟨w.heap.size, 0, none⟩) m m)).run Tryd.prog V = .ok (.string ⟨(List.replicate m (0 : UInt8)).toArray⟩) V := by
  obtain ⟨i, hi, hz0, hz1, hz2⟩ := info_parts info5
  have hr := Go.run_makeSlice w (P := Tryd.prog) 48 5 i _ Tryd.underlying48 hi hz0 .u32 .u32 (m : Int) (m : Int) (by omega) (Int.le_refl _) (by rw [hz1]; simp; omega) (by rw [hz2]; omega) (by omega)
  rw [hz1, Int.toNat_natCast, Nat.mul_one] at hr
  refine ⟨_, hr, (Below.refl _ _).alloc (Nat.le_refl _) _, ?_⟩
  have hb := run_convert_bytes_back (P := Tryd.prog) (w.alloc (.cells (madeCells (Value.cells (.int .u8 0)) m) 5)) 48 9 5 ⟨w.heap.size, 0, none⟩ m (List.replicate m (0 : UInt8)) (by kernel_rfl) (by kernel_rfl) (by kernel_rfl) fun j hj => ?_
  · rw [List.length_replicate] at hb
    exact hb
  · rw [List.length_replicate] at hj
    have e : (⟨w.heap.size, 0, none⟩ : Addr).add j = ⟨w.heap.size, j, none⟩ := by simp [Addr.add]; omega
    rw [e, cell_of_row _ _ j _ _ _ (alloc_new w _ _ rfl), ← Array.getElem?_toList]
    have : Value.cells (.int .u8 0) = #[.int .u8 0] := rfl
    rw [this, toList_madeCells_one, List.getElem?_replicate_of_lt hj]
    simp
set_option maxRecDepth 100000 in
set_option maxHeartbeats 4000000 in
theorem puts_walk (s0 : ByteArray) (z : Int) (w : World) (hT : MaxV w) (hTen : TenV w) (hs0 : s0.size ≤ 9223372036854775807) (hz : 0 ≤ z ∧ z ≤ 4294967295) : Calls Tryd.prog 6 #[.string s0, .int .u32 z] w fun e w' => e = .returned (.bool true) ∧ Below w.heap.size w w' := by
  have hcut := cut_any s0 w hs0
  obtain ⟨s, hs⟩ : ∃ s, s0.extract 0 (min s0.size 3000) = s := ⟨_, rfl⟩
  have hsz : s.size ≤ 3000 := by rw [← hs, ByteArray.size_extract]; omega
  rw [hs] at hcut
  clear hs hs0
  obtain ⟨m, hm, hml⟩ : ∃ m : Nat, z % 524288 = (m : Int) ∧ m < 524288 := ⟨(z % 524288).toNat, by omega, by omega⟩
  obtain ⟨V, hmk, bV, hcv⟩ := zeros_run w m (by omega)
  obtain ⟨L, hL⟩ : ∃ L : ByteArray, (⟨(List.replicate m (0 : UInt8)).toArray⟩ : ByteArray) = L := ⟨_, rfl⟩
  have hLs : L.size ≤ 524288 := by rw [← hL, size_mk', List.length_replicate]; omega
  rw [hL] at hcv
  have p1 := fun w hw => put_any s w (by omega) hw
  have p2 := fun w => put_ref s w (by omega)
  have p3 := fun w hw => put_any L w (by omega) hw
  have p4 := fun w => put_ref L w (by omega)
  obtain ⟨X, hX⟩ : ∃ X : ByteArray, (⟨(putL s.data.toList).toArray⟩ : ByteArray) = X := ⟨_, rfl⟩
  obtain ⟨Y, hY⟩ : ∃ Y : ByteArray, (⟨(putL L.data.toList).toArray⟩ : ByteArray) = Y := ⟨_, rfl⟩
  rw [hX] at p1 p2
  rw [hY] at p3 p4
  clear hX hY hL
  go_enter Tryd.func6, Tryd.ntmps6
  go_wp2_with (first
    | (go_at_call 10; refine hcut.mono ?_; rintro e wC ⟨rfl, hw⟩; subst hw)
    | (have GU := b4; clear GU; go_at_call 17; refine (awake_any _ (hT.below b4)).mono ?_; rintro e w5 ⟨rfl, b5⟩)
    | (have GU := b3; clear GU; go_at_call 21; refine (p4 _).mono ?_; rintro e w4 ⟨rfl, hb4⟩
       have b4 := b3.trans (hb4.mono b3.size)
       clear hb4)
    | (have GU := b2; clear GU; go_at_call 20; refine (p3 _ (hTen.below b2)).mono ?_; rintro e w3 ⟨rfl, hb3⟩
       have b3 := b2.trans (hb3.mono b2.size)
       clear hb3)
    | (go_at_call 21; refine (p2 _).mono ?_; rintro e w2 ⟨rfl, hb2⟩
       have b2 := b1.trans (hb2.mono b1.size)
       clear hb2)
    | (go_at_call 20; refine (p1 _ (hTen.below bV)).mono ?_; rintro e w1 ⟨rfl, hb1⟩
       have b1 := bV.trans (hb1.mono bV.size)
       clear hb1))
  go_ret
  exact ⟨rfl, b4.trans (b5.mono b4.size)⟩
end Go.Proofs.Fr
