/- DocsCopies' walk. -/
import Derived.Test.YtcenfckjkboabaaGreatDoorE16
namespace Go.Proofs.Dc
open Go.RowKit Go.Proofs Go.Lib Go.Maps

/-- copies, on both sides -/
theorem two_copy {w w2 w3 : World} {b2 M2 r2 : Nat} {v2 : Value} {L : List Doc} (h2 : DV w2 b2 M2 L) (hb2 : Below w.heap.size w w2) (l1 : w.heap.size ≤ b2) (l2 : w.heap.size ≤ M2) (h3 : RV w3 r2 w2.heap.size v2 L) (hb3 : Below w2.heap.size w2 w3) :
    Two w.heap.size w3 b2 M2 r2 v2 L L := by
  have hl := h2.lt
  have hr := h3.lo
  have hv := h3.row.lt
  refine ⟨h2.below hb3, ⟨h3.hd, h3.row.mono hb2.size, Nat.le_trans hb2.size hr⟩, l2, l1, by omega, by omega, ?_, ?_, Nat.le_trans hb2.size hb3.size⟩
  · intro e; have := (hv _ e).1; omega
  · intro e; have := (hv _ e).1; omega
set_option maxRecDepth 100000 in
set_option maxHeartbeats 8000000 in
theorem copies_walk (w : World) (hT : Tabs w) (p : Option Addr) (n c : Nat) (hn2 : n ≤ maxLen) (hl : ∃ l : List Act, n = l.length ∧ ActsAt w p l) (p' : Option Addr) (n' c' : Nat) (hn2' : n' ≤ maxLen) (hl' : ∃ l : List Act, n' = l.length ∧ ActsAt w p' l) :
    Calls Tryz.prog 4 #[.slice p n c, .slice p' n' c'] w fun e w' => e = .returned (.bool true) ∧ Below w.heap.size w w' := by
  obtain ⟨l, hn, hI⟩ := hl
  obtain ⟨l', hn', hI'⟩ := hl'
  have hw := works_any
  have hlg := large_any w p n c l hn hn2 hI
  have hlg' := large_any w p' n' c' l' hn' hn2' hI'
  cases hB : largeB l with
  | true =>
    rw [hB] at hlg
    clear hn hI hB hn' hI' hlg'
    go_enter Tryz.func4, Tryz.ntmps4
    go_wp2_with (first
      | (go_at_call 9; refine hlg.mono ?_; rintro e w1 ⟨rfl, hww⟩; subst w1)
      | (go_at_call 10; refine (hw _ hT).mono ?_; rintro e w2 ⟨rfl, hb2⟩))
    go_ret
    exact ⟨rfl, hb2⟩
  | false =>
  rw [hB] at hlg
  cases hB' : largeB l' with
  | true =>
    rw [hB'] at hlg'
    clear hn hI hB hn' hI' hB'
    go_enter Tryz.func4, Tryz.ntmps4
    go_wp2_with (first
      | (have GU := hlg; clear GU; go_at_call 9; refine hlg.mono ?_; rintro e w1 ⟨rfl, hww⟩; subst w1; clear hlg)
      | (go_at_call 9; refine hlg'.mono ?_; rintro e w1 ⟨rfl, hww⟩; subst w1)
      | (go_at_call 10; refine (hw _ hT).mono ?_; rintro e w2 ⟨rfl, hb2⟩))
    go_ret
    exact ⟨rfl, hb2⟩
  | false =>
  rw [hB'] at hlg'
  have hsm := small_of hB
  have hsm' := small_of hB'
  have HN := Lib.hid hn
  have HI := Lib.hid hI
  have HS := Lib.hid hsm
  have HN' := Lib.hid hn'
  have HI' := Lib.hid hI'
  have HS' := Lib.hid hsm'
  have hn12 : n ≤ 12 := by have := hsm.2; omega
  have hn12' : n' ≤ 12 := by have := hsm'.2; omega
  have hlo := hT.lo
  clear hn hI hB hsm hn' hI' hB' hsm'
  go_enter Tryz.func4, Tryz.ntmps4
  go_wp2_with (first
    | (have GU := hlg; clear GU; go_at_call 9; refine hlg.mono ?_; rintro e w1 ⟨rfl, hww⟩; subst w1; clear hlg)
    | (go_at_call 9; refine hlg'.mono ?_; rintro e w1 ⟨rfl, hww⟩; subst w1)
    | (go_at_call 11; refine (new_any _).mono ?_; rintro e w1 ⟨b, M, rfl, hd1, hb1, hbb, hMM⟩))
  have T0 := two_start hd1 hb1 hbb hMM
  have B0 : Below w.heap.size w (w1.alloc (.cells #[.slice none 0 0] 30)) := hb1.alloc hb1.size _
  clear hlg'
  go_loopw [7] (fun iv wr => ∃ (k : Nat) (v : Value) (L : List Doc), iv = .int .i64 k ∧ k ≤ n ∧ Inv L ∧ Two w.heap.size wr b M w1.heap.size v L L ∧ Below w.heap.size w wr) (fun iv _ => n - (RowKit.intOf iv).toNat)
  case atStart => exact ⟨0, _, [], rfl, Nat.zero_le _, Inv.nil, T0, B0⟩
  case round =>
    obtain ⟨k, v, L, rfl, hk, hInv, T, hB⟩ := hrel
    clear T0 B0 hd1 hb1
    by_cases hkn : (k : Int) < (n : Int)
    · obtain ⟨x, hx⟩ : ∃ x, l[k]? = some x := ⟨_, List.getElem?_eq_getElem (by have := HN.out; omega)⟩
      have hok := HS.out.1 x (List.mem_of_getElem? hx)
      obtain ⟨a, rfl, hA0⟩ := HI.out k x hx
      have HC : Hid (∀ w', Below w.heap.size w w' → ActAt w' (a.add (k * 7)) x) := Lib.hid fun w' hb => hA0.below hb
      have hdo := do_any wr (hT.below hB) w.heap.size b M w1.heap.size v L (by omega) T hInv x hok hA0.flo hA0.fhi hA0.len (fun w' hb2 => (HC.out w' (hB.trans hb2)).chgs)
      have HI2 := Lib.hid (hInv.act x)
      have HDO := Lib.hid hdo
      obtain ⟨t0, t1, t2, t3, t4, t5, t6⟩ := act_cells (HC.out wr hB)
      clear hdo hInv hA0 hx hok
      unfold actVal at HDO
      go_wp2_with (first
        | (go_at_call 14; refine HDO.out.mono ?_; rintro e w4 ⟨rfl, v4, T4, S4⟩; have B4 := hB.trans (T.step S4)))
      go_roundw
      case rel => exact ⟨k + 1, v4, actL L x, by go_num, by omega, HI2.out, T4, B4⟩
      case measure => simp [RowKit.intOf]; omega
    · have hc1 := copy_any wr b M L T.dv
      have hc2 := fun w2 (hb : Below wr.heap.size wr w2) => refCopy_any w2 w1.heap.size w.heap.size v L (T.rv.below hb) (by have := hInv.len; omega)
      have hal := fun w2 B b M r v (T : Two B w2 b M r v L L) => alike_any w2 B b M r v L T hInv ⟨#[]⟩ (by decide)
      have HC1 := Lib.hid hc1
      have HC2 := Lib.hid hc2
      have HAL := Lib.hid hal
      have HIV := Lib.hid hInv
      clear hc1 hc2 hal hInv
      go_wp2_with (first
        | (go_at_call 16; refine HC1.out.mono ?_; rintro e w2 ⟨b2, M2, rfl, hd2, hb2, l1, l2⟩)
        | (go_at_call 17; refine (HC2.out _ hb2).mono ?_; rintro e w3 ⟨r2, v2, rfl, hr3, hb3⟩; have TC := two_copy hd2 hb2 l1 l2 hr3 hb3; have hb23 := hb2.trans (hb3.mono hb2.size))
        | (go_at_call 15; refine (HAL.out _ _ _ _ _ _ TC).mono ?_; rintro e w4 ⟨rfl, hb4⟩; have TC4 := TC.below hb4; have BC4 := hb23.trans (hb4.mono hb23.size)))
      have T4 := T.below BC4
      have B4 := hB.trans (BC4.mono hB.size)
      clear TC hb23 hb4 hr3 hb3 hd2 hb2
      obtain ⟨W1, hW1⟩ : ∃ W1, wr = W1 := ⟨_, rfl⟩
      simp only [hW1] at *
      clear hW1
      go_loopw [10] (fun iv wx => ∃ (k : Nat) (v2 : Value) (L2 : List Doc), iv = .int .i64 k ∧ k ≤ n' ∧ Inv L2 ∧ Two W1.heap.size wx b2 M2 r2 v2 L2 L2 ∧ Below W1.heap.size W1 wx) (fun iv _ => n' - (RowKit.intOf iv).toNat)
      case atStart => exact ⟨0, v2, L, rfl, Nat.zero_le _, HIV.out, TC4, BC4⟩
      case round =>
        obtain ⟨k2, v3, L2, rfl, hk2, hInv2, TX, hBX⟩ := hrel
        have hBW := hB.trans (hBX.mono hB.size)
        by_cases hkn2 : (k2 : Int) < (n' : Int)
        · obtain ⟨x, hx⟩ : ∃ x, l'[k2]? = some x := ⟨_, List.getElem?_eq_getElem (by have := HN'.out; omega)⟩
          have hok := HS'.out.1 x (List.mem_of_getElem? hx)
          obtain ⟨a, rfl, hA0⟩ := HI'.out k2 x hx
          have HC : Hid (∀ w', Below w.heap.size w w' → ActAt w' (a.add (k2 * 7)) x) := Lib.hid fun w' hb => hA0.below hb
          have hdo := do_any wr (hT.below hBW) W1.heap.size b2 M2 r2 v3 L2 (by have := hB.size; omega) TX hInv2 x hok hA0.flo hA0.fhi hA0.len (fun w' hb2 => (HC.out w' (hBW.trans (hb2.mono hB.size))).chgs)
          have HI2 := Lib.hid (hInv2.act x)
          have HDO := Lib.hid hdo
          obtain ⟨t0, t1, t2, t3, t4, t5, t6⟩ := act_cells (HC.out _ hBW)
          clear hdo hInv2 hA0 hx hok TC4 T4
          unfold actVal at HDO
          go_wp2_with (first
            | (go_at_call 14; refine HDO.out.mono ?_; rintro e w4 ⟨rfl, v4, T4, S4⟩; have B4 := hBX.trans (TX.step S4)))
          go_roundw
          case rel => exact ⟨k2 + 1, v4, actL L2 x, by go_num, by omega, HI2.out, T4, B4⟩
          case measure => simp [RowKit.intOf]; omega
        · have TW := T.below hBX
          have hal2 := fun w2 (T : Two W1.heap.size w2 b2 M2 r2 v3 L2 L2) => alike_any w2 _ b2 M2 r2 v3 L2 T hInv2 ⟨#[]⟩ (by decide)
          have HAL2 := Lib.hid hal2
          clear hal2 TC4 T4 hInv2
          go_wp2_with (first
            | (have GU := TW; clear GU; go_at_call 15; refine (HAL.out _ _ _ _ _ _ TW).mono ?_; rintro e w5 ⟨rfl, hb5⟩; have TX5 := TX.below hb5; have B5 := hBW.trans (hb5.mono hBW.size); clear TW)
            | (go_at_call 15; refine (HAL2.out _ TX5).mono ?_; rintro e w6 ⟨rfl, hb6⟩; have B6 := B5.trans (hb6.mono B5.size))
            | (go_at_call 10; refine (hw _ (hT.below B6)).mono ?_; rintro e w7 ⟨rfl, hb7⟩))
          go_ret
          exact ⟨rfl, B6.trans (hb7.mono B6.size)⟩
end Go.Proofs.Dc
