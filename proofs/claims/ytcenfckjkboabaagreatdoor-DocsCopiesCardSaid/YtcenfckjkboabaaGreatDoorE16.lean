/- DocsPlays' walk. -/
import Derived.Test.YtcenfckjkboabaaGreatDoorE15
namespace Go.Proofs.Dc
open Go.RowKit Go.Proofs Go.Lib Go.Maps

/-- nothing open, on both sides -/
theorem two_start {w w1 : World} {b M : Nat} (hd : DV w1 b M []) (hb : Below w.heap.size w w1) (h1 : w.heap.size ≤ b) (h2 : w.heap.size ≤ M) :
    Two w.heap.size (w1.alloc (.cells #[.slice none 0 0] 30)) b M w1.heap.size (.slice none 0 0) [] [] := by
  have ba : Below w1.heap.size w1 (w1.alloc (.cells #[.slice none 0 0] 30)) := (Below.refl _ _).alloc (Nat.le_refl _) _
  have hl := hd.lt
  exact ⟨hd.below ba, ⟨World.alloc_heap_new w1 _, World.ownsRow_nil _ _ _ _, hb.size⟩, h2, h1, by omega, by omega, by simp [Value.ownBlock], by simp [Value.ownBlock], Nat.le_trans hb.size ba.size⟩
theorem act_cells {w : World} {p : Addr} {x : Act} (h : ActAt w p x) : w.cell? p = some (.int .i64 x.todo) ∧ w.cell? ⟨p.block, p.off + 1, none⟩ = some (.string x.uri) ∧ w.cell? ⟨p.block, p.off + 2, none⟩ = some (.string x.text) ∧ w.cell? ⟨p.block, p.off + 3, none⟩ = some (.int .i64 x.times) ∧
    w.cell? ⟨p.block, p.off + 4, none⟩ = some (.int .i64 x.ver) ∧ w.cell? ⟨p.block, p.off + 5, none⟩ = some (.slice x.lp x.ln x.lc) ∧ w.cell? ⟨p.block, p.off + 6, none⟩ = some (.int .u8 x.fill) := ⟨h.c0, h.c1, h.c2, h.c3, h.c4, h.c5, h.c6⟩
theorem bytes_refl (x : ByteArray) : (x.toList == x.toList) = true := by simp
set_option maxRecDepth 100000 in
set_option maxHeartbeats 8000000 in
theorem plays_walk (w : World) (hT : Tabs w) (p : Option Addr) (n c : Nat) (hn2 : n ≤ maxLen) (hl : ∃ l : List Act, n = l.length ∧ ActsAt w p l) :
    Calls Tryz.prog 3 #[.slice p n c] w fun e w' => e = .returned (.bool true) ∧ Below w.heap.size w w' := by
  obtain ⟨l, hn, hI⟩ := hl
  have hw := works_any
  have hlg := large_any w p n c l hn hn2 hI
  cases hB : largeB l with
  | true =>
    rw [hB] at hlg
    clear hn hI hB
    go_enter Tryz.func3, Tryz.ntmps3
    go_wp2_with (first
      | (go_at_call 9; refine hlg.mono ?_; rintro e w1 ⟨rfl, hww⟩; subst w1)
      | (go_at_call 10; refine (hw _ hT).mono ?_; rintro e w2 ⟨rfl, hb2⟩))
    go_ret
    exact ⟨rfl, hb2⟩
  | false =>
  rw [hB] at hlg
  have hsm := small_of hB
  have HN := Lib.hid hn
  have HI := Lib.hid hI
  have HS := Lib.hid hsm
  have hn12 : n ≤ 12 := by have := hsm.2; omega
  have hlo := hT.lo
  clear hn hI hB hsm
  go_enter Tryz.func3, Tryz.ntmps3
  go_wp2_with (first
    | (go_at_call 9; refine hlg.mono ?_; rintro e w1 ⟨rfl, hww⟩; subst w1)
    | (go_at_call 11; refine (new_any _).mono ?_; rintro e w1 ⟨b, M, rfl, hd1, hb1, hbb, hMM⟩))
  have T0 := two_start hd1 hb1 hbb hMM
  have B0 : Below w.heap.size w (w1.alloc (.cells #[.slice none 0 0] 30)) := hb1.alloc hb1.size _
  clear hlg
  go_loopw [5] (fun iv wr => ∃ (k : Nat) (v : Value) (L : List Doc), iv = .int .i64 k ∧ k ≤ n ∧ Inv L ∧ Two w.heap.size wr b M w1.heap.size v L L ∧ Below w.heap.size w wr) (fun iv _ => n - (RowKit.intOf iv).toNat)
  case atStart => exact ⟨0, _, [], rfl, Nat.zero_le _, Inv.nil, T0, B0⟩
  case round =>
    obtain ⟨k, v, L, rfl, hk, hInv, T, hB⟩ := hrel
    clear T0 B0 hd1 hb1
    by_cases hkn : (k : Int) < (n : Int)
    · obtain ⟨x, hx⟩ : ∃ x, l[k]? = some x := ⟨_, List.getElem?_eq_getElem (by have := HN.out; omega)⟩
      have hok := HS.out.1 x (List.mem_of_getElem? hx)
      obtain ⟨a, rfl, hA0⟩ := HI.out k x hx
      have HC : Hid (∀ w', Below w.heap.size w w' → ActAt w' (a.add (k * 7)) x) := Lib.hid fun w' hb => hA0.below hb
      have hdir := fun w2 hb => dir_any x.uri w2 (by have := hok.1; omega) (hT.below hb).mx (fun w' hb2 => ((hT.below hb).below hb2).sp)
      have hrdir := fun w2 => rdir_any x.uri w2 (by have := hok.1; omega)
      have hdo := fun w2 (T : Two w.heap.size w2 b M w1.heap.size v L L) hb => do_any w2 (hT.below hb) w.heap.size b M w1.heap.size v L (by omega) T hInv x hok hA0.flo hA0.fhi hA0.len (fun w' hb2 => (HC.out w' (hb.trans hb2)).chgs)
      have hal := fun w2 v2 (T : Two w.heap.size w2 b M w1.heap.size v2 (actL L x) (actL L x)) => alike_any w2 w.heap.size b M w1.heap.size v2 (actL L x) T (hInv.act x) x.uri (by have := hok.1; omega)
      obtain ⟨dn, hdn⟩ := dirVal_ok (dirV x.uri.data.toList)
      simp only [hdn] at hdir hrdir
      obtain ⟨ok, hok2⟩ : ∃ o, (dirV x.uri.data.toList).isSome = o := ⟨_, rfl⟩
      simp only [hok2] at hdir hrdir
      have hI2 := Lib.hid (hInv.act x)
      obtain ⟨LX, hLX⟩ : ∃ LX, actL L x = LX := ⟨_, rfl⟩
      simp only [hLX] at hdo hal hI2
      have HD := Lib.hid hdir
      have HRD := Lib.hid hrdir
      have HDO := Lib.hid hdo
      have HAL := Lib.hid hal
      have hss := bytes_refl dn
      have hoo : (ok == ok) = true := by simp
      have c0 := (HC.out wr hB).c0
      have c1 := (HC.out wr hB).c1
      clear hdir hrdir hdo hal hok2 hdn hLX hInv hA0 hx hok
      unfold actVal at HDO
      go_wp2_with (first
        | (go_at_call 12; refine (HD.out _ hB).mono ?_; rintro e w2 ⟨rfl, hb2⟩; have T2 := T.below hb2; have B2 := hB.trans (hb2.mono hB.size); obtain ⟨s0, s1, s2, s3, s4, s5, s6⟩ := act_cells (HC.out w2 B2))
        | (go_at_call 13; refine (HRD.out _).mono ?_; rintro e w3 ⟨rfl, hb3⟩; have T3 := T2.below hb3; have B3 := B2.trans (hb3.mono B2.size); obtain ⟨t0, t1, t2, t3, t4, t5, t6⟩ := act_cells (HC.out w3 B3))
        | (go_at_call 14; refine (HDO.out _ T3 B3).mono ?_; rintro e w4 ⟨rfl, v4, T4, S4⟩; have B4 := B3.trans (T3.step S4); obtain ⟨u0, u1, u2, u3, u4, u5, u6⟩ := act_cells (HC.out w4 B4))
        | (go_at_call 15; refine (HAL.out _ _ T4).mono ?_; rintro e w5 ⟨rfl, hb5⟩; have T5 := T4.below hb5; have B5 := B4.trans (hb5.mono B4.size)))
      go_roundw
      case rel => exact ⟨k + 1, v4, LX, by go_num, by omega, hI2.out, T5, B5⟩
      case measure => simp [RowKit.intOf]; omega
    · go_wp2_with (first
        | (go_at_call 10; refine (hw _ (hT.below hB)).mono ?_; rintro e w2 ⟨rfl, hb2⟩))
      go_ret
      exact ⟨rfl, hB.trans (hb2.mono hB.size)⟩
end Go.Proofs.Dc
