/- LinesBack's walk. -/
import Derived.Test.YtipbojiialfmeaaDoorBack
import Derived.Test.YtipbojiialfmeaaDoorW3
namespace Go.Proofs.YtipbojiialfmeaaDoor
open Go.RowKit Go.Proofs.Utf Go.Lib

set_option maxRecDepth 100000 in
set_option maxHeartbeats 1600000 in
theorem law_lback (s : ByteArray) (a : Int) (w : World) (hs : s.size ≤ 140737488355328) (ha0 : 0 ≤ a) (ha1 : a ≤ 65535) (hT : Tabs w) :
    Calls Tryd.prog 10 #[.string s, .int .u16 a] w fun e w' => e = .returned (.bool true) ∧ Below w.heap.size w w' := by
  have c29 := fun w => long6_any s w hs
  by_cases hl : 3000 < s.size
  · rw [decide_eq_true hl] at c29
    go_enter Tryd.func10, Tryd.ntmps10
    go_wp2_with (first
      | (go_at_call 29; refine (c29 _).mono ?_; rintro e w' ⟨rfl, hw⟩; rw [hw])
      | (go_at_call 30; refine (works6_any _).mono ?_; rintro e w1 ⟨rfl, hw1⟩))
    go_ret
    exact ⟨rfl, hw1⟩
  rw [decide_eq_false hl] at c29
  obtain ⟨p, hp⟩ : ∃ p : Nat, (p : Int) = a % ((s.size : Int) + 1) := ⟨(a % ((s.size : Int) + 1)).toNat, by have := Int.emod_nonneg a (show ((s.size : Int) + 1) ≠ 0 by omega); omega⟩
  have hp1 : p ≤ s.size := by have := Int.emod_lt_of_pos a (show (0 : Int) < (s.size : Int) + 1 by omega); omega
  obtain ⟨q, hq, hqp, hq3, hcase⟩ := back_plain s p hp1
  have c32 := fun w => at_P s p w (by omega)
  have c31 := fun w => offset_any s (atP s p).1 (atP s p).2 w (by omega)
  rw [hq] at c31
  generalize atP s p = A at *
  obtain ⟨ln, ch⟩ := A
  clear hq
  have hp' := hp.symm
  clear hp
  have hw1' : IntKind.i64.wrap ((s.size : Int) + 1) = (s.size : Int) + 1 := IntWalk.i64_in _ (by omega)
  have hw2' : IntKind.i64.wrap a = a := IntWalk.i64_in _ (by omega)
  have htm : a.tmod ((s.size : Int) + 1) = (p : Int) := by rw [Int.tmod_eq_emod_of_nonneg ha0]; exact hp'
  have hne : ((s.size : Int) + 1 == 0) = false := by rw [beq_eq_false_iff_ne]; omega
  have hne2 : ¬ ((s.size : Int) + 1 = 0) := by omega
  have hw3' : IntKind.i64.wrap (p : Int) = (p : Int) := IntWalk.i64_in _ (by omega)
  have hw4' : IntKind.i64.wrap ((p : Int) - (q : Int)) = (p : Int) - (q : Int) := IntWalk.i64_in _ (by omega)
  have hg1 : ¬ (p : Int) < (q : Int) := by omega
  have hg2 : ¬ (3 : Int) < (p : Int) - (q : Int) := by omega
  have hg3 : ¬ (q : Int) < 0 := by omega
  clear hp'
  by_cases hqe : q = p
  · subst hqe
    clear hcase
    go_enter Tryd.func10, Tryd.ntmps10
    go_wp2_with (first
      | (go_at_call 29; refine (c29 _).mono ?_; rintro e w' ⟨rfl, hw⟩; rw [hw])
      | (go_at_call 32; refine (c32 _).mono ?_; rintro e w1 ⟨rfl, hw1⟩)
      | (go_at_call 31; refine (c31 _).mono ?_; rintro e w2 ⟨rfl, hw2⟩; have hB2 := hw1.trans (hw2.mono hw1.size))
      | (go_at_call 30; refine (works6_any _).mono ?_; rintro e w4 ⟨rfl, hw4⟩))
    go_ret
    exact ⟨rfl, hB2.trans (hw4.mono hB2.size)⟩
  have hqe1 : ((q : Int) == (p : Int)) = false := beq_eq_false_iff_ne.2 (by omega)
  have hqs : q < s.size := by omega
  have hqi : (q : Int) < (s.size : Int) := by omega
  have hd : ¬ (p = q + 1 ∧ s.data.toList[q]? = some 13 ∧ s.data.toList[p]? = some 10) → p < q + headW (s.data.toList.drop q) := fun h => by
    rcases hcase with h1 | h1 | ⟨_, h1⟩
    · exact (hqe h1).elim
    · exact (h h1).elim
    · exact h1
  have h4 := headW_le4 (s.data.toList.drop q)
  have c21 := fun w hT => utfDecode_in s q w hs hqs hT
  have d13 := data_getElem? s q hqs
  clear hcase
  generalize headW (s.data.toList.drop q) = n at *
  generalize headP (s.data.toList.drop q) = P at *
  have hw5 : IntKind.i64.wrap ((q : Int) + (n : Int)) = (q : Int) + (n : Int) := IntWalk.i64_in _ (by omega)
  by_cases h1 : p = q + 1
  · have e1 : (((p : Int) - (q : Int)) == 1) = true := beq_iff_eq.2 (by omega)
    by_cases h13 : s[q]'hqs = 13
    · by_cases hps : p < s.size
      · have hpi : (p : Int) < (s.size : Int) := by omega
        have d10 := data_getElem? s p hps
        by_cases h10 : s[p]'hps = 10
        · clear hd h1 d13 d10
          go_enter Tryd.func10, Tryd.ntmps10
          go_wp2_with (first
            | (go_at_call 29; refine (c29 _).mono ?_; rintro e w' ⟨rfl, hw⟩; rw [hw])
            | (go_at_call 32; refine (c32 _).mono ?_; rintro e w1 ⟨rfl, hw1⟩)
            | (go_at_call 31; refine (c31 _).mono ?_; rintro e w2 ⟨rfl, hw2⟩; have hB2 := hw1.trans (hw2.mono hw1.size))
            | (go_at_call 30; refine (works6_any _).mono ?_; rintro e w4 ⟨rfl, hw4⟩))
          go_ret
          exact ⟨rfl, hB2.trans (hw4.mono hB2.size)⟩
        · have hn := hd (fun h => h10 (by rw [d10] at h; simpa using h.2.2))
          have hni : (p : Int) < (q : Int) + (n : Int) := by omega
          have hx : (((s[p]'hps).toNat : Int) == 10) = false := beq_eq_false_iff_ne.2 (fun e => h10 (UInt8.toNat_inj.1 (by simpa using Int.ofNat.inj e)))
          clear hd h1 d13 d10
          go_enter Tryd.func10, Tryd.ntmps10
          go_wp2_with (first
            | (go_at_call 29; refine (c29 _).mono ?_; rintro e w' ⟨rfl, hw⟩; rw [hw])
            | (go_at_call 32; refine (c32 _).mono ?_; rintro e w1 ⟨rfl, hw1⟩)
            | (go_at_call 31; refine (c31 _).mono ?_; rintro e w2 ⟨rfl, hw2⟩; have hB2 := hw1.trans (hw2.mono hw1.size))
            | (go_at_call 21; refine (c21 _ (hT.below hB2)).mono ?_; rintro e w3 ⟨rfl, hw3⟩; have hB3 := hB2.trans (hw3.mono hB2.size))
            | (go_at_call 30; refine (works6_any _).mono ?_; rintro e w4 ⟨rfl, hw4⟩))
          go_ret
          exact ⟨rfl, hB3.trans (hw4.mono hB3.size)⟩
      · have hpi : ¬ (p : Int) < (s.size : Int) := by omega
        have hn := hd (fun h => by have := (List.getElem?_eq_some_iff.1 h.2.2).1; rw [← size_eq] at this; omega)
        have hni : (p : Int) < (q : Int) + (n : Int) := by omega
        clear hd h1 d13
        go_enter Tryd.func10, Tryd.ntmps10
        go_wp2_with (first
          | (go_at_call 29; refine (c29 _).mono ?_; rintro e w' ⟨rfl, hw⟩; rw [hw])
          | (go_at_call 32; refine (c32 _).mono ?_; rintro e w1 ⟨rfl, hw1⟩)
          | (go_at_call 31; refine (c31 _).mono ?_; rintro e w2 ⟨rfl, hw2⟩; have hB2 := hw1.trans (hw2.mono hw1.size))
          | (go_at_call 21; refine (c21 _ (hT.below hB2)).mono ?_; rintro e w3 ⟨rfl, hw3⟩; have hB3 := hB2.trans (hw3.mono hB2.size))
          | (go_at_call 30; refine (works6_any _).mono ?_; rintro e w4 ⟨rfl, hw4⟩))
        go_ret
        exact ⟨rfl, hB3.trans (hw4.mono hB3.size)⟩
    · have hn := hd (fun h => h13 (by rw [d13] at h; simpa using h.2.1))
      have hni : (p : Int) < (q : Int) + (n : Int) := by omega
      have hx : (((s[q]'hqs).toNat : Int) == 13) = false := beq_eq_false_iff_ne.2 (fun e => h13 (UInt8.toNat_inj.1 (by simpa using Int.ofNat.inj e)))
      clear hd h1 d13
      go_enter Tryd.func10, Tryd.ntmps10
      go_wp2_with (first
        | (go_at_call 29; refine (c29 _).mono ?_; rintro e w' ⟨rfl, hw⟩; rw [hw])
        | (go_at_call 32; refine (c32 _).mono ?_; rintro e w1 ⟨rfl, hw1⟩)
        | (go_at_call 31; refine (c31 _).mono ?_; rintro e w2 ⟨rfl, hw2⟩; have hB2 := hw1.trans (hw2.mono hw1.size))
        | (go_at_call 21; refine (c21 _ (hT.below hB2)).mono ?_; rintro e w3 ⟨rfl, hw3⟩; have hB3 := hB2.trans (hw3.mono hB2.size))
        | (go_at_call 30; refine (works6_any _).mono ?_; rintro e w4 ⟨rfl, hw4⟩))
      go_ret
      exact ⟨rfl, hB3.trans (hw4.mono hB3.size)⟩
  · have e1 : (((p : Int) - (q : Int)) == 1) = false := beq_eq_false_iff_ne.2 (by omega)
    have hn := hd (fun h => h1 h.1)
    have hni : (p : Int) < (q : Int) + (n : Int) := by omega
    clear hd h1 d13
    go_enter Tryd.func10, Tryd.ntmps10
    go_wp2_with (first
      | (go_at_call 29; refine (c29 _).mono ?_; rintro e w' ⟨rfl, hw⟩; rw [hw])
      | (go_at_call 32; refine (c32 _).mono ?_; rintro e w1 ⟨rfl, hw1⟩)
      | (go_at_call 31; refine (c31 _).mono ?_; rintro e w2 ⟨rfl, hw2⟩; have hB2 := hw1.trans (hw2.mono hw1.size))
      | (go_at_call 21; refine (c21 _ (hT.below hB2)).mono ?_; rintro e w3 ⟨rfl, hw3⟩; have hB3 := hB2.trans (hw3.mono hB2.size))
      | (go_at_call 30; refine (works6_any _).mono ?_; rintro e w4 ⟨rfl, hw4⟩))
    go_ret
    exact ⟨rfl, hB3.trans (hw4.mono hB3.size)⟩
end Go.Proofs.YtipbojiialfmeaaDoor
