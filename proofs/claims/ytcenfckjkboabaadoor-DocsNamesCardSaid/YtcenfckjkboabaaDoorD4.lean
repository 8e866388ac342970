/- The reference's Dir. -/
import Derived.Test.YtcenfckjkboabaaDoorD3
namespace Go.Proofs.Dc
open Go.RowKit Go.Proofs Go.Lib

theorem bytes_lit (x : ByteArray) (l : List UInt8) : (x.toList == l) = decide (x.data.toList = l) := by
  rw [ByteArray.toList_eq]
  by_cases h : x.data.toList = l
  · rw [decide_eq_true h, h]; simp
  · rw [decide_eq_false h]; simpa using h
set_option maxRecDepth 100000 in
set_option maxHeartbeats 4000000 in
theorem rdir_any (u : ByteArray) (w : World) (hu : u.size ≤ 1000000) : Calls Tryd.prog 9 #[.string u] w fun e w' => e = .returned (dirVal (dirV u.data.toList)) ∧ Below w.heap.size w w' := by
  obtain ⟨O, hO⟩ : ∃ O, dirV u.data.toList = O := ⟨_, rfl⟩
  rw [hO]
  have hsl := Lib.size_eq u
  by_cases h8 : (u.size : Int) - 3 < 8
  · have hn : O = none := by rw [← hO]; exact dir_short (by rw [← hsl]; omega)
    subst hn
    clear hO hsl
    go_enter Tryd.func9, Tryd.ntmps9
    go_wp2
    go_ret2
    exact ⟨rfl, Below.refl _ _⟩
  have hz : (8 : Int) ≤ (u.size : Int) := by omega
  have hz3 : (3 : Int) ≤ (u.size : Int) := by omega
  by_cases hp : u.data.toList.take 8 = ahead
  · have hx := bytes_lit (u.extract 0 8) [102, 105, 108, 101, 58, 47, 47, 47]
    rw [ext_list, List.drop_zero, decide_eq_true (by exact hp)] at hx
    obtain ⟨E, hE⟩ : ∃ E, u.extract 0 8 = E := ⟨_, rfl⟩
    rw [hE] at hx
    have ht : ((u.size : Int) - 3).toNat = u.size - 3 := by omega
    by_cases hq : u.data.toList.drop (u.data.toList.length - 3) = dotgo
    · have hy := bytes_lit (u.extract (u.size - 3) u.size) [46, 103, 111]
      rw [Lib.extract_to_end, decide_eq_true (by rw [hsl]; exact hq)] at hy
      obtain ⟨F, hF⟩ : ∃ F, u.extract (u.size - 3) u.size = F := ⟨_, rfl⟩
      rw [hF] at hy
      have hparts := dir_parts hp hq (by rw [← hsl]; omega)
      obtain ⟨S, hS⟩ : ∃ S, u.extract 8 (u.size - 3) = S := ⟨_, rfl⟩
      have hSl : S.data.toList = (u.data.toList.drop 8).take (u.size - 3 - 8) := by rw [← hS, ext_list]
      rw [← hsl, ← hSl] at hparts
      have hSs : S.size ≤ 1000000 := by rw [← hS, ByteArray.size_extract]; omega
      have hat := fun i h47 h1 h2 h3 => (dir_at hparts i h47 h1 h2 h3).symm.trans hO
      have hno := fun h => (dir_no hparts h).symm.trans hO
      have HAT := Lib.hid hat
      have HNO := Lib.hid hno
      have HSL := Lib.hid (Lib.size_eq S)
      clear hat hno hparts hSl hO hsl hp hq
      have z1 : (0 : Int) ≤ (u.size : Int) - 3 := by omega
      have z2 : (8 : Int) ≤ (u.size : Int) - 3 := by omega
      go_enter Tryd.func9, Tryd.ntmps9
      go_wp2
      go_loopw [6] (fun v wr => ∃ k : Nat, v = .int .i64 k ∧ k ≤ S.size ∧ (∀ j, j < k → S.data.toList[j]? = some 47 → ¬ (nameB (S.data.toList.take j) = true ∧ resB (S.data.toList.take j) = false ∧ nameB (S.data.toList.drop (j + 1)) = true)) ∧ Below w.heap.size w wr) (fun v _ => S.size - (RowKit.intOf v).toNat)
      case atStart => exact ⟨0, rfl, Nat.zero_le _, fun j h => by omega, Below.refl _ _⟩
      case round =>
        obtain ⟨k, rfl, hk, hn, hB⟩ := hrel
        have HN := Lib.hid hn
        clear hn
        by_cases hkn : (k : Int) < (S.size : Int)
        · have hks : k < S.size := by omega
          have hnx : ¬ (S.data.toList[k]? = some 47 ∧ nameB (S.data.toList.take k) = true ∧ resB (S.data.toList.take k) = false ∧ nameB (S.data.toList.drop (k + 1)) = true) → ∀ j, j < k + 1 → S.data.toList[j]? = some 47 → ¬ (nameB (S.data.toList.take j) = true ∧ resB (S.data.toList.take j) = false ∧ nameB (S.data.toList.drop (j + 1)) = true) := fun h j hj h47 => by
            by_cases e : j = k
            · subst e
              exact fun hh => h ⟨h47, hh⟩
            · exact HN.out j (by omega) h47
          have HNX := Lib.hid hnx
          clear hnx
          by_cases h47 : S[k].toNat = 47
          · have hk47 : S.data.toList[k]? = some 47 := by rw [list_get S k hks]; exact congrArg some (UInt8.toNat_inj.1 h47)
            have u1 : ((S[k].toNat : Int) == 47) = true := beq_iff_eq.2 (by omega)
            have n1 := fun w => rname_any (S.extract 0 k) w (by rw [ByteArray.size_extract]; omega)
            have n2 := fun w => rname_any (S.extract (k + 1) S.size) w (by rw [ByteArray.size_extract]; omega)
            have n3 := fun w => rres_any (S.extract 0 k) w
            rw [ext_list, List.drop_zero, Nat.sub_zero] at n1 n3
            rw [Lib.extract_to_end] at n2
            have hat := HAT.out k hk47
            have k1 : (k : Int) + 1 ≤ (S.size : Int) := by omega
            have hfin : (⟨(S.data.toList.take k).toArray⟩ : ByteArray) = S.extract 0 k := by
              apply ByteArray.ext
              apply Array.toList_inj.1
              rw [ext_list, List.drop_zero, Nat.sub_zero]
            obtain ⟨x1, hx1⟩ : ∃ x, nameB (S.data.toList.take k) = x := ⟨_, rfl⟩
            obtain ⟨x2, hx2⟩ : ∃ x, nameB (S.data.toList.drop (k + 1)) = x := ⟨_, rfl⟩
            obtain ⟨x3, hx3⟩ : ∃ x, resB (S.data.toList.take k) = x := ⟨_, rfl⟩
            rw [hx1] at n1
            rw [hx2] at n2
            rw [hx3] at n3
            have HX := Lib.hid (And.intro hx1 (And.intro hx2 hx3))
            clear hx1 hx2 hx3 h47 hk47
            cases x1 with
            | false =>
              clear hat
              go_wp2_with (first
                | (go_at_call 31; refine (n1 _).mono ?_; rintro e w1 ⟨rfl, hw⟩; subst w1))
              go_roundw
              case rel => exact ⟨k + 1, by go_num, by omega, HNX.out (fun h => by have := h.2.1; rw [HX.out.1] at this; cases this), hB⟩
              case measure => simp [RowKit.intOf]; omega
            | true =>
            cases x3 with
            | true =>
              clear hat
              go_wp2_with (first
                | (go_at_call 31; refine (n1 _).mono ?_; rintro e w1 ⟨rfl, hw⟩; subst w1)
                | (go_at_call 32; refine (n3 _).mono ?_; rintro e w2 ⟨rfl, hb2⟩))
              go_roundw
              case rel => exact ⟨k + 1, by go_num, by omega, HNX.out (fun h => by have := h.2.2.1; rw [HX.out.2.2] at this; cases this), hB.trans (hb2.mono hB.size)⟩
              case measure => simp [RowKit.intOf]; omega
            | false =>
            cases x2 with
            | false =>
              clear hat
              go_wp2_with (first
                | (have GU := hb2; clear GU; go_at_call 31; refine (n2 _).mono ?_; rintro e w1 ⟨rfl, hw⟩; subst w1)
                | (go_at_call 31; refine (n1 _).mono ?_; rintro e w1 ⟨rfl, hw⟩; subst w1)
                | (go_at_call 32; refine (n3 _).mono ?_; rintro e w2 ⟨rfl, hb2⟩))
              go_roundw
              case rel => exact ⟨k + 1, by go_num, by omega, HNX.out (fun h => by have := h.2.2.2; rw [HX.out.2.1] at this; cases this), hB.trans (hb2.mono hB.size)⟩
              case measure => simp [RowKit.intOf]; omega
            | true =>
              have ho := hat HX.out.1 HX.out.2.2 HX.out.2.1
              subst ho
              have HF := Lib.hid hfin
              clear hat hfin
              go_wp2_with (first
                | (have GU := hb2; clear GU; go_at_call 31; refine (n2 _).mono ?_; rintro e w1 ⟨rfl, hw⟩; subst w1)
                | (go_at_call 31; refine (n1 _).mono ?_; rintro e w1 ⟨rfl, hw⟩; subst w1)
                | (go_at_call 32; refine (n3 _).mono ?_; rintro e w2 ⟨rfl, hb2⟩))
              go_ret2
              exact ⟨by rw [dirVal, HF.out]; rfl, hB.trans (hb2.mono hB.size)⟩
          · have u1 : ((S[k].toNat : Int) == 47) = false := beq_eq_false_iff_ne.2 (by omega)
            have HH : Hid (¬ (S.data.toList[k]? = some 47)) := Lib.hid (by rw [list_get S k hks]; exact fun e => h47 (by rw [Option.some.inj e]; rfl))
            clear h47
            go_wp2
            go_roundw
            case rel => exact ⟨k + 1, by go_num, by omega, HNX.out (fun h => HH.out h.1), hB⟩
            case measure => simp [RowKit.intOf]; omega
        · have hn := HNO.out fun i h47 => HN.out i (by have h1 := (List.getElem?_eq_some_iff.1 h47).1; have h2 := HSL.out; omega) h47
          subst hn
          go_wp2
          go_ret2
          exact ⟨rfl, hB⟩
    · have hn : O = none := by rw [← hO]; exact dir_tail hq
      have hy := bytes_lit (u.extract (u.size - 3) u.size) [46, 103, 111]
      rw [Lib.extract_to_end, decide_eq_false (by rw [hsl]; exact hq)] at hy
      obtain ⟨F, hF⟩ : ∃ F, u.extract (u.size - 3) u.size = F := ⟨_, rfl⟩
      rw [hF] at hy
      have z1 : (0 : Int) ≤ (u.size : Int) - 3 := by omega
      subst hn
      clear hO hsl hp hq
      go_enter Tryd.func9, Tryd.ntmps9
      go_wp2
      go_ret2
      exact ⟨rfl, Below.refl _ _⟩
  · have hn : O = none := by rw [← hO]; exact dir_head hp
    have hx := bytes_lit (u.extract 0 8) [102, 105, 108, 101, 58, 47, 47, 47]
    rw [ext_list, List.drop_zero, decide_eq_false (by exact hp)] at hx
    obtain ⟨E, hE⟩ : ∃ E, u.extract 0 8 = E := ⟨_, rfl⟩
    rw [hE] at hx
    subst hn
    clear hO hsl hp
    go_enter Tryd.func9, Tryd.ntmps9
    go_wp2
    go_ret2
    exact ⟨rfl, Below.refl _ _⟩
end Go.Proofs.Dc
